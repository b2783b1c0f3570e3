/- The reference's Join: the walk. The reference's additions, folds and joins are the program's: plain law. The law's examples. The law OrsetMatchesReference: its walk. -/
import Derived.Test.YtalbfikfbejnfaaZ5
/- The reference's Join: the walk. -/
set_option linter.unusedVariables false
set_option linter.unusedSimpArgs false
namespace Go.Proofs.Ytalbfikfbejnfaa.A
open Go.RowKit
attribute [local go_sem] Nat.reduceAdd Nat.reduceSub Nat.reduceMul Nat.reduceLT Nat.reduceLeDiff Nat.reduceEqDiff Nat.reduceBEq reduceIte reduceCtorEq e_step_none e_slotU e_slotB e_move e_assign e_pick e_unOp e_binOp e_alloc e_box e_build e_buildSlice e_load e_store e_fieldAddr e_field e_indexAddr e_index e_slice e_makeSlice e_makeFunc e_convert e_extract e_nilCheck e_len e_append e_max e_min e_call e_callV e_clo e_ev_tmp e_ev_int e_ev_bool e_ev_string e_ev_slice e_ev_nilFunc e_ev_nilIface e_ev_pointer e_ev_agg e_ev_func e_pickT e_pickF e_not e_neg e_add e_sub e_mul e_quo e_rem e_eql e_neq e_lss e_leq e_gtr e_geq e_beq e_bne e_sadd e_seql e_sneq e_b2_d e_b2_nil e_b2_nnil e_b2_agg e_lits_nil e_lits_cons e_litC e_eqR e_eqO_e e_eqO_n e_eqV4 e_eqV3 e_eqV2 e_eqV1 e_eqFs_nil e_eqFs_cons e_and2 e_eq1 e_eqL_i e_eqL_s e_eqL_b e_allocR e_boxR e_box_agg e_box_d e_box_own e_box_clo e_one_nil e_one_d e_one_own e_one_clo e_one_ptr e_cells_agg e_cells_d e_cells_own e_cells_clo e_cells_ptr e_ob_own e_ob_ptr e_ob_elo e_ob_d e_ob_el e_ob_agg e_load_box e_load_fzb e_load_el e_load_elo e_store_box e_storeB e_store_elo e_store_elo_agg e_storeE e_fa_ptr e_fa_el e_fa_elo e_faR e_fd e_fdR e_ia_d e_ia_row e_ia_fz e_ia_ptr e_ia_el e_ix_s e_ix_a e_len_s e_len_nil e_len_d e_len_row e_len_fz e_conv_i e_conv_s e_extr e_maxR e_minR e_nil_ptr e_nil_el e_nil_elo e_rows_nil e_rows_d e_rows_row e_rows_fz e_rok_nil e_rok_d e_rok_row e_rok_fz e_app_row e_appR e_app_nil e_appN e_make e_bnd_none e_bnd_some e_optmap_none e_optmap_some e_slR e_slRe e_sl_s e_sl_d e_sl_nil e_sl_row e_sl_fz e_fill_nil e_fill_cons e_fill1 e_placeS e_plS e_placeE e_buildO e_build1 e_build2 e_build3 e_bindD e_bs e_bsR e_allD_nil e_allD_cons e_allD1 e_chunk0 e_chunkS e_clP_nil e_clP_cons e_cl_d e_cl_any e_cl_el e_cl_agg e_cl_tup e_cl_clo e_cl_own e_clOwn_row e_clOwn_fz e_cl_ptr e_clPtr_box e_clBox e_clPtr_fzb e_clL_nil e_clL_cons e_ok_d e_ok_any e_ok_el e_ok_agg e_ok_tup e_ok_clo e_ok_own e_okOwn_row e_okOwn_fz e_ok_ptr e_okPtr_box e_okPtr_fzb e_okL_nil e_okL_cons e_ids_d e_ids_any e_ids_el e_ids_own e_ids_ptr e_ids_agg e_ids_tup e_ids_clo e_idsL_nil e_idsL_cons e_frz_nil e_frz_cons e_frz_row e_frz_fz e_frz_fzb e_frz_box e_frzB e_flat_lit e_flat_sl e_flat_agg e_flat_tup e_flat_any e_flat_clo e_flatL_nil e_flatL_cons e_objD e_setMany e_takeA e_zerosA e_gdL e_idsG e_idsOp e_callV' e_callF' e_o_move e_o_assign e_o_pick e_o_unOp e_o_binOp e_o_alloc e_o_box e_o_build e_o_buildSlice e_o_load e_o_store e_o_fieldAddr e_o_field e_o_indexAddr e_o_index e_o_slice0 e_o_slice1 e_o_slice2 e_o_slice3 e_o_makeSlice e_o_makeFunc e_o_convert e_o_extract e_o_nilCheck e_o_bcall e_o_vcall litI litB litS List.map_cons List.map_nil List.getD_cons_zero List.getD_cons_succ List.getD_nil List.getElem?_cons_zero List.getElem?_cons_succ List.getElem?_nil Option.getD_some Option.getD_none Option.map_some Option.map_none List.length_cons List.length_nil List.all_cons List.all_nil Bool.and_true Bool.true_and and_true true_and and_self
attribute [local go_sem] List.take_zero List.take_succ_cons List.drop_zero List.drop_succ_cons List.nil_append List.cons_append List.append_nil List.replicate_succ List.replicate_zero List.flatten_cons List.flatten_nil Nat.zero_add Nat.add_zero Nat.mul_one Nat.zero_mul Nat.one_mul Nat.mul_zero List.set_cons_zero List.set_cons_succ List.foldl_cons List.foldl_nil appendOk rowsOk inB sliceOk cutRows mtake mdrop List.length_append List.length_take List.length_drop if_true if_false or_false or_true true_or Bool.not_true Bool.not_false Bool.false_eq_true List.length_map Int.toNat_natCast Int.toNat_zero Int.toNat_one eq_self St.after St.put applyEff R0 T1 T2 T3 T4 T5 T6 T7 T8 T9 T10 T11 T12 T13 T14 T15 T16 T17 T18 T19 T20 T21 T22 T23 T24 T25 T26 T27 T28 T29 T30 T31 T32 T33 T34 T35 T36 T37 T38 T39 T40 T41 T42 T43 T44 T45 T46 T47 T48 T49 T50 T51 T52 T53 T54 T55 T56 T57 T58 T59 T60 T61 T62 T63 T64 T65 T66 T67 T68 T69 T70 T71 T72 T73 T74 T75 T76 T77 T78 T79 T80 T81 T82 T83 T84 T85 T86 T87 T88 T89 T90 T91 T92 T93 T94 T95 T96 T97 T98 T99 T100 T101 T102 T103 T105 T106 T107 T108 T109 T110 T111 T112 T113 T114 T117 T118 T119 T120 T121 T122 T123 T124 T125 T126 T127 T130 T131 T132 T133 T134 ti1 ti2 ti3 ti4 ti5 ti6 ti7 ti8 ti9 ti10 ti11 ti12 ti13 ti14 ti15 ti16 ti17 ti18 ti19 ti20 ti21 ti22 ti23 ti24 ti25 ti26 ti27 ti28 ti29 ti30 ti31 ti32 ti33 ti34 ti35 ti36 ti37 ti38 ti39 ti40 ti41 ti42 ti43 ti44 ti45 ti46 ti47 ti48 ti49 ti50 ti51 ti52 ti53 ti54 ti55 ti56 ti57 ti58 ti59 ti60 ti61 ti62 ti63 ti64 ti65 ti66 ti67 ti68 ti69 ti70 ti71 ti72 ti73 ti74 ti75 ti76 ti77 ti78 ti79 ti80 ti81 ti82 ti83 ti84 ti85 ti86 ti87 ti88 ti89 ti90 ti91 ti92 ti93 ti94 ti95 ti96 ti97 ti98 ti99 ti100 ti101 ti102 ti103 ti105 ti106 ti107 ti108 ti109 ti110 ti111 ti112 ti113 ti114 ti117 ti118 ti119 ti120 ti121 ti122 ti123 ti124 ti125 ti126 ti127 ti130 ti131 ti132 ti133 ti134
attribute [local irreducible] AWp evOps evD
def stepA (b : List Nm) (y : List Int) (t : List Nm) (n : Nm) : List Nm := if (inL b n || !inCut y n.1 n.2) = true then addN t n else t
def stepB (x : List Int) (t : List Nm) (n : Nm) : List Nm := if inCut x n.1 n.2 = true then t else addN t n
theorem stepA_len (b : List Nm) (y : List Int) (t : List Nm) (n : Nm) : (stepA b y t n).length ≤ t.length + 1 := by
  unfold stepA
  split
  · exact addN_len _ _
  · omega
theorem stepB_len (x : List Int) (t : List Nm) (n : Nm) : (stepB x t n).length ≤ t.length + 1 := by
  unfold stepB
  split
  · omega
  · exact addN_len _ _
def halfR (a b : List Nm) (y : List Int) : List Nm := a.foldl (stepA b y) []
def joinR (a : List Nm) (x : List Int) (b : List Nm) (y : List Int) : List Nm := b.foldl (stepB x) (halfR a b y)
set_option maxHeartbeats 4000000 in
set_option maxRecDepth 4000 in
theorem f32_spec (a : List Nm) (x : List Int) (b : List Nm) (y : List Int) (hb0 : a.length + b.length ≤ 16777215) : Spec Try.prog 32 [.agg (rep a x), .agg (rep b y)] (.agg (rep (joinR a x b y) (joinL x y))) := by
  refine spec_of_awp (fn := Try.f32) Try.func32 (by kernel_rfl) rfl ?_
  intro w0 C0
  simp only [Try.ntmps32, litI, litB, litS, List.length_cons, List.length_nil, Nat.reduceAdd, Nat.reduceSub, List.replicate_succ, List.replicate_zero, List.cons_append, List.nil_append]
  repeat' first
    | refine awp_seq ?_
    | refine awp_block ?_
    | refine awp_skip ?_
    | (refine reg _ (by (simp only [List.map_cons, List.map_nil]; rfl)) rfl ?_; intro K hK)
    | (refine awp_cond _ (by rfl) ?_ ?_ <;> (intro hb; first | (cases hb; done) | (have ht : true = true := hb; clear ht hb) | (have ht : false = false := hb; clear ht hb) | (simp only [hb]) | skip))
    | (refine awp_exit ?_; simp only [thenA, blockA, reduceIte, RetQ, Nat.reduceEqDiff])
    | (refine awp_ret ?_; simp only [thenA, blockA, RetQ])
    | (refine ev_nil (hK _ ?_); clear hK K)
    | refine ev_guardU _ (by (simp only [go_sem, Bool.and_false, Bool.false_and, Bool.and_self, Int.reduceToNat]; rfl)) (by (simp only [go_sem, Bool.and_false, Bool.false_and, Bool.and_self, Int.reduceToNat]; rfl)) _ (by (simp only [go_sem, Bool.and_false, Bool.false_and, Bool.and_self, Int.reduceToNat]; rfl)) ?_
    | (refine ev_guardT _ _ (by (simp only [go_sem, Bool.and_false, Bool.false_and, Bool.and_self, Int.reduceToNat]; rfl)) (by (simp only [go_sem, Bool.and_false, Bool.false_and, Bool.and_self, Int.reduceToNat]; rfl)) ?_ ?_ <;> (intro hb; first | (cases hb; done) | (have ht : true = true := hb; clear ht hb) | (have ht : false = false := hb; clear ht hb) | (simp only [hb]) | skip))
    | (refine ev_guardF _ _ (by (simp only [go_sem, Bool.and_false, Bool.false_and, Bool.and_self, Int.reduceToNat]; rfl)) (by (simp only [go_sem, Bool.and_false, Bool.false_and, Bool.and_self, Int.reduceToNat]; rfl)) ?_ ?_ <;> (intro hb; first | (cases hb; done) | (have ht : true = true := hb; clear ht hb) | (have ht : false = false := hb; clear ht hb) | (simp only [hb]) | skip))
    | refine ev_call0 _ _ (by (simp only [go_sem, Bool.and_false, Bool.false_and, Bool.and_self, Int.reduceToNat]; rfl)) (by first | exact f38_spec ..) (by (simp only [go_sem, Bool.and_false, Bool.false_and, Bool.and_self, Int.reduceToNat])) _ (by (simp only [go_sem, Bool.and_false, Bool.false_and, Bool.and_self, Int.reduceToNat]; rfl)) ?_
    | refine ev_callC _ _ _ _ (by (simp only [go_sem, Bool.and_false, Bool.false_and, Bool.and_self, Int.reduceToNat]; rfl)) (by (simp only [go_sem, Bool.and_false, Bool.false_and, Bool.and_self, Int.reduceToNat]; rfl)) (by first | exact f38_spec ..) (by (simp only [go_sem, Bool.and_false, Bool.false_and, Bool.and_self, Int.reduceToNat])) _ (by (simp only [go_sem, Bool.and_false, Bool.false_and, Bool.and_self, Int.reduceToNat]; rfl)) ?_
    | refine ev_step0 _ _ (by (simp only [go_sem, Bool.and_false, Bool.false_and, Bool.and_self, Int.reduceToNat]; rfl)) (by (first | trivial | decide | (simp only [inB, sliceOk, appendOk, rowsOk]; omega) | (simp [inB, sliceOk, appendOk, rowsOk]; omega))) _ (by (simp only [go_sem, Bool.and_false, Bool.false_and, Bool.and_self, Int.reduceToNat]; rfl)) ?_
    | (refine ev_step _ (by (simp only [go_sem, Bool.and_false, Bool.false_and, Bool.and_self, Int.reduceToNat]; rfl)) (by (first | trivial | decide | (simp only [inB, sliceOk, appendOk, rowsOk]; omega) | (simp [inB, sliceOk, appendOk, rowsOk]; omega))) _ (fun g u => by (simp only [go_sem, Bool.and_false, Bool.false_and, Bool.and_self, Int.reduceToNat]; rfl)) ?_; intro g u; (try clear u); (try clear g))
    | fail
  rename_i g2 g3 g4
  refine awp_loopI (fun i : Nat => i ≤ a.length) (fun i => a.length - i) (fun i => ⟨[.any, .any, .ptr 2 g2 0, .ptr 3 g3 0, .ptr 4 g4 0, .ptr 5 g 0, litI .i64 i, .any, .any, .any, .any, .any, .any, .any, .any, .any, .any, .any, .any, .any, .any, .any, .any, .any, .any, .any, .any, .any, .any, .any, .any, .any, .any, .any, .any, .any, .any, .any, .any, .any, .any, .any, .any, .any, .any, .any, .any, .any, .any, .any, .any, .any, .any, .any, .any, .any, .any, .any, .any, .any, .any, .any, .any, .any, .any, .any, .any, .any, .any, .any, .any, .any, .any, .any, .any, .any], [.no, .no, .box g2 (rep a x), .box g3 (rep b y), .box g4 [.d (.lit (.slice none 0 0)), .d (.lit (.slice none 0 0))], .box g [.d (nms ((a.take i).foldl (stepA b y) [])), .d (ints (joinL x y))], .no, .no, .no, .no, .no, .no, .no, .no, .no, .no, .no, .no, .no, .no, .no, .no, .no, .no, .no, .no, .no, .no, .no, .no, .no, .no, .no, .no, .no, .no, .no, .no, .no, .no, .no, .no, .no, .no, .no, .no, .no, .no, .no, .no, .no, .no, .no, .no, .no, .no, .no, .no, .no, .no, .no, .no, .no, .no, .no, .no, .no, .no, .no, .no, .no, .no, .no, .no, .no, .no]⟩) 0 (by simp) ?_ ?_
  · refine (Wk.box 5 (g := g) (cs := [.d (.lit (.slice none 0 0)), .d (ints (joinL x y))]) (cs' := [.d (nms []), .d (ints (joinL x y))]) rfl ⟨LeA.nil _, LeA.refl _, trivial⟩).trans ?_
    simp only [List.set_cons_succ, List.set_cons_zero]
    refine Wk.mk ?_ ?_
    all_goals (repeat' first | exact trivial | exact LeA.refl _ | exact LeA.any _ | exact LeO.refl _ | exact LeO.no _ | exact LeA.nil _ | (refine LeA.i ?_; (first | rfl | (push_cast; rfl) | (rw [wrap_id (by omega)]; push_cast; omega) | (simp [wrap_id]; omega))) | refine ⟨?_, ?_⟩)
  intro i hi
  simp only [litI, litB] at hi ⊢
  by_cases hlt : i < a.length
  · have hdec : decide ((i : Int) < (a.length : Int)) = true := decide_eq_true (by omega)
    have hx := nms_at a hlt
    have hab1 : a.take (i + 1) = a.take i ++ [a.getD i (0, 0)] := by rw [List.take_succ_eq_append_getElem hlt]; simp [List.getD_eq_getElem?_getD, hlt]
    have hlen := foldl_len (stepA b y) (stepA_len b y) (a.take i) []
    simp only [List.length_take, List.length_nil] at hlen
    have hsn : (a.take (i + 1)).foldl (stepA b y) [] = stepA b y ((a.take i).foldl (stepA b y) []) (a.getD i (0, 0)) := by rw [hab1]; simp
    generalize a.getD i (0, 0) = n at *
    generalize (a.take i).foldl (stepA b y) [] = t at *
    have h27 := f27_spec t n (by omega)
    cases r1 : inL b n with
    | true =>
      have hs : stepA b y t n = addN t n := by simp [stepA, r1]
      repeat' first
        | refine awp_seq ?_
        | refine awp_block ?_
        | refine awp_skip ?_
        | (refine reg _ (by (simp only [List.map_cons, List.map_nil]; rfl)) rfl ?_; intro K hK)
        | (refine awp_cond _ (by rfl) ?_ ?_ <;> (intro hb; first | (cases hb; done) | (have ht : true = true := hb; clear ht hb) | (have ht : false = false := hb; clear ht hb) | (simp only [hb]) | skip))
        | (refine awp_exit ?_; simp only [thenA, blockA, reduceIte, RetQ, Nat.reduceEqDiff])
        | (refine awp_ret ?_; simp only [thenA, blockA, RetQ])
        | (refine ev_nil (hK _ ?_); clear hK K)
        | refine ev_guardU _ (by (simp only [go_sem, hdec, hx, r1, Bool.and_false, Bool.false_and, Bool.and_self, Int.reduceToNat]; rfl)) (by (simp only [go_sem, hdec, hx, r1, Bool.and_false, Bool.false_and, Bool.and_self, Int.reduceToNat]; rfl)) _ (by (simp only [go_sem, hdec, hx, r1, Bool.and_false, Bool.false_and, Bool.and_self, Int.reduceToNat]; rfl)) ?_
        | (refine ev_guardT _ _ (by (simp only [go_sem, hdec, hx, r1, Bool.and_false, Bool.false_and, Bool.and_self, Int.reduceToNat]; rfl)) (by (simp only [go_sem, hdec, hx, r1, Bool.and_false, Bool.false_and, Bool.and_self, Int.reduceToNat]; rfl)) ?_ ?_ <;> (intro hb; first | (cases hb; done) | (have ht : true = true := hb; clear ht hb) | (have ht : false = false := hb; clear ht hb) | (simp only [hb]) | skip))
        | (refine ev_guardF _ _ (by (simp only [go_sem, hdec, hx, r1, Bool.and_false, Bool.false_and, Bool.and_self, Int.reduceToNat]; rfl)) (by (simp only [go_sem, hdec, hx, r1, Bool.and_false, Bool.false_and, Bool.and_self, Int.reduceToNat]; rfl)) ?_ ?_ <;> (intro hb; first | (cases hb; done) | (have ht : true = true := hb; clear ht hb) | (have ht : false = false := hb; clear ht hb) | (simp only [hb]) | skip))
        | refine ev_call0 _ _ (by (simp only [go_sem, hdec, hx, r1, Bool.and_false, Bool.false_and, Bool.and_self, Int.reduceToNat]; rfl)) (by first | exact f35_spec .. | exact h27 ..) (by (simp only [go_sem, hdec, hx, r1, Bool.and_false, Bool.false_and, Bool.and_self, Int.reduceToNat])) _ (by (simp only [go_sem, hdec, hx, r1, Bool.and_false, Bool.false_and, Bool.and_self, Int.reduceToNat]; rfl)) ?_
        | refine ev_callC _ _ _ _ (by (simp only [go_sem, hdec, hx, r1, Bool.and_false, Bool.false_and, Bool.and_self, Int.reduceToNat]; rfl)) (by (simp only [go_sem, hdec, hx, r1, Bool.and_false, Bool.false_and, Bool.and_self, Int.reduceToNat]; rfl)) (by first | exact f35_spec .. | exact h27 ..) (by (simp only [go_sem, hdec, hx, r1, Bool.and_false, Bool.false_and, Bool.and_self, Int.reduceToNat])) _ (by (simp only [go_sem, hdec, hx, r1, Bool.and_false, Bool.false_and, Bool.and_self, Int.reduceToNat]; rfl)) ?_
        | (apply regD; (case hd => (simp only [List.map_cons, List.map_nil]; rfl)); (case hok => rfl); (case' h => (intro K hK; (repeat' first
        | (apply evd_nil; refine (hK _ ?_); clear hK K)
        | (apply evd_guardU0; (case hj => (simp only [go_sem, hdec, hx, r1, Bool.and_false, Bool.false_and, Bool.and_self, Int.reduceToNat]; try rfl)); (case hu => (simp only [go_sem, hdec, hx, r1, Bool.and_false, Bool.false_and, Bool.and_self, Int.reduceToNat])); (case hσ => (simp only [go_sem, hdec, hx, r1, Bool.and_false, Bool.false_and, Bool.and_self, Int.reduceToNat]; try rfl)))
        | (apply evd_skipT0; (case hj => (simp only [go_sem, hdec, hx, r1, Bool.and_false, Bool.false_and, Bool.and_self, Int.reduceToNat]; try rfl)); (case hb => (simp only [go_sem, hdec, hx, r1, Bool.and_false, Bool.false_and, Bool.and_self, Int.reduceToNat]; try rfl)); (case hσ => (simp only [go_sem, hdec, hx, r1, Bool.and_false, Bool.false_and, Bool.and_self, Int.reduceToNat]; try rfl)))
        | (apply evd_skipF0; (case hj => (simp only [go_sem, hdec, hx, r1, Bool.and_false, Bool.false_and, Bool.and_self, Int.reduceToNat]; try rfl)); (case hb => (simp only [go_sem, hdec, hx, r1, Bool.and_false, Bool.false_and, Bool.and_self, Int.reduceToNat]; try rfl)); (case hσ => (simp only [go_sem, hdec, hx, r1, Bool.and_false, Bool.false_and, Bool.and_self, Int.reduceToNat]; try rfl)))
        | (apply evd_guardU; (case hj => (simp only [go_sem, hdec, hx, r1, Bool.and_false, Bool.false_and, Bool.and_self, Int.reduceToNat]; try rfl)); (case hu => (simp only [go_sem, hdec, hx, r1, Bool.and_false, Bool.false_and, Bool.and_self, Int.reduceToNat])); (case hσ => (simp only [go_sem, hdec, hx, r1, Bool.and_false, Bool.false_and, Bool.and_self, Int.reduceToNat]; try rfl)))
        | (apply evd_skipT; (case hj => (simp only [go_sem, hdec, hx, r1, Bool.and_false, Bool.false_and, Bool.and_self, Int.reduceToNat]; try rfl)); (case hb => (simp only [go_sem, hdec, hx, r1, Bool.and_false, Bool.false_and, Bool.and_self, Int.reduceToNat]; try rfl)); (case hσ => (simp only [go_sem, hdec, hx, r1, Bool.and_false, Bool.false_and, Bool.and_self, Int.reduceToNat]; try rfl)))
        | (apply evd_skipF; (case hj => (simp only [go_sem, hdec, hx, r1, Bool.and_false, Bool.false_and, Bool.and_self, Int.reduceToNat]; try rfl)); (case hb => (simp only [go_sem, hdec, hx, r1, Bool.and_false, Bool.false_and, Bool.and_self, Int.reduceToNat]; try rfl)); (case hσ => (simp only [go_sem, hdec, hx, r1, Bool.and_false, Bool.false_and, Bool.and_self, Int.reduceToNat]; try rfl)))
        | (apply evd_guardT; (case hj => (simp only [go_sem, hdec, hx, r1, Bool.and_false, Bool.false_and, Bool.and_self, Int.reduceToNat]; try rfl)); (case hb => (simp only [go_sem, hdec, hx, r1, Bool.and_false, Bool.false_and, Bool.and_self, Int.reduceToNat]; try rfl)); (case' h2 => (intro hb; first | (cases hb; done) | (simp only [hb]) | skip)); (case' h1 => (intro hb; first | (cases hb; done) | (simp only [hb]) | skip)))
        | (apply evd_guardF; (case hj => (simp only [go_sem, hdec, hx, r1, Bool.and_false, Bool.false_and, Bool.and_self, Int.reduceToNat]; try rfl)); (case hb => (simp only [go_sem, hdec, hx, r1, Bool.and_false, Bool.false_and, Bool.and_self, Int.reduceToNat]; try rfl)); (case' h2 => (intro hb; first | (cases hb; done) | (simp only [hb]) | skip)); (case' h1 => (intro hb; first | (cases hb; done) | (simp only [hb]) | skip)))
        | (apply evd_call0; (case hi => (simp only [go_sem, hdec, hx, r1, Bool.and_false, Bool.false_and, Bool.and_self, Int.reduceToNat]; try rfl)); (case hys => (simp only [go_sem, hdec, hx, r1, Bool.and_false, Bool.false_and, Bool.and_self, Int.reduceToNat]; try rfl)); (case hs => first | exact f35_spec .. | exact h27 ..); (case hok => (simp only [go_sem, hdec, hx, r1, Bool.and_false, Bool.false_and, Bool.and_self, Int.reduceToNat])); (case hw => (simp only [go_sem, hdec, hx, r1, Bool.and_false, Bool.false_and, Bool.and_self, Int.reduceToNat]; try rfl)); (case hσ => (simp only [go_sem, hdec, hx, r1, Bool.and_false, Bool.false_and, Bool.and_self, Int.reduceToNat]; try rfl)))
        | (apply evd_callC; (case hf => (simp only [go_sem, hdec, hx, r1, Bool.and_false, Bool.false_and, Bool.and_self, Int.reduceToNat]; try rfl)); (case hi => (simp only [go_sem, hdec, hx, r1, Bool.and_false, Bool.false_and, Bool.and_self, Int.reduceToNat]; try rfl)); (case hys => (simp only [go_sem, hdec, hx, r1, Bool.and_false, Bool.false_and, Bool.and_self, Int.reduceToNat]; try rfl)); (case hs => first | exact f35_spec .. | exact h27 ..); (case hok => (simp only [go_sem, hdec, hx, r1, Bool.and_false, Bool.false_and, Bool.and_self, Int.reduceToNat])); (case hw => (simp only [go_sem, hdec, hx, r1, Bool.and_false, Bool.false_and, Bool.and_self, Int.reduceToNat]; try rfl)); (case hσ => (simp only [go_sem, hdec, hx, r1, Bool.and_false, Bool.false_and, Bool.and_self, Int.reduceToNat]; try rfl)))
        | (apply evd_step0; (case hr => (simp only [go_sem, hdec, hx, r1, Bool.and_false, Bool.false_and, Bool.and_self, Int.reduceToNat]; try rfl)); (case hi => (simp only [go_sem, hdec, hx, r1, Bool.and_false, Bool.false_and, Bool.and_self, Int.reduceToNat]; try rfl)); (case hc => (first | trivial | decide | (simp only [inB, sliceOk, appendOk, rowsOk]; omega) | (simp [inB, sliceOk, appendOk, rowsOk]; omega))); (case hσ => (simp only [go_sem, hdec, hx, r1, Bool.and_false, Bool.false_and, Bool.and_self, Int.reduceToNat]; try rfl)))
        | (apply evd_step; (case hr => (simp only [go_sem, hdec, hx, r1, Bool.and_false, Bool.false_and, Bool.and_self, Int.reduceToNat]; try rfl)); (case hi => (simp only [go_sem, hdec, hx, r1, Bool.and_false, Bool.false_and, Bool.and_self, Int.reduceToNat]; try rfl)); (case hc => (first | trivial | decide | (simp only [inB, sliceOk, appendOk, rowsOk]; omega) | (simp [inB, sliceOk, appendOk, rowsOk]; omega))); (case hw => (intro g u; simp only [go_sem, hdec, hx, r1, Bool.and_false, Bool.false_and, Bool.and_self, Int.reduceToNat]; try rfl)); (case hσ => (intro g u; simp only [go_sem, hdec, hx, r1, Bool.and_false, Bool.false_and, Bool.and_self, Int.reduceToNat]; try rfl)); (case' hk => (intro g u; (try clear u); (try clear g))))
        | fail))); (case hB => kernel_rfl))
        | refine ev_step0 _ _ (by (simp only [go_sem, hdec, hx, r1, Bool.and_false, Bool.false_and, Bool.and_self, Int.reduceToNat]; rfl)) (by (first | trivial | decide | (simp only [inB, sliceOk, appendOk, rowsOk]; omega) | (simp [inB, sliceOk, appendOk, rowsOk]; omega))) _ (by (simp only [go_sem, hdec, hx, r1, Bool.and_false, Bool.false_and, Bool.and_self, Int.reduceToNat]; rfl)) ?_
        | (refine ev_step _ (by (simp only [go_sem, hdec, hx, r1, Bool.and_false, Bool.false_and, Bool.and_self, Int.reduceToNat]; rfl)) (by (first | trivial | decide | (simp only [inB, sliceOk, appendOk, rowsOk]; omega) | (simp [inB, sliceOk, appendOk, rowsOk]; omega))) _ (fun g u => by (simp only [go_sem, hdec, hx, r1, Bool.and_false, Bool.false_and, Bool.and_self, Int.reduceToNat]; rfl)) ?_; intro g u; (try clear u); (try clear g))
        | fail
      refine Exists.intro (i + 1) ⟨by omega, by omega, ?_⟩
      simp only [hsn, hs]
      refine Wk.mk ?_ ?_
      all_goals (repeat' first | exact trivial | exact LeA.refl _ | exact LeA.any _ | exact LeO.refl _ | exact LeO.no _ | exact LeA.nil _ | (refine LeA.i ?_; (first | rfl | (push_cast; rfl) | (rw [wrap_id (by omega)]; push_cast; omega) | (simp [wrap_id]; omega))) | refine ⟨?_, ?_⟩)
    | false =>
    cases r2 : inCut y n.1 n.2 with
    | true =>
      have hs : stepA b y t n = t := by simp [stepA, r1, r2]
      repeat' first
        | refine awp_seq ?_
        | refine awp_block ?_
        | refine awp_skip ?_
        | (refine reg _ (by (simp only [List.map_cons, List.map_nil]; rfl)) rfl ?_; intro K hK)
        | (refine awp_cond _ (by rfl) ?_ ?_ <;> (intro hb; first | (cases hb; done) | (have ht : true = true := hb; clear ht hb) | (have ht : false = false := hb; clear ht hb) | (simp only [hb]) | skip))
        | (refine awp_exit ?_; simp only [thenA, blockA, reduceIte, RetQ, Nat.reduceEqDiff])
        | (refine awp_ret ?_; simp only [thenA, blockA, RetQ])
        | (refine ev_nil (hK _ ?_); clear hK K)
        | refine ev_guardU _ (by (simp only [go_sem, hdec, hx, r1, r2, Bool.and_false, Bool.false_and, Bool.and_self, Int.reduceToNat]; rfl)) (by (simp only [go_sem, hdec, hx, r1, r2, Bool.and_false, Bool.false_and, Bool.and_self, Int.reduceToNat]; rfl)) _ (by (simp only [go_sem, hdec, hx, r1, r2, Bool.and_false, Bool.false_and, Bool.and_self, Int.reduceToNat]; rfl)) ?_
        | (refine ev_guardT _ _ (by (simp only [go_sem, hdec, hx, r1, r2, Bool.and_false, Bool.false_and, Bool.and_self, Int.reduceToNat]; rfl)) (by (simp only [go_sem, hdec, hx, r1, r2, Bool.and_false, Bool.false_and, Bool.and_self, Int.reduceToNat]; rfl)) ?_ ?_ <;> (intro hb; first | (cases hb; done) | (have ht : true = true := hb; clear ht hb) | (have ht : false = false := hb; clear ht hb) | (simp only [hb]) | skip))
        | (refine ev_guardF _ _ (by (simp only [go_sem, hdec, hx, r1, r2, Bool.and_false, Bool.false_and, Bool.and_self, Int.reduceToNat]; rfl)) (by (simp only [go_sem, hdec, hx, r1, r2, Bool.and_false, Bool.false_and, Bool.and_self, Int.reduceToNat]; rfl)) ?_ ?_ <;> (intro hb; first | (cases hb; done) | (have ht : true = true := hb; clear ht hb) | (have ht : false = false := hb; clear ht hb) | (simp only [hb]) | skip))
        | refine ev_call0 _ _ (by (simp only [go_sem, hdec, hx, r1, r2, Bool.and_false, Bool.false_and, Bool.and_self, Int.reduceToNat]; rfl)) (by first | exact f35_spec .. | exact f33_spec ..) (by (simp only [go_sem, hdec, hx, r1, r2, Bool.and_false, Bool.false_and, Bool.and_self, Int.reduceToNat])) _ (by (simp only [go_sem, hdec, hx, r1, r2, Bool.and_false, Bool.false_and, Bool.and_self, Int.reduceToNat]; rfl)) ?_
        | refine ev_callC _ _ _ _ (by (simp only [go_sem, hdec, hx, r1, r2, Bool.and_false, Bool.false_and, Bool.and_self, Int.reduceToNat]; rfl)) (by (simp only [go_sem, hdec, hx, r1, r2, Bool.and_false, Bool.false_and, Bool.and_self, Int.reduceToNat]; rfl)) (by first | exact f35_spec .. | exact f33_spec ..) (by (simp only [go_sem, hdec, hx, r1, r2, Bool.and_false, Bool.false_and, Bool.and_self, Int.reduceToNat])) _ (by (simp only [go_sem, hdec, hx, r1, r2, Bool.and_false, Bool.false_and, Bool.and_self, Int.reduceToNat]; rfl)) ?_
        | (apply regD; (case hd => (simp only [List.map_cons, List.map_nil]; rfl)); (case hok => rfl); (case' h => (intro K hK; (repeat' first
        | (apply evd_nil; refine (hK _ ?_); clear hK K)
        | (apply evd_guardU0; (case hj => (simp only [go_sem, hdec, hx, r1, r2, Bool.and_false, Bool.false_and, Bool.and_self, Int.reduceToNat]; try rfl)); (case hu => (simp only [go_sem, hdec, hx, r1, r2, Bool.and_false, Bool.false_and, Bool.and_self, Int.reduceToNat])); (case hσ => (simp only [go_sem, hdec, hx, r1, r2, Bool.and_false, Bool.false_and, Bool.and_self, Int.reduceToNat]; try rfl)))
        | (apply evd_skipT0; (case hj => (simp only [go_sem, hdec, hx, r1, r2, Bool.and_false, Bool.false_and, Bool.and_self, Int.reduceToNat]; try rfl)); (case hb => (simp only [go_sem, hdec, hx, r1, r2, Bool.and_false, Bool.false_and, Bool.and_self, Int.reduceToNat]; try rfl)); (case hσ => (simp only [go_sem, hdec, hx, r1, r2, Bool.and_false, Bool.false_and, Bool.and_self, Int.reduceToNat]; try rfl)))
        | (apply evd_skipF0; (case hj => (simp only [go_sem, hdec, hx, r1, r2, Bool.and_false, Bool.false_and, Bool.and_self, Int.reduceToNat]; try rfl)); (case hb => (simp only [go_sem, hdec, hx, r1, r2, Bool.and_false, Bool.false_and, Bool.and_self, Int.reduceToNat]; try rfl)); (case hσ => (simp only [go_sem, hdec, hx, r1, r2, Bool.and_false, Bool.false_and, Bool.and_self, Int.reduceToNat]; try rfl)))
        | (apply evd_guardU; (case hj => (simp only [go_sem, hdec, hx, r1, r2, Bool.and_false, Bool.false_and, Bool.and_self, Int.reduceToNat]; try rfl)); (case hu => (simp only [go_sem, hdec, hx, r1, r2, Bool.and_false, Bool.false_and, Bool.and_self, Int.reduceToNat])); (case hσ => (simp only [go_sem, hdec, hx, r1, r2, Bool.and_false, Bool.false_and, Bool.and_self, Int.reduceToNat]; try rfl)))
        | (apply evd_skipT; (case hj => (simp only [go_sem, hdec, hx, r1, r2, Bool.and_false, Bool.false_and, Bool.and_self, Int.reduceToNat]; try rfl)); (case hb => (simp only [go_sem, hdec, hx, r1, r2, Bool.and_false, Bool.false_and, Bool.and_self, Int.reduceToNat]; try rfl)); (case hσ => (simp only [go_sem, hdec, hx, r1, r2, Bool.and_false, Bool.false_and, Bool.and_self, Int.reduceToNat]; try rfl)))
        | (apply evd_skipF; (case hj => (simp only [go_sem, hdec, hx, r1, r2, Bool.and_false, Bool.false_and, Bool.and_self, Int.reduceToNat]; try rfl)); (case hb => (simp only [go_sem, hdec, hx, r1, r2, Bool.and_false, Bool.false_and, Bool.and_self, Int.reduceToNat]; try rfl)); (case hσ => (simp only [go_sem, hdec, hx, r1, r2, Bool.and_false, Bool.false_and, Bool.and_self, Int.reduceToNat]; try rfl)))
        | (apply evd_guardT; (case hj => (simp only [go_sem, hdec, hx, r1, r2, Bool.and_false, Bool.false_and, Bool.and_self, Int.reduceToNat]; try rfl)); (case hb => (simp only [go_sem, hdec, hx, r1, r2, Bool.and_false, Bool.false_and, Bool.and_self, Int.reduceToNat]; try rfl)); (case' h2 => (intro hb; first | (cases hb; done) | (simp only [hb]) | skip)); (case' h1 => (intro hb; first | (cases hb; done) | (simp only [hb]) | skip)))
        | (apply evd_guardF; (case hj => (simp only [go_sem, hdec, hx, r1, r2, Bool.and_false, Bool.false_and, Bool.and_self, Int.reduceToNat]; try rfl)); (case hb => (simp only [go_sem, hdec, hx, r1, r2, Bool.and_false, Bool.false_and, Bool.and_self, Int.reduceToNat]; try rfl)); (case' h2 => (intro hb; first | (cases hb; done) | (simp only [hb]) | skip)); (case' h1 => (intro hb; first | (cases hb; done) | (simp only [hb]) | skip)))
        | (apply evd_call0; (case hi => (simp only [go_sem, hdec, hx, r1, r2, Bool.and_false, Bool.false_and, Bool.and_self, Int.reduceToNat]; try rfl)); (case hys => (simp only [go_sem, hdec, hx, r1, r2, Bool.and_false, Bool.false_and, Bool.and_self, Int.reduceToNat]; try rfl)); (case hs => first | exact f35_spec .. | exact f33_spec ..); (case hok => (simp only [go_sem, hdec, hx, r1, r2, Bool.and_false, Bool.false_and, Bool.and_self, Int.reduceToNat])); (case hw => (simp only [go_sem, hdec, hx, r1, r2, Bool.and_false, Bool.false_and, Bool.and_self, Int.reduceToNat]; try rfl)); (case hσ => (simp only [go_sem, hdec, hx, r1, r2, Bool.and_false, Bool.false_and, Bool.and_self, Int.reduceToNat]; try rfl)))
        | (apply evd_callC; (case hf => (simp only [go_sem, hdec, hx, r1, r2, Bool.and_false, Bool.false_and, Bool.and_self, Int.reduceToNat]; try rfl)); (case hi => (simp only [go_sem, hdec, hx, r1, r2, Bool.and_false, Bool.false_and, Bool.and_self, Int.reduceToNat]; try rfl)); (case hys => (simp only [go_sem, hdec, hx, r1, r2, Bool.and_false, Bool.false_and, Bool.and_self, Int.reduceToNat]; try rfl)); (case hs => first | exact f35_spec .. | exact f33_spec ..); (case hok => (simp only [go_sem, hdec, hx, r1, r2, Bool.and_false, Bool.false_and, Bool.and_self, Int.reduceToNat])); (case hw => (simp only [go_sem, hdec, hx, r1, r2, Bool.and_false, Bool.false_and, Bool.and_self, Int.reduceToNat]; try rfl)); (case hσ => (simp only [go_sem, hdec, hx, r1, r2, Bool.and_false, Bool.false_and, Bool.and_self, Int.reduceToNat]; try rfl)))
        | (apply evd_step0; (case hr => (simp only [go_sem, hdec, hx, r1, r2, Bool.and_false, Bool.false_and, Bool.and_self, Int.reduceToNat]; try rfl)); (case hi => (simp only [go_sem, hdec, hx, r1, r2, Bool.and_false, Bool.false_and, Bool.and_self, Int.reduceToNat]; try rfl)); (case hc => (first | trivial | decide | (simp only [inB, sliceOk, appendOk, rowsOk]; omega) | (simp [inB, sliceOk, appendOk, rowsOk]; omega))); (case hσ => (simp only [go_sem, hdec, hx, r1, r2, Bool.and_false, Bool.false_and, Bool.and_self, Int.reduceToNat]; try rfl)))
        | (apply evd_step; (case hr => (simp only [go_sem, hdec, hx, r1, r2, Bool.and_false, Bool.false_and, Bool.and_self, Int.reduceToNat]; try rfl)); (case hi => (simp only [go_sem, hdec, hx, r1, r2, Bool.and_false, Bool.false_and, Bool.and_self, Int.reduceToNat]; try rfl)); (case hc => (first | trivial | decide | (simp only [inB, sliceOk, appendOk, rowsOk]; omega) | (simp [inB, sliceOk, appendOk, rowsOk]; omega))); (case hw => (intro g u; simp only [go_sem, hdec, hx, r1, r2, Bool.and_false, Bool.false_and, Bool.and_self, Int.reduceToNat]; try rfl)); (case hσ => (intro g u; simp only [go_sem, hdec, hx, r1, r2, Bool.and_false, Bool.false_and, Bool.and_self, Int.reduceToNat]; try rfl)); (case' hk => (intro g u; (try clear u); (try clear g))))
        | fail))); (case hB => kernel_rfl))
        | refine ev_step0 _ _ (by (simp only [go_sem, hdec, hx, r1, r2, Bool.and_false, Bool.false_and, Bool.and_self, Int.reduceToNat]; rfl)) (by (first | trivial | decide | (simp only [inB, sliceOk, appendOk, rowsOk]; omega) | (simp [inB, sliceOk, appendOk, rowsOk]; omega))) _ (by (simp only [go_sem, hdec, hx, r1, r2, Bool.and_false, Bool.false_and, Bool.and_self, Int.reduceToNat]; rfl)) ?_
        | (refine ev_step _ (by (simp only [go_sem, hdec, hx, r1, r2, Bool.and_false, Bool.false_and, Bool.and_self, Int.reduceToNat]; rfl)) (by (first | trivial | decide | (simp only [inB, sliceOk, appendOk, rowsOk]; omega) | (simp [inB, sliceOk, appendOk, rowsOk]; omega))) _ (fun g u => by (simp only [go_sem, hdec, hx, r1, r2, Bool.and_false, Bool.false_and, Bool.and_self, Int.reduceToNat]; rfl)) ?_; intro g u; (try clear u); (try clear g))
        | fail
      refine Exists.intro (i + 1) ⟨by omega, by omega, ?_⟩
      simp only [hsn, hs]
      refine Wk.mk ?_ ?_
      all_goals (repeat' first | exact trivial | exact LeA.refl _ | exact LeA.any _ | exact LeO.refl _ | exact LeO.no _ | exact LeA.nil _ | (refine LeA.i ?_; (first | rfl | (push_cast; rfl) | (rw [wrap_id (by omega)]; push_cast; omega) | (simp [wrap_id]; omega))) | refine ⟨?_, ?_⟩)
    | false =>
      have hs : stepA b y t n = addN t n := by simp [stepA, r1, r2]
      repeat' first
        | refine awp_seq ?_
        | refine awp_block ?_
        | refine awp_skip ?_
        | (refine reg _ (by (simp only [List.map_cons, List.map_nil]; rfl)) rfl ?_; intro K hK)
        | (refine awp_cond _ (by rfl) ?_ ?_ <;> (intro hb; first | (cases hb; done) | (have ht : true = true := hb; clear ht hb) | (have ht : false = false := hb; clear ht hb) | (simp only [hb]) | skip))
        | (refine awp_exit ?_; simp only [thenA, blockA, reduceIte, RetQ, Nat.reduceEqDiff])
        | (refine awp_ret ?_; simp only [thenA, blockA, RetQ])
        | (refine ev_nil (hK _ ?_); clear hK K)
        | refine ev_guardU _ (by (simp only [go_sem, hdec, hx, r1, r2, Bool.and_false, Bool.false_and, Bool.and_self, Int.reduceToNat]; rfl)) (by (simp only [go_sem, hdec, hx, r1, r2, Bool.and_false, Bool.false_and, Bool.and_self, Int.reduceToNat]; rfl)) _ (by (simp only [go_sem, hdec, hx, r1, r2, Bool.and_false, Bool.false_and, Bool.and_self, Int.reduceToNat]; rfl)) ?_
        | (refine ev_guardT _ _ (by (simp only [go_sem, hdec, hx, r1, r2, Bool.and_false, Bool.false_and, Bool.and_self, Int.reduceToNat]; rfl)) (by (simp only [go_sem, hdec, hx, r1, r2, Bool.and_false, Bool.false_and, Bool.and_self, Int.reduceToNat]; rfl)) ?_ ?_ <;> (intro hb; first | (cases hb; done) | (have ht : true = true := hb; clear ht hb) | (have ht : false = false := hb; clear ht hb) | (simp only [hb]) | skip))
        | (refine ev_guardF _ _ (by (simp only [go_sem, hdec, hx, r1, r2, Bool.and_false, Bool.false_and, Bool.and_self, Int.reduceToNat]; rfl)) (by (simp only [go_sem, hdec, hx, r1, r2, Bool.and_false, Bool.false_and, Bool.and_self, Int.reduceToNat]; rfl)) ?_ ?_ <;> (intro hb; first | (cases hb; done) | (have ht : true = true := hb; clear ht hb) | (have ht : false = false := hb; clear ht hb) | (simp only [hb]) | skip))
        | refine ev_call0 _ _ (by (simp only [go_sem, hdec, hx, r1, r2, Bool.and_false, Bool.false_and, Bool.and_self, Int.reduceToNat]; rfl)) (by first | exact f35_spec .. | exact f33_spec .. | exact h27 ..) (by (simp only [go_sem, hdec, hx, r1, r2, Bool.and_false, Bool.false_and, Bool.and_self, Int.reduceToNat])) _ (by (simp only [go_sem, hdec, hx, r1, r2, Bool.and_false, Bool.false_and, Bool.and_self, Int.reduceToNat]; rfl)) ?_
        | refine ev_callC _ _ _ _ (by (simp only [go_sem, hdec, hx, r1, r2, Bool.and_false, Bool.false_and, Bool.and_self, Int.reduceToNat]; rfl)) (by (simp only [go_sem, hdec, hx, r1, r2, Bool.and_false, Bool.false_and, Bool.and_self, Int.reduceToNat]; rfl)) (by first | exact f35_spec .. | exact f33_spec .. | exact h27 ..) (by (simp only [go_sem, hdec, hx, r1, r2, Bool.and_false, Bool.false_and, Bool.and_self, Int.reduceToNat])) _ (by (simp only [go_sem, hdec, hx, r1, r2, Bool.and_false, Bool.false_and, Bool.and_self, Int.reduceToNat]; rfl)) ?_
        | (apply regD; (case hd => (simp only [List.map_cons, List.map_nil]; rfl)); (case hok => rfl); (case' h => (intro K hK; (repeat' first
        | (apply evd_nil; refine (hK _ ?_); clear hK K)
        | (apply evd_guardU0; (case hj => (simp only [go_sem, hdec, hx, r1, r2, Bool.and_false, Bool.false_and, Bool.and_self, Int.reduceToNat]; try rfl)); (case hu => (simp only [go_sem, hdec, hx, r1, r2, Bool.and_false, Bool.false_and, Bool.and_self, Int.reduceToNat])); (case hσ => (simp only [go_sem, hdec, hx, r1, r2, Bool.and_false, Bool.false_and, Bool.and_self, Int.reduceToNat]; try rfl)))
        | (apply evd_skipT0; (case hj => (simp only [go_sem, hdec, hx, r1, r2, Bool.and_false, Bool.false_and, Bool.and_self, Int.reduceToNat]; try rfl)); (case hb => (simp only [go_sem, hdec, hx, r1, r2, Bool.and_false, Bool.false_and, Bool.and_self, Int.reduceToNat]; try rfl)); (case hσ => (simp only [go_sem, hdec, hx, r1, r2, Bool.and_false, Bool.false_and, Bool.and_self, Int.reduceToNat]; try rfl)))
        | (apply evd_skipF0; (case hj => (simp only [go_sem, hdec, hx, r1, r2, Bool.and_false, Bool.false_and, Bool.and_self, Int.reduceToNat]; try rfl)); (case hb => (simp only [go_sem, hdec, hx, r1, r2, Bool.and_false, Bool.false_and, Bool.and_self, Int.reduceToNat]; try rfl)); (case hσ => (simp only [go_sem, hdec, hx, r1, r2, Bool.and_false, Bool.false_and, Bool.and_self, Int.reduceToNat]; try rfl)))
        | (apply evd_guardU; (case hj => (simp only [go_sem, hdec, hx, r1, r2, Bool.and_false, Bool.false_and, Bool.and_self, Int.reduceToNat]; try rfl)); (case hu => (simp only [go_sem, hdec, hx, r1, r2, Bool.and_false, Bool.false_and, Bool.and_self, Int.reduceToNat])); (case hσ => (simp only [go_sem, hdec, hx, r1, r2, Bool.and_false, Bool.false_and, Bool.and_self, Int.reduceToNat]; try rfl)))
        | (apply evd_skipT; (case hj => (simp only [go_sem, hdec, hx, r1, r2, Bool.and_false, Bool.false_and, Bool.and_self, Int.reduceToNat]; try rfl)); (case hb => (simp only [go_sem, hdec, hx, r1, r2, Bool.and_false, Bool.false_and, Bool.and_self, Int.reduceToNat]; try rfl)); (case hσ => (simp only [go_sem, hdec, hx, r1, r2, Bool.and_false, Bool.false_and, Bool.and_self, Int.reduceToNat]; try rfl)))
        | (apply evd_skipF; (case hj => (simp only [go_sem, hdec, hx, r1, r2, Bool.and_false, Bool.false_and, Bool.and_self, Int.reduceToNat]; try rfl)); (case hb => (simp only [go_sem, hdec, hx, r1, r2, Bool.and_false, Bool.false_and, Bool.and_self, Int.reduceToNat]; try rfl)); (case hσ => (simp only [go_sem, hdec, hx, r1, r2, Bool.and_false, Bool.false_and, Bool.and_self, Int.reduceToNat]; try rfl)))
        | (apply evd_guardT; (case hj => (simp only [go_sem, hdec, hx, r1, r2, Bool.and_false, Bool.false_and, Bool.and_self, Int.reduceToNat]; try rfl)); (case hb => (simp only [go_sem, hdec, hx, r1, r2, Bool.and_false, Bool.false_and, Bool.and_self, Int.reduceToNat]; try rfl)); (case' h2 => (intro hb; first | (cases hb; done) | (simp only [hb]) | skip)); (case' h1 => (intro hb; first | (cases hb; done) | (simp only [hb]) | skip)))
        | (apply evd_guardF; (case hj => (simp only [go_sem, hdec, hx, r1, r2, Bool.and_false, Bool.false_and, Bool.and_self, Int.reduceToNat]; try rfl)); (case hb => (simp only [go_sem, hdec, hx, r1, r2, Bool.and_false, Bool.false_and, Bool.and_self, Int.reduceToNat]; try rfl)); (case' h2 => (intro hb; first | (cases hb; done) | (simp only [hb]) | skip)); (case' h1 => (intro hb; first | (cases hb; done) | (simp only [hb]) | skip)))
        | (apply evd_call0; (case hi => (simp only [go_sem, hdec, hx, r1, r2, Bool.and_false, Bool.false_and, Bool.and_self, Int.reduceToNat]; try rfl)); (case hys => (simp only [go_sem, hdec, hx, r1, r2, Bool.and_false, Bool.false_and, Bool.and_self, Int.reduceToNat]; try rfl)); (case hs => first | exact f35_spec .. | exact f33_spec .. | exact h27 ..); (case hok => (simp only [go_sem, hdec, hx, r1, r2, Bool.and_false, Bool.false_and, Bool.and_self, Int.reduceToNat])); (case hw => (simp only [go_sem, hdec, hx, r1, r2, Bool.and_false, Bool.false_and, Bool.and_self, Int.reduceToNat]; try rfl)); (case hσ => (simp only [go_sem, hdec, hx, r1, r2, Bool.and_false, Bool.false_and, Bool.and_self, Int.reduceToNat]; try rfl)))
        | (apply evd_callC; (case hf => (simp only [go_sem, hdec, hx, r1, r2, Bool.and_false, Bool.false_and, Bool.and_self, Int.reduceToNat]; try rfl)); (case hi => (simp only [go_sem, hdec, hx, r1, r2, Bool.and_false, Bool.false_and, Bool.and_self, Int.reduceToNat]; try rfl)); (case hys => (simp only [go_sem, hdec, hx, r1, r2, Bool.and_false, Bool.false_and, Bool.and_self, Int.reduceToNat]; try rfl)); (case hs => first | exact f35_spec .. | exact f33_spec .. | exact h27 ..); (case hok => (simp only [go_sem, hdec, hx, r1, r2, Bool.and_false, Bool.false_and, Bool.and_self, Int.reduceToNat])); (case hw => (simp only [go_sem, hdec, hx, r1, r2, Bool.and_false, Bool.false_and, Bool.and_self, Int.reduceToNat]; try rfl)); (case hσ => (simp only [go_sem, hdec, hx, r1, r2, Bool.and_false, Bool.false_and, Bool.and_self, Int.reduceToNat]; try rfl)))
        | (apply evd_step0; (case hr => (simp only [go_sem, hdec, hx, r1, r2, Bool.and_false, Bool.false_and, Bool.and_self, Int.reduceToNat]; try rfl)); (case hi => (simp only [go_sem, hdec, hx, r1, r2, Bool.and_false, Bool.false_and, Bool.and_self, Int.reduceToNat]; try rfl)); (case hc => (first | trivial | decide | (simp only [inB, sliceOk, appendOk, rowsOk]; omega) | (simp [inB, sliceOk, appendOk, rowsOk]; omega))); (case hσ => (simp only [go_sem, hdec, hx, r1, r2, Bool.and_false, Bool.false_and, Bool.and_self, Int.reduceToNat]; try rfl)))
        | (apply evd_step; (case hr => (simp only [go_sem, hdec, hx, r1, r2, Bool.and_false, Bool.false_and, Bool.and_self, Int.reduceToNat]; try rfl)); (case hi => (simp only [go_sem, hdec, hx, r1, r2, Bool.and_false, Bool.false_and, Bool.and_self, Int.reduceToNat]; try rfl)); (case hc => (first | trivial | decide | (simp only [inB, sliceOk, appendOk, rowsOk]; omega) | (simp [inB, sliceOk, appendOk, rowsOk]; omega))); (case hw => (intro g u; simp only [go_sem, hdec, hx, r1, r2, Bool.and_false, Bool.false_and, Bool.and_self, Int.reduceToNat]; try rfl)); (case hσ => (intro g u; simp only [go_sem, hdec, hx, r1, r2, Bool.and_false, Bool.false_and, Bool.and_self, Int.reduceToNat]; try rfl)); (case' hk => (intro g u; (try clear u); (try clear g))))
        | fail))); (case hB => kernel_rfl))
        | refine ev_step0 _ _ (by (simp only [go_sem, hdec, hx, r1, r2, Bool.and_false, Bool.false_and, Bool.and_self, Int.reduceToNat]; rfl)) (by (first | trivial | decide | (simp only [inB, sliceOk, appendOk, rowsOk]; omega) | (simp [inB, sliceOk, appendOk, rowsOk]; omega))) _ (by (simp only [go_sem, hdec, hx, r1, r2, Bool.and_false, Bool.false_and, Bool.and_self, Int.reduceToNat]; rfl)) ?_
        | (refine ev_step _ (by (simp only [go_sem, hdec, hx, r1, r2, Bool.and_false, Bool.false_and, Bool.and_self, Int.reduceToNat]; rfl)) (by (first | trivial | decide | (simp only [inB, sliceOk, appendOk, rowsOk]; omega) | (simp [inB, sliceOk, appendOk, rowsOk]; omega))) _ (fun g u => by (simp only [go_sem, hdec, hx, r1, r2, Bool.and_false, Bool.false_and, Bool.and_self, Int.reduceToNat]; rfl)) ?_; intro g u; (try clear u); (try clear g))
        | fail
      refine Exists.intro (i + 1) ⟨by omega, by omega, ?_⟩
      simp only [hsn, hs]
      refine Wk.mk ?_ ?_
      all_goals (repeat' first | exact trivial | exact LeA.refl _ | exact LeA.any _ | exact LeO.refl _ | exact LeO.no _ | exact LeA.nil _ | (refine LeA.i ?_; (first | rfl | (push_cast; rfl) | (rw [wrap_id (by omega)]; push_cast; omega) | (simp [wrap_id]; omega))) | refine ⟨?_, ?_⟩)
  have hdec : decide ((i : Int) < (a.length : Int)) = false := decide_eq_false (by omega)
  have hha : (a.take i).foldl (stepA b y) [] = halfR a b y := by rw [List.take_of_length_le (by omega)]; rfl
  have hhl := foldl_len (stepA b y) (stepA_len b y) a []
  simp only [List.length_nil] at hhl
  change (halfR a b y).length ≤ _ at hhl
  simp only [hha]
  repeat' first
    | refine awp_seq ?_
    | refine awp_block ?_
    | refine awp_skip ?_
    | (refine reg _ (by (simp only [List.map_cons, List.map_nil]; rfl)) rfl ?_; intro K hK)
    | (refine awp_cond _ (by rfl) ?_ ?_ <;> (intro hb; first | (cases hb; done) | (have ht : true = true := hb; clear ht hb) | (have ht : false = false := hb; clear ht hb) | (simp only [hb]) | skip))
    | (refine awp_exit ?_; simp only [thenA, blockA, reduceIte, RetQ, Nat.reduceEqDiff])
    | (refine awp_ret ?_; simp only [thenA, blockA, RetQ])
    | (refine ev_nil (hK _ ?_); clear hK K)
    | refine ev_guardU _ (by (simp only [go_sem, hdec]; rfl)) (by (simp only [go_sem, hdec]; rfl)) _ (by (simp only [go_sem, hdec]; rfl)) ?_
    | (refine ev_guardT _ _ (by (simp only [go_sem, hdec]; rfl)) (by (simp only [go_sem, hdec]; rfl)) ?_ ?_ <;> (intro hb; first | (cases hb; done) | (have ht : true = true := hb; clear ht hb) | (have ht : false = false := hb; clear ht hb) | (simp only [hb]) | skip))
    | (refine ev_guardF _ _ (by (simp only [go_sem, hdec]; rfl)) (by (simp only [go_sem, hdec]; rfl)) ?_ ?_ <;> (intro hb; first | (cases hb; done) | (have ht : true = true := hb; clear ht hb) | (have ht : false = false := hb; clear ht hb) | (simp only [hb]) | skip))
    | refine ev_step0 _ _ (by (simp only [go_sem, hdec]; rfl)) (by (first | trivial | decide | (simp only [inB, sliceOk, appendOk, rowsOk]; omega) | (simp [inB, sliceOk, appendOk, rowsOk]; omega))) _ (by (simp only [go_sem, hdec]; rfl)) ?_
    | (refine ev_step _ (by (simp only [go_sem, hdec]; rfl)) (by (first | trivial | decide | (simp only [inB, sliceOk, appendOk, rowsOk]; omega) | (simp [inB, sliceOk, appendOk, rowsOk]; omega))) _ (fun g u => by (simp only [go_sem, hdec]; rfl)) ?_; intro g u; (try clear u); (try clear g))
    | fail
  refine awp_loopI (fun i : Nat => i ≤ b.length) (fun i => b.length - i) (fun i => ⟨[.any, .any, .ptr 2 g2 0, .ptr 3 g3 0, .ptr 4 g4 0, .ptr 5 g 0, .any, litI .i64 i, .any, .any, .any, .any, .any, .any, .any, .any, .any, .any, .any, .any, .any, .any, .any, .any, .any, .any, .any, .any, .any, .any, .any, .any, .any, .any, .any, .any, .any, .any, .any, .any, .any, .any, .any, .any, .any, .any, .any, .any, .any, .any, .any, .any, .any, .any, .any, .any, .any, .any, .any, .any, .any, .any, .any, .any, .any, .any, .any, .any, .any, .any, .any, .any, .any, .any, .any, .any], [.no, .no, .box g2 (rep a x), .box g3 (rep b y), .box g4 [.d (.lit (.slice none 0 0)), .d (.lit (.slice none 0 0))], .box g [.d (nms ((b.take i).foldl (stepB x) (halfR a b y))), .d (ints (joinL x y))], .no, .no, .no, .no, .no, .no, .no, .no, .no, .no, .no, .no, .no, .no, .no, .no, .no, .no, .no, .no, .no, .no, .no, .no, .no, .no, .no, .no, .no, .no, .no, .no, .no, .no, .no, .no, .no, .no, .no, .no, .no, .no, .no, .no, .no, .no, .no, .no, .no, .no, .no, .no, .no, .no, .no, .no, .no, .no, .no, .no, .no, .no, .no, .no, .no, .no, .no, .no, .no, .no]⟩) 0 (by simp) ?_ ?_
  · refine Wk.mk ?_ ?_
    all_goals (repeat' first | exact trivial | exact LeA.refl _ | exact LeA.any _ | exact LeO.refl _ | exact LeO.no _ | exact LeA.nil _ | (refine LeA.i ?_; (first | rfl | (push_cast; rfl) | (rw [wrap_id (by omega)]; push_cast; omega) | (simp [wrap_id]; omega))) | refine ⟨?_, ?_⟩)
  intro i hi
  simp only [litI, litB] at hi ⊢
  by_cases hlt : i < b.length
  · have hdec : decide ((i : Int) < (b.length : Int)) = true := decide_eq_true (by omega)
    have hx := nms_at b hlt
    have hab1 : b.take (i + 1) = b.take i ++ [b.getD i (0, 0)] := by rw [List.take_succ_eq_append_getElem hlt]; simp [List.getD_eq_getElem?_getD, hlt]
    have hlen := foldl_len (stepB x) (stepB_len x) (b.take i) (halfR a b y)
    simp only [List.length_take] at hlen
    have hsn : (b.take (i + 1)).foldl (stepB x) (halfR a b y) = stepB x ((b.take i).foldl (stepB x) (halfR a b y)) (b.getD i (0, 0)) := by rw [hab1]; simp
    generalize b.getD i (0, 0) = n at *
    generalize (b.take i).foldl (stepB x) (halfR a b y) = t at *
    have h27 := f27_spec t n (by omega)
    cases r2 : inCut x n.1 n.2 with
    | true =>
      have hs : stepB x t n = t := by simp [stepB, r2]
      repeat' first
        | refine awp_seq ?_
        | refine awp_block ?_
        | refine awp_skip ?_
        | (refine reg _ (by (simp only [List.map_cons, List.map_nil]; rfl)) rfl ?_; intro K hK)
        | (refine awp_cond _ (by rfl) ?_ ?_ <;> (intro hb; first | (cases hb; done) | (have ht : true = true := hb; clear ht hb) | (have ht : false = false := hb; clear ht hb) | (simp only [hb]) | skip))
        | (refine awp_exit ?_; simp only [thenA, blockA, reduceIte, RetQ, Nat.reduceEqDiff])
        | (refine awp_ret ?_; simp only [thenA, blockA, RetQ])
        | (refine ev_nil (hK _ ?_); clear hK K)
        | refine ev_guardU _ (by (simp only [go_sem, hdec, hx, r2, Bool.and_false, Bool.false_and, Bool.and_self, Int.reduceToNat]; rfl)) (by (simp only [go_sem, hdec, hx, r2, Bool.and_false, Bool.false_and, Bool.and_self, Int.reduceToNat]; rfl)) _ (by (simp only [go_sem, hdec, hx, r2, Bool.and_false, Bool.false_and, Bool.and_self, Int.reduceToNat]; rfl)) ?_
        | (refine ev_guardT _ _ (by (simp only [go_sem, hdec, hx, r2, Bool.and_false, Bool.false_and, Bool.and_self, Int.reduceToNat]; rfl)) (by (simp only [go_sem, hdec, hx, r2, Bool.and_false, Bool.false_and, Bool.and_self, Int.reduceToNat]; rfl)) ?_ ?_ <;> (intro hb; first | (cases hb; done) | (have ht : true = true := hb; clear ht hb) | (have ht : false = false := hb; clear ht hb) | (simp only [hb]) | skip))
        | (refine ev_guardF _ _ (by (simp only [go_sem, hdec, hx, r2, Bool.and_false, Bool.false_and, Bool.and_self, Int.reduceToNat]; rfl)) (by (simp only [go_sem, hdec, hx, r2, Bool.and_false, Bool.false_and, Bool.and_self, Int.reduceToNat]; rfl)) ?_ ?_ <;> (intro hb; first | (cases hb; done) | (have ht : true = true := hb; clear ht hb) | (have ht : false = false := hb; clear ht hb) | (simp only [hb]) | skip))
        | refine ev_call0 _ _ (by (simp only [go_sem, hdec, hx, r2, Bool.and_false, Bool.false_and, Bool.and_self, Int.reduceToNat]; rfl)) (by first | exact f33_spec ..) (by (simp only [go_sem, hdec, hx, r2, Bool.and_false, Bool.false_and, Bool.and_self, Int.reduceToNat])) _ (by (simp only [go_sem, hdec, hx, r2, Bool.and_false, Bool.false_and, Bool.and_self, Int.reduceToNat]; rfl)) ?_
        | refine ev_callC _ _ _ _ (by (simp only [go_sem, hdec, hx, r2, Bool.and_false, Bool.false_and, Bool.and_self, Int.reduceToNat]; rfl)) (by (simp only [go_sem, hdec, hx, r2, Bool.and_false, Bool.false_and, Bool.and_self, Int.reduceToNat]; rfl)) (by first | exact f33_spec ..) (by (simp only [go_sem, hdec, hx, r2, Bool.and_false, Bool.false_and, Bool.and_self, Int.reduceToNat])) _ (by (simp only [go_sem, hdec, hx, r2, Bool.and_false, Bool.false_and, Bool.and_self, Int.reduceToNat]; rfl)) ?_
        | (apply regD; (case hd => (simp only [List.map_cons, List.map_nil]; rfl)); (case hok => rfl); (case' h => (intro K hK; (repeat' first
        | (apply evd_nil; refine (hK _ ?_); clear hK K)
        | (apply evd_guardU0; (case hj => (simp only [go_sem, hdec, hx, r2, Bool.and_false, Bool.false_and, Bool.and_self, Int.reduceToNat]; try rfl)); (case hu => (simp only [go_sem, hdec, hx, r2, Bool.and_false, Bool.false_and, Bool.and_self, Int.reduceToNat])); (case hσ => (simp only [go_sem, hdec, hx, r2, Bool.and_false, Bool.false_and, Bool.and_self, Int.reduceToNat]; try rfl)))
        | (apply evd_skipT0; (case hj => (simp only [go_sem, hdec, hx, r2, Bool.and_false, Bool.false_and, Bool.and_self, Int.reduceToNat]; try rfl)); (case hb => (simp only [go_sem, hdec, hx, r2, Bool.and_false, Bool.false_and, Bool.and_self, Int.reduceToNat]; try rfl)); (case hσ => (simp only [go_sem, hdec, hx, r2, Bool.and_false, Bool.false_and, Bool.and_self, Int.reduceToNat]; try rfl)))
        | (apply evd_skipF0; (case hj => (simp only [go_sem, hdec, hx, r2, Bool.and_false, Bool.false_and, Bool.and_self, Int.reduceToNat]; try rfl)); (case hb => (simp only [go_sem, hdec, hx, r2, Bool.and_false, Bool.false_and, Bool.and_self, Int.reduceToNat]; try rfl)); (case hσ => (simp only [go_sem, hdec, hx, r2, Bool.and_false, Bool.false_and, Bool.and_self, Int.reduceToNat]; try rfl)))
        | (apply evd_guardU; (case hj => (simp only [go_sem, hdec, hx, r2, Bool.and_false, Bool.false_and, Bool.and_self, Int.reduceToNat]; try rfl)); (case hu => (simp only [go_sem, hdec, hx, r2, Bool.and_false, Bool.false_and, Bool.and_self, Int.reduceToNat])); (case hσ => (simp only [go_sem, hdec, hx, r2, Bool.and_false, Bool.false_and, Bool.and_self, Int.reduceToNat]; try rfl)))
        | (apply evd_skipT; (case hj => (simp only [go_sem, hdec, hx, r2, Bool.and_false, Bool.false_and, Bool.and_self, Int.reduceToNat]; try rfl)); (case hb => (simp only [go_sem, hdec, hx, r2, Bool.and_false, Bool.false_and, Bool.and_self, Int.reduceToNat]; try rfl)); (case hσ => (simp only [go_sem, hdec, hx, r2, Bool.and_false, Bool.false_and, Bool.and_self, Int.reduceToNat]; try rfl)))
        | (apply evd_skipF; (case hj => (simp only [go_sem, hdec, hx, r2, Bool.and_false, Bool.false_and, Bool.and_self, Int.reduceToNat]; try rfl)); (case hb => (simp only [go_sem, hdec, hx, r2, Bool.and_false, Bool.false_and, Bool.and_self, Int.reduceToNat]; try rfl)); (case hσ => (simp only [go_sem, hdec, hx, r2, Bool.and_false, Bool.false_and, Bool.and_self, Int.reduceToNat]; try rfl)))
        | (apply evd_guardT; (case hj => (simp only [go_sem, hdec, hx, r2, Bool.and_false, Bool.false_and, Bool.and_self, Int.reduceToNat]; try rfl)); (case hb => (simp only [go_sem, hdec, hx, r2, Bool.and_false, Bool.false_and, Bool.and_self, Int.reduceToNat]; try rfl)); (case' h2 => (intro hb; first | (cases hb; done) | (simp only [hb]) | skip)); (case' h1 => (intro hb; first | (cases hb; done) | (simp only [hb]) | skip)))
        | (apply evd_guardF; (case hj => (simp only [go_sem, hdec, hx, r2, Bool.and_false, Bool.false_and, Bool.and_self, Int.reduceToNat]; try rfl)); (case hb => (simp only [go_sem, hdec, hx, r2, Bool.and_false, Bool.false_and, Bool.and_self, Int.reduceToNat]; try rfl)); (case' h2 => (intro hb; first | (cases hb; done) | (simp only [hb]) | skip)); (case' h1 => (intro hb; first | (cases hb; done) | (simp only [hb]) | skip)))
        | (apply evd_call0; (case hi => (simp only [go_sem, hdec, hx, r2, Bool.and_false, Bool.false_and, Bool.and_self, Int.reduceToNat]; try rfl)); (case hys => (simp only [go_sem, hdec, hx, r2, Bool.and_false, Bool.false_and, Bool.and_self, Int.reduceToNat]; try rfl)); (case hs => first | exact f33_spec ..); (case hok => (simp only [go_sem, hdec, hx, r2, Bool.and_false, Bool.false_and, Bool.and_self, Int.reduceToNat])); (case hw => (simp only [go_sem, hdec, hx, r2, Bool.and_false, Bool.false_and, Bool.and_self, Int.reduceToNat]; try rfl)); (case hσ => (simp only [go_sem, hdec, hx, r2, Bool.and_false, Bool.false_and, Bool.and_self, Int.reduceToNat]; try rfl)))
        | (apply evd_callC; (case hf => (simp only [go_sem, hdec, hx, r2, Bool.and_false, Bool.false_and, Bool.and_self, Int.reduceToNat]; try rfl)); (case hi => (simp only [go_sem, hdec, hx, r2, Bool.and_false, Bool.false_and, Bool.and_self, Int.reduceToNat]; try rfl)); (case hys => (simp only [go_sem, hdec, hx, r2, Bool.and_false, Bool.false_and, Bool.and_self, Int.reduceToNat]; try rfl)); (case hs => first | exact f33_spec ..); (case hok => (simp only [go_sem, hdec, hx, r2, Bool.and_false, Bool.false_and, Bool.and_self, Int.reduceToNat])); (case hw => (simp only [go_sem, hdec, hx, r2, Bool.and_false, Bool.false_and, Bool.and_self, Int.reduceToNat]; try rfl)); (case hσ => (simp only [go_sem, hdec, hx, r2, Bool.and_false, Bool.false_and, Bool.and_self, Int.reduceToNat]; try rfl)))
        | (apply evd_step0; (case hr => (simp only [go_sem, hdec, hx, r2, Bool.and_false, Bool.false_and, Bool.and_self, Int.reduceToNat]; try rfl)); (case hi => (simp only [go_sem, hdec, hx, r2, Bool.and_false, Bool.false_and, Bool.and_self, Int.reduceToNat]; try rfl)); (case hc => (first | trivial | decide | (simp only [inB, sliceOk, appendOk, rowsOk]; omega) | (simp [inB, sliceOk, appendOk, rowsOk]; omega))); (case hσ => (simp only [go_sem, hdec, hx, r2, Bool.and_false, Bool.false_and, Bool.and_self, Int.reduceToNat]; try rfl)))
        | (apply evd_step; (case hr => (simp only [go_sem, hdec, hx, r2, Bool.and_false, Bool.false_and, Bool.and_self, Int.reduceToNat]; try rfl)); (case hi => (simp only [go_sem, hdec, hx, r2, Bool.and_false, Bool.false_and, Bool.and_self, Int.reduceToNat]; try rfl)); (case hc => (first | trivial | decide | (simp only [inB, sliceOk, appendOk, rowsOk]; omega) | (simp [inB, sliceOk, appendOk, rowsOk]; omega))); (case hw => (intro g u; simp only [go_sem, hdec, hx, r2, Bool.and_false, Bool.false_and, Bool.and_self, Int.reduceToNat]; try rfl)); (case hσ => (intro g u; simp only [go_sem, hdec, hx, r2, Bool.and_false, Bool.false_and, Bool.and_self, Int.reduceToNat]; try rfl)); (case' hk => (intro g u; (try clear u); (try clear g))))
        | fail))); (case hB => kernel_rfl))
        | refine ev_step0 _ _ (by (simp only [go_sem, hdec, hx, r2, Bool.and_false, Bool.false_and, Bool.and_self, Int.reduceToNat]; rfl)) (by (first | trivial | decide | (simp only [inB, sliceOk, appendOk, rowsOk]; omega) | (simp [inB, sliceOk, appendOk, rowsOk]; omega))) _ (by (simp only [go_sem, hdec, hx, r2, Bool.and_false, Bool.false_and, Bool.and_self, Int.reduceToNat]; rfl)) ?_
        | (refine ev_step _ (by (simp only [go_sem, hdec, hx, r2, Bool.and_false, Bool.false_and, Bool.and_self, Int.reduceToNat]; rfl)) (by (first | trivial | decide | (simp only [inB, sliceOk, appendOk, rowsOk]; omega) | (simp [inB, sliceOk, appendOk, rowsOk]; omega))) _ (fun g u => by (simp only [go_sem, hdec, hx, r2, Bool.and_false, Bool.false_and, Bool.and_self, Int.reduceToNat]; rfl)) ?_; intro g u; (try clear u); (try clear g))
        | fail
      refine Exists.intro (i + 1) ⟨by omega, by omega, ?_⟩
      simp only [hsn, hs]
      refine Wk.mk ?_ ?_
      all_goals (repeat' first | exact trivial | exact LeA.refl _ | exact LeA.any _ | exact LeO.refl _ | exact LeO.no _ | exact LeA.nil _ | (refine LeA.i ?_; (first | rfl | (push_cast; rfl) | (rw [wrap_id (by omega)]; push_cast; omega) | (simp [wrap_id]; omega))) | refine ⟨?_, ?_⟩)
    | false =>
      have hs : stepB x t n = addN t n := by simp [stepB, r2]
      repeat' first
        | refine awp_seq ?_
        | refine awp_block ?_
        | refine awp_skip ?_
        | (refine reg _ (by (simp only [List.map_cons, List.map_nil]; rfl)) rfl ?_; intro K hK)
        | (refine awp_cond _ (by rfl) ?_ ?_ <;> (intro hb; first | (cases hb; done) | (have ht : true = true := hb; clear ht hb) | (have ht : false = false := hb; clear ht hb) | (simp only [hb]) | skip))
        | (refine awp_exit ?_; simp only [thenA, blockA, reduceIte, RetQ, Nat.reduceEqDiff])
        | (refine awp_ret ?_; simp only [thenA, blockA, RetQ])
        | (refine ev_nil (hK _ ?_); clear hK K)
        | refine ev_guardU _ (by (simp only [go_sem, hdec, hx, r2, Bool.and_false, Bool.false_and, Bool.and_self, Int.reduceToNat]; rfl)) (by (simp only [go_sem, hdec, hx, r2, Bool.and_false, Bool.false_and, Bool.and_self, Int.reduceToNat]; rfl)) _ (by (simp only [go_sem, hdec, hx, r2, Bool.and_false, Bool.false_and, Bool.and_self, Int.reduceToNat]; rfl)) ?_
        | (refine ev_guardT _ _ (by (simp only [go_sem, hdec, hx, r2, Bool.and_false, Bool.false_and, Bool.and_self, Int.reduceToNat]; rfl)) (by (simp only [go_sem, hdec, hx, r2, Bool.and_false, Bool.false_and, Bool.and_self, Int.reduceToNat]; rfl)) ?_ ?_ <;> (intro hb; first | (cases hb; done) | (have ht : true = true := hb; clear ht hb) | (have ht : false = false := hb; clear ht hb) | (simp only [hb]) | skip))
        | (refine ev_guardF _ _ (by (simp only [go_sem, hdec, hx, r2, Bool.and_false, Bool.false_and, Bool.and_self, Int.reduceToNat]; rfl)) (by (simp only [go_sem, hdec, hx, r2, Bool.and_false, Bool.false_and, Bool.and_self, Int.reduceToNat]; rfl)) ?_ ?_ <;> (intro hb; first | (cases hb; done) | (have ht : true = true := hb; clear ht hb) | (have ht : false = false := hb; clear ht hb) | (simp only [hb]) | skip))
        | refine ev_call0 _ _ (by (simp only [go_sem, hdec, hx, r2, Bool.and_false, Bool.false_and, Bool.and_self, Int.reduceToNat]; rfl)) (by first | exact f33_spec .. | exact h27 ..) (by (simp only [go_sem, hdec, hx, r2, Bool.and_false, Bool.false_and, Bool.and_self, Int.reduceToNat])) _ (by (simp only [go_sem, hdec, hx, r2, Bool.and_false, Bool.false_and, Bool.and_self, Int.reduceToNat]; rfl)) ?_
        | refine ev_callC _ _ _ _ (by (simp only [go_sem, hdec, hx, r2, Bool.and_false, Bool.false_and, Bool.and_self, Int.reduceToNat]; rfl)) (by (simp only [go_sem, hdec, hx, r2, Bool.and_false, Bool.false_and, Bool.and_self, Int.reduceToNat]; rfl)) (by first | exact f33_spec .. | exact h27 ..) (by (simp only [go_sem, hdec, hx, r2, Bool.and_false, Bool.false_and, Bool.and_self, Int.reduceToNat])) _ (by (simp only [go_sem, hdec, hx, r2, Bool.and_false, Bool.false_and, Bool.and_self, Int.reduceToNat]; rfl)) ?_
        | (apply regD; (case hd => (simp only [List.map_cons, List.map_nil]; rfl)); (case hok => rfl); (case' h => (intro K hK; (repeat' first
        | (apply evd_nil; refine (hK _ ?_); clear hK K)
        | (apply evd_guardU0; (case hj => (simp only [go_sem, hdec, hx, r2, Bool.and_false, Bool.false_and, Bool.and_self, Int.reduceToNat]; try rfl)); (case hu => (simp only [go_sem, hdec, hx, r2, Bool.and_false, Bool.false_and, Bool.and_self, Int.reduceToNat])); (case hσ => (simp only [go_sem, hdec, hx, r2, Bool.and_false, Bool.false_and, Bool.and_self, Int.reduceToNat]; try rfl)))
        | (apply evd_skipT0; (case hj => (simp only [go_sem, hdec, hx, r2, Bool.and_false, Bool.false_and, Bool.and_self, Int.reduceToNat]; try rfl)); (case hb => (simp only [go_sem, hdec, hx, r2, Bool.and_false, Bool.false_and, Bool.and_self, Int.reduceToNat]; try rfl)); (case hσ => (simp only [go_sem, hdec, hx, r2, Bool.and_false, Bool.false_and, Bool.and_self, Int.reduceToNat]; try rfl)))
        | (apply evd_skipF0; (case hj => (simp only [go_sem, hdec, hx, r2, Bool.and_false, Bool.false_and, Bool.and_self, Int.reduceToNat]; try rfl)); (case hb => (simp only [go_sem, hdec, hx, r2, Bool.and_false, Bool.false_and, Bool.and_self, Int.reduceToNat]; try rfl)); (case hσ => (simp only [go_sem, hdec, hx, r2, Bool.and_false, Bool.false_and, Bool.and_self, Int.reduceToNat]; try rfl)))
        | (apply evd_guardU; (case hj => (simp only [go_sem, hdec, hx, r2, Bool.and_false, Bool.false_and, Bool.and_self, Int.reduceToNat]; try rfl)); (case hu => (simp only [go_sem, hdec, hx, r2, Bool.and_false, Bool.false_and, Bool.and_self, Int.reduceToNat])); (case hσ => (simp only [go_sem, hdec, hx, r2, Bool.and_false, Bool.false_and, Bool.and_self, Int.reduceToNat]; try rfl)))
        | (apply evd_skipT; (case hj => (simp only [go_sem, hdec, hx, r2, Bool.and_false, Bool.false_and, Bool.and_self, Int.reduceToNat]; try rfl)); (case hb => (simp only [go_sem, hdec, hx, r2, Bool.and_false, Bool.false_and, Bool.and_self, Int.reduceToNat]; try rfl)); (case hσ => (simp only [go_sem, hdec, hx, r2, Bool.and_false, Bool.false_and, Bool.and_self, Int.reduceToNat]; try rfl)))
        | (apply evd_skipF; (case hj => (simp only [go_sem, hdec, hx, r2, Bool.and_false, Bool.false_and, Bool.and_self, Int.reduceToNat]; try rfl)); (case hb => (simp only [go_sem, hdec, hx, r2, Bool.and_false, Bool.false_and, Bool.and_self, Int.reduceToNat]; try rfl)); (case hσ => (simp only [go_sem, hdec, hx, r2, Bool.and_false, Bool.false_and, Bool.and_self, Int.reduceToNat]; try rfl)))
        | (apply evd_guardT; (case hj => (simp only [go_sem, hdec, hx, r2, Bool.and_false, Bool.false_and, Bool.and_self, Int.reduceToNat]; try rfl)); (case hb => (simp only [go_sem, hdec, hx, r2, Bool.and_false, Bool.false_and, Bool.and_self, Int.reduceToNat]; try rfl)); (case' h2 => (intro hb; first | (cases hb; done) | (simp only [hb]) | skip)); (case' h1 => (intro hb; first | (cases hb; done) | (simp only [hb]) | skip)))
        | (apply evd_guardF; (case hj => (simp only [go_sem, hdec, hx, r2, Bool.and_false, Bool.false_and, Bool.and_self, Int.reduceToNat]; try rfl)); (case hb => (simp only [go_sem, hdec, hx, r2, Bool.and_false, Bool.false_and, Bool.and_self, Int.reduceToNat]; try rfl)); (case' h2 => (intro hb; first | (cases hb; done) | (simp only [hb]) | skip)); (case' h1 => (intro hb; first | (cases hb; done) | (simp only [hb]) | skip)))
        | (apply evd_call0; (case hi => (simp only [go_sem, hdec, hx, r2, Bool.and_false, Bool.false_and, Bool.and_self, Int.reduceToNat]; try rfl)); (case hys => (simp only [go_sem, hdec, hx, r2, Bool.and_false, Bool.false_and, Bool.and_self, Int.reduceToNat]; try rfl)); (case hs => first | exact f33_spec .. | exact h27 ..); (case hok => (simp only [go_sem, hdec, hx, r2, Bool.and_false, Bool.false_and, Bool.and_self, Int.reduceToNat])); (case hw => (simp only [go_sem, hdec, hx, r2, Bool.and_false, Bool.false_and, Bool.and_self, Int.reduceToNat]; try rfl)); (case hσ => (simp only [go_sem, hdec, hx, r2, Bool.and_false, Bool.false_and, Bool.and_self, Int.reduceToNat]; try rfl)))
        | (apply evd_callC; (case hf => (simp only [go_sem, hdec, hx, r2, Bool.and_false, Bool.false_and, Bool.and_self, Int.reduceToNat]; try rfl)); (case hi => (simp only [go_sem, hdec, hx, r2, Bool.and_false, Bool.false_and, Bool.and_self, Int.reduceToNat]; try rfl)); (case hys => (simp only [go_sem, hdec, hx, r2, Bool.and_false, Bool.false_and, Bool.and_self, Int.reduceToNat]; try rfl)); (case hs => first | exact f33_spec .. | exact h27 ..); (case hok => (simp only [go_sem, hdec, hx, r2, Bool.and_false, Bool.false_and, Bool.and_self, Int.reduceToNat])); (case hw => (simp only [go_sem, hdec, hx, r2, Bool.and_false, Bool.false_and, Bool.and_self, Int.reduceToNat]; try rfl)); (case hσ => (simp only [go_sem, hdec, hx, r2, Bool.and_false, Bool.false_and, Bool.and_self, Int.reduceToNat]; try rfl)))
        | (apply evd_step0; (case hr => (simp only [go_sem, hdec, hx, r2, Bool.and_false, Bool.false_and, Bool.and_self, Int.reduceToNat]; try rfl)); (case hi => (simp only [go_sem, hdec, hx, r2, Bool.and_false, Bool.false_and, Bool.and_self, Int.reduceToNat]; try rfl)); (case hc => (first | trivial | decide | (simp only [inB, sliceOk, appendOk, rowsOk]; omega) | (simp [inB, sliceOk, appendOk, rowsOk]; omega))); (case hσ => (simp only [go_sem, hdec, hx, r2, Bool.and_false, Bool.false_and, Bool.and_self, Int.reduceToNat]; try rfl)))
        | (apply evd_step; (case hr => (simp only [go_sem, hdec, hx, r2, Bool.and_false, Bool.false_and, Bool.and_self, Int.reduceToNat]; try rfl)); (case hi => (simp only [go_sem, hdec, hx, r2, Bool.and_false, Bool.false_and, Bool.and_self, Int.reduceToNat]; try rfl)); (case hc => (first | trivial | decide | (simp only [inB, sliceOk, appendOk, rowsOk]; omega) | (simp [inB, sliceOk, appendOk, rowsOk]; omega))); (case hw => (intro g u; simp only [go_sem, hdec, hx, r2, Bool.and_false, Bool.false_and, Bool.and_self, Int.reduceToNat]; try rfl)); (case hσ => (intro g u; simp only [go_sem, hdec, hx, r2, Bool.and_false, Bool.false_and, Bool.and_self, Int.reduceToNat]; try rfl)); (case' hk => (intro g u; (try clear u); (try clear g))))
        | fail))); (case hB => kernel_rfl))
        | refine ev_step0 _ _ (by (simp only [go_sem, hdec, hx, r2, Bool.and_false, Bool.false_and, Bool.and_self, Int.reduceToNat]; rfl)) (by (first | trivial | decide | (simp only [inB, sliceOk, appendOk, rowsOk]; omega) | (simp [inB, sliceOk, appendOk, rowsOk]; omega))) _ (by (simp only [go_sem, hdec, hx, r2, Bool.and_false, Bool.false_and, Bool.and_self, Int.reduceToNat]; rfl)) ?_
        | (refine ev_step _ (by (simp only [go_sem, hdec, hx, r2, Bool.and_false, Bool.false_and, Bool.and_self, Int.reduceToNat]; rfl)) (by (first | trivial | decide | (simp only [inB, sliceOk, appendOk, rowsOk]; omega) | (simp [inB, sliceOk, appendOk, rowsOk]; omega))) _ (fun g u => by (simp only [go_sem, hdec, hx, r2, Bool.and_false, Bool.false_and, Bool.and_self, Int.reduceToNat]; rfl)) ?_; intro g u; (try clear u); (try clear g))
        | fail
      refine Exists.intro (i + 1) ⟨by omega, by omega, ?_⟩
      simp only [hsn, hs]
      refine Wk.mk ?_ ?_
      all_goals (repeat' first | exact trivial | exact LeA.refl _ | exact LeA.any _ | exact LeO.refl _ | exact LeO.no _ | exact LeA.nil _ | (refine LeA.i ?_; (first | rfl | (push_cast; rfl) | (rw [wrap_id (by omega)]; push_cast; omega) | (simp [wrap_id]; omega))) | refine ⟨?_, ?_⟩)
  have hdec : decide ((i : Int) < (b.length : Int)) = false := decide_eq_false (by omega)
  have hhb : (b.take i).foldl (stepB x) (halfR a b y) = joinR a x b y := by rw [List.take_of_length_le (by omega)]; rfl
  simp only [hhb]
  repeat' first
    | refine awp_seq ?_
    | refine awp_block ?_
    | refine awp_skip ?_
    | (refine reg _ (by (simp only [List.map_cons, List.map_nil]; rfl)) rfl ?_; intro K hK)
    | (refine awp_cond _ (by rfl) ?_ ?_ <;> (intro hb; first | (cases hb; done) | (have ht : true = true := hb; clear ht hb) | (have ht : false = false := hb; clear ht hb) | (simp only [hb]) | skip))
    | (refine awp_exit ?_; simp only [thenA, blockA, reduceIte, RetQ, Nat.reduceEqDiff])
    | (refine awp_ret ?_; simp only [thenA, blockA, RetQ])
    | (refine ev_nil (hK _ ?_); clear hK K)
    | refine ev_guardU _ (by (simp only [go_sem, hdec]; rfl)) (by (simp only [go_sem, hdec]; rfl)) _ (by (simp only [go_sem, hdec]; rfl)) ?_
    | (refine ev_guardT _ _ (by (simp only [go_sem, hdec]; rfl)) (by (simp only [go_sem, hdec]; rfl)) ?_ ?_ <;> (intro hb; first | (cases hb; done) | (have ht : true = true := hb; clear ht hb) | (have ht : false = false := hb; clear ht hb) | (simp only [hb]) | skip))
    | (refine ev_guardF _ _ (by (simp only [go_sem, hdec]; rfl)) (by (simp only [go_sem, hdec]; rfl)) ?_ ?_ <;> (intro hb; first | (cases hb; done) | (have ht : true = true := hb; clear ht hb) | (have ht : false = false := hb; clear ht hb) | (simp only [hb]) | skip))
    | refine ev_step0 _ _ (by (simp only [go_sem, hdec]; rfl)) (by (first | trivial | decide | (simp only [inB, sliceOk, appendOk, rowsOk]; omega) | (simp [inB, sliceOk, appendOk, rowsOk]; omega))) _ (by (simp only [go_sem, hdec]; rfl)) ?_
    | (refine ev_step _ (by (simp only [go_sem, hdec]; rfl)) (by (first | trivial | decide | (simp only [inB, sliceOk, appendOk, rowsOk]; omega) | (simp [inB, sliceOk, appendOk, rowsOk]; omega))) _ (fun g u => by (simp only [go_sem, hdec]; rfl)) ?_; intro g u; (try clear u); (try clear g))
    | fail
  all_goals (refine resR_one T_ok rfl _ (by (simp only [go_sem, resA]; rfl)) (by first | trivial | (simp only [go_sem, resA])) (by first | trivial | (simp only [go_sem])) ?_; simp only [go_sem])
  exact LeA.refl _
end Go.Proofs.Ytalbfikfbejnfaa.A

/- The reference's additions, folds and joins are the program's: plain law. -/
set_option linter.unusedVariables false
set_option linter.unusedSimpArgs false
namespace Go.Proofs.Ytalbfikfbejnfaa.A
theorem addN_ins : ∀ {l : List Nm}, l.Pairwise lt → ∀ n : Nm, addN l n = insN l n
  | [], _, n => by simp [addN, inL, addAt, insN]
  | x :: r, h, n => by
    rw [List.pairwise_cons] at h
    simp only [insN]
    split
    · rename_i he
      subst he
      have : inL (x :: r) x = true := inL_iff.2 (.head _)
      simp [addN, this]
    · rename_i hne
      have hin : inL (x :: r) n = inL r n := by
        rw [Bool.eq_iff_iff, inL_iff, inL_iff, List.mem_cons]
        exact ⟨fun h => h.resolve_left (fun e => hne e.symm), .inr⟩
      split
      · rename_i hl
        rw [← addN_ins h.2 n]
        have hat : addAt (x :: r) n = addAt r n + 1 := by
          have hl' : less x.1 x.2 n.1 n.2 = true := hl
          simp [addAt, List.takeWhile_cons, hl']
        unfold addN
        rw [hin, hat]
        split
        · rfl
        · simp
      · rename_i hl
        have hg : lt n x := ((lt_total x n).resolve_left hne).resolve_left hl
        have hat : addAt (x :: r) n = 0 := by
          have hl' : less x.1 x.2 n.1 n.2 = false := by rw [Bool.eq_false_iff]; exact hl
          simp [addAt, List.takeWhile_cons, hl']
        have hr : inL r n = false := by
          rw [Bool.eq_false_iff, Ne, inL_iff]
          exact fun hh => lt_irrefl n (lt_trans hg (h.1 n hh))
        unfold addN
        rw [hin, hat, hr]
        simp
theorem add_same {l : List Nm} (h : l.Pairwise lt) (n : Nm) : uniL l [n] = addN l n := by rw [uniL_ins, addN_ins h]
theorem apply_same {l : List Nm} (h : l.Pairwise lt) (c : Ch) : applyO l c = applyN l c.1 c.2.1 c.2.2 := by
  unfold applyO applyN
  split
  · exact add_same h c.1
  · rfl
theorem pw_apply {l : List Nm} (h : l.Pairwise lt) (c : Ch) : (applyO l c).Pairwise lt := by
  unfold applyO
  split
  · rw [uniL_ins]; exact sorted_ins h
  · exact h.filter _
theorem foldl_same : ∀ (l : List Ch) (t : List Nm), t.Pairwise lt → l.foldl applyO t = l.foldl applyR t
  | [], _, _ => rfl
  | c :: l, t, h => by
    simp only [List.foldl_cons]
    rw [show applyR t c = applyO t c from (apply_same h c).symm]
    exact foldl_same l _ (pw_apply h c)
theorem fold_same (l : List Ch) : foldO l = foldR l := foldl_same l [] .nil
/-! ### The union of sorted lists -/
theorem offHd_mem {n : Nm} : ∀ {a : List Nm}, a.Pairwise lt → (∀ z ∈ a, z = n ∨ lt n z) → ∀ z, z ∈ offHd n a ↔ z ∈ a ∧ z ≠ n
  | [], _, _, z => by simp [offHd]
  | x :: r, h, hn, z => by
    rw [List.pairwise_cons] at h
    simp only [offHd]
    split
    · rename_i he
      rw [nmEq_iff] at he
      subst he
      rw [List.mem_cons]
      constructor
      · intro hz
        exact ⟨.inr hz, fun e => by subst e; exact lt_irrefl _ (h.1 _ hz)⟩
      · rintro ⟨e | hz, hne⟩
        · exact absurd e hne
        · exact hz
    · rename_i he
      have hx : lt n x := (hn x (.head _)).resolve_left fun e => he ((nmEq_iff _ _).2 e)
      refine ⟨fun hz => ⟨hz, fun e => ?_⟩, fun hz => hz.1⟩
      subst e
      rcases List.mem_cons.1 hz with e | hz
      · subst e; exact lt_irrefl _ hx
      · exact lt_irrefl _ (lt_trans hx (h.1 _ hz))
theorem offHd_pw {n : Nm} {a : List Nm} (h : a.Pairwise lt) : (offHd n a).Pairwise lt := by
  cases a with
  | nil => exact .nil
  | cons x r =>
    simp only [offHd]
    split
    · exact (List.pairwise_cons.1 h).2
    · exact h
theorem uniHd_min {a b : List Nm} (ha : a.Pairwise lt) (hb : b.Pairwise lt) (h : (a.isEmpty && b.isEmpty) = false) :
    (uniHd a b ∈ a ∨ uniHd a b ∈ b) ∧ (∀ z ∈ a, z = uniHd a b ∨ lt (uniHd a b) z) ∧ (∀ z ∈ b, z = uniHd a b ∨ lt (uniHd a b) z) := by
  match a, b with
  | [], [] => simp at h
  | [], y :: s =>
    rw [List.pairwise_cons] at hb
    refine ⟨.inr (.head _), by simp, fun z hz => ?_⟩
    rcases List.mem_cons.1 hz with e | hz
    · exact .inl e
    · exact .inr (hb.1 z hz)
  | x :: r, [] =>
    rw [List.pairwise_cons] at ha
    refine ⟨.inl (.head _), fun z hz => ?_, by simp⟩
    rcases List.mem_cons.1 hz with e | hz
    · exact .inl e
    · exact .inr (ha.1 z hz)
  | x :: r, y :: s =>
    rw [List.pairwise_cons] at ha hb
    simp only [uniHd]
    split
    · rename_i hc
      have hyx := (cmpN_le x y).1 hc
      have hxy : y = x ∨ lt x y := by
        rcases lt_total x y with e | e | e
        · exact .inl e.symm
        · exact .inr e
        · exact absurd e hyx
      refine ⟨.inl (.head _), fun z hz => ?_, fun z hz => ?_⟩
      · rcases List.mem_cons.1 hz with e | hz
        · exact .inl e
        · exact .inr (ha.1 z hz)
      · rcases List.mem_cons.1 hz with e | hz
        · exact e ▸ hxy
        · rcases hxy with e | e
          · exact .inr (e ▸ hb.1 z hz)
          · exact .inr (lt_trans e (hb.1 z hz))
    · rename_i hc
      have hyx : lt y x := Decidable.byContradiction fun k => hc ((cmpN_le x y).2 k)
      refine ⟨.inr (.head _), fun z hz => ?_, fun z hz => ?_⟩
      · rcases List.mem_cons.1 hz with e | hz
        · exact .inr (e ▸ hyx)
        · exact .inr (lt_trans hyx (ha.1 z hz))
      · rcases List.mem_cons.1 hz with e | hz
        · exact .inl e
        · exact .inr (hb.1 z hz)
theorem uniL_ok : ∀ (k : Nat) (a b : List Nm), a.length + b.length ≤ k → a.Pairwise lt → b.Pairwise lt → (uniL a b).Pairwise lt ∧ ∀ z, z ∈ uniL a b ↔ z ∈ a ∨ z ∈ b
  | 0, a, b, hk, _, _ => by
    have ha : a = [] := List.eq_nil_of_length_eq_zero (by omega)
    have hb : b = [] := List.eq_nil_of_length_eq_zero (by omega)
    subst ha; subst hb
    rw [uniL_nil]
    exact ⟨.nil, by simp⟩
  | k + 1, a, b, hk, ha, hb => by
    cases he : a.isEmpty && b.isEmpty with
    | true =>
      simp only [Bool.and_eq_true, List.isEmpty_iff] at he
      obtain ⟨rfl, rfl⟩ := he
      rw [uniL_nil]
      exact ⟨.nil, by simp⟩
    | false =>
      have hl := uni_less a b he
      obtain ⟨h1, h2, h3⟩ := uniHd_min ha hb he
      rw [uniL_step a b he]
      obtain ⟨ih1, ih2⟩ := uniL_ok k (offHd (uniHd a b) a) (offHd (uniHd a b) b) (by omega) (offHd_pw ha) (offHd_pw hb)
      generalize uniHd a b = n at *
      have ma := offHd_mem ha h2
      have mb := offHd_mem hb h3
      refine ⟨List.pairwise_cons.2 ⟨fun z hz => ?_, ih1⟩, fun z => ?_⟩
      · rcases (ih2 z).1 hz with hz | hz
        · exact (h2 z ((ma z).1 hz).1).resolve_left ((ma z).1 hz).2
        · exact (h3 z ((mb z).1 hz).1).resolve_left ((mb z).1 hz).2
      · rw [List.mem_cons, ih2, ma, mb]
        by_cases e : z = n
        · subst e
          simp only [true_or, true_iff]
          exact h1
        · simp only [e, false_or, Ne, not_false_eq_true, and_true]
theorem uniL_pw {a b : List Nm} (ha : a.Pairwise lt) (hb : b.Pairwise lt) : (uniL a b).Pairwise lt := (uniL_ok _ a b (Nat.le_refl _) ha hb).1
theorem uniL_mem {a b : List Nm} (ha : a.Pairwise lt) (hb : b.Pairwise lt) (z : Nm) : z ∈ uniL a b ↔ z ∈ a ∨ z ∈ b := (uniL_ok _ a b (Nat.le_refl _) ha hb).2 z
theorem isIn_iff {l : List Nm} {n : Nm} : isIn l n = true ↔ n ∈ l := by
  simp only [isIn, List.any_eq_true, nmEq_iff]
  exact ⟨fun ⟨x, h, e⟩ => e ▸ h, fun h => ⟨n, h, rfl⟩⟩
theorem pw_add {l : List Nm} (h : l.Pairwise lt) (n : Nm) : (addN l n).Pairwise lt ∧ ∀ z, z ∈ addN l n ↔ z = n ∨ z ∈ l := by
  rw [addN_ins h]
  exact ⟨sorted_ins h, fun z => mem_ins⟩
theorem foldl_add (p : Nm → Bool) : ∀ (l t : List Nm), t.Pairwise lt → (l.foldl (fun t n => if p n = true then addN t n else t) t).Pairwise lt ∧
    ∀ z, z ∈ l.foldl (fun t n => if p n = true then addN t n else t) t ↔ z ∈ t ∨ (z ∈ l ∧ p z = true)
  | [], t, h => ⟨h, fun z => by simp⟩
  | x :: l, t, h => by
    simp only [List.foldl_cons]
    cases hp : p x with
    | true =>
      simp only [if_true]
      obtain ⟨h1, h2⟩ := pw_add h x
      obtain ⟨h3, h4⟩ := foldl_add p l (addN t x) h1
      refine ⟨h3, fun z => ?_⟩
      rw [h4, h2, List.mem_cons]
      constructor
      · rintro ((e | h) | h)
        · exact .inr ⟨.inl e, by rw [e]; exact hp⟩
        · exact .inl h
        · exact .inr ⟨.inr h.1, h.2⟩
      · rintro (h | ⟨e | h, k⟩)
        · exact .inl (.inr h)
        · exact .inl (.inl e)
        · exact .inr ⟨h, k⟩
    | false =>
      simp only [Bool.false_eq_true, if_false]
      obtain ⟨h3, h4⟩ := foldl_add p l t h
      refine ⟨h3, fun z => ?_⟩
      rw [h4, List.mem_cons]
      constructor
      · rintro (h | h)
        · exact .inl h
        · exact .inr ⟨.inr h.1, h.2⟩
      · rintro (h | ⟨e | h, k⟩)
        · exact .inl h
        · rw [e, hp] at k; cases k
        · exact .inr ⟨h, k⟩
theorem joinR_ok (a : List Nm) (x : List Int) (b : List Nm) (y : List Int) : (joinR a x b y).Pairwise lt ∧
    ∀ z, z ∈ joinR a x b y ↔ (z ∈ a ∧ (z ∈ b ∨ inCut y z.1 z.2 = false)) ∨ (z ∈ b ∧ inCut x z.1 z.2 = false) := by
  obtain ⟨h1, h2⟩ := foldl_add (fun n => inL b n || !inCut y n.1 n.2) a [] .nil
  have e : stepB x = fun t n => if (!inCut x n.1 n.2) = true then addN t n else t := by
    funext t n
    simp only [stepB]
    cases inCut x n.1 n.2 <;> rfl
  obtain ⟨h3, h4⟩ := foldl_add (fun n => !inCut x n.1 n.2) b (halfR a b y) h1
  rw [joinR, e]
  refine ⟨h3, fun z => ?_⟩
  rw [h4, show (z ∈ halfR a b y ↔ _) from h2 z]
  simp only [List.not_mem_nil, false_or, Bool.or_eq_true, inL_iff, Bool.not_eq_true']
theorem joinT_ok {a b : List Nm} (ha : a.Pairwise lt) (hb : b.Pairwise lt) (x y : List Int) : (joinT a x b y).Pairwise lt ∧
    ∀ z, z ∈ joinT a x b y ↔ (z ∈ a ∧ (z ∈ b ∨ inCut y z.1 z.2 = false)) ∨ (z ∈ b ∧ inCut x z.1 z.2 = false) := by
  refine ⟨(uniL_pw ha hb).filter _, fun z => ?_⟩
  rw [joinT, List.mem_filter, uniL_mem ha hb]
  simp only [keepJ, Bool.or_eq_true, Bool.and_eq_true, isIn_iff, Bool.not_eq_true']
  constructor
  · rintro ⟨-, (⟨h1, h2⟩ | ⟨h1, h2⟩) | ⟨h1, h2⟩⟩
    · exact .inl ⟨h1, .inl h2⟩
    · exact .inl ⟨h1, .inr h2⟩
    · exact .inr ⟨h1, h2⟩
  · rintro (⟨h1, h2 | h2⟩ | ⟨h1, h2⟩)
    · exact ⟨.inl h1, .inl (.inl ⟨h1, h2⟩)⟩
    · exact ⟨.inl h1, .inl (.inr ⟨h1, h2⟩)⟩
    · exact ⟨.inr h1, .inr ⟨h1, h2⟩⟩
theorem join_same {a b : List Nm} (ha : a.Pairwise lt) (hb : b.Pairwise lt) (x y : List Int) : joinT a x b y = joinR a x b y := by
  obtain ⟨h1, h2⟩ := joinT_ok ha hb x y
  obtain ⟨h3, h4⟩ := joinR_ok a x b y
  exact sorted_eq h1 h3 fun z => (h2 z).trans (h4 z).symm
end Go.Proofs.Ytalbfikfbejnfaa.A

/- The law's examples. -/
set_option linter.unusedVariables false
set_option linter.unusedSimpArgs false
namespace Go.Proofs.Ytalbfikfbejnfaa.A
open Go.RowKit
attribute [local go_sem] Nat.reduceAdd Nat.reduceSub Nat.reduceMul Nat.reduceLT Nat.reduceLeDiff Nat.reduceEqDiff Nat.reduceBEq reduceIte reduceCtorEq e_step_none e_slotU e_slotB e_move e_assign e_pick e_unOp e_binOp e_alloc e_box e_build e_buildSlice e_load e_store e_fieldAddr e_field e_indexAddr e_index e_slice e_makeSlice e_makeFunc e_convert e_extract e_nilCheck e_len e_append e_max e_min e_call e_callV e_clo e_ev_tmp e_ev_int e_ev_bool e_ev_string e_ev_slice e_ev_nilFunc e_ev_nilIface e_ev_pointer e_ev_agg e_ev_func e_pickT e_pickF e_not e_neg e_add e_sub e_mul e_quo e_rem e_eql e_neq e_lss e_leq e_gtr e_geq e_beq e_bne e_sadd e_seql e_sneq e_b2_d e_b2_nil e_b2_nnil e_b2_agg e_lits_nil e_lits_cons e_litC e_eqR e_eqO_e e_eqO_n e_eqV4 e_eqV3 e_eqV2 e_eqV1 e_eqFs_nil e_eqFs_cons e_and2 e_eq1 e_eqL_i e_eqL_s e_eqL_b e_allocR e_boxR e_box_agg e_box_d e_box_own e_box_clo e_one_nil e_one_d e_one_own e_one_clo e_one_ptr e_cells_agg e_cells_d e_cells_own e_cells_clo e_cells_ptr e_ob_own e_ob_ptr e_ob_elo e_ob_d e_ob_el e_ob_agg e_load_box e_load_fzb e_load_el e_load_elo e_store_box e_storeB e_store_elo e_store_elo_agg e_storeE e_fa_ptr e_fa_el e_fa_elo e_faR e_fd e_fdR e_ia_d e_ia_row e_ia_fz e_ia_ptr e_ia_el e_ix_s e_ix_a e_len_s e_len_nil e_len_d e_len_row e_len_fz e_conv_i e_conv_s e_extr e_maxR e_minR e_nil_ptr e_nil_el e_nil_elo e_rows_nil e_rows_d e_rows_row e_rows_fz e_rok_nil e_rok_d e_rok_row e_rok_fz e_app_row e_appR e_app_nil e_appN e_make e_bnd_none e_bnd_some e_optmap_none e_optmap_some e_slR e_slRe e_sl_s e_sl_d e_sl_nil e_sl_row e_sl_fz e_fill_nil e_fill_cons e_fill1 e_placeS e_plS e_placeE e_buildO e_build1 e_build2 e_build3 e_bindD e_bs e_bsR e_allD_nil e_allD_cons e_allD1 e_chunk0 e_chunkS e_clP_nil e_clP_cons e_cl_d e_cl_any e_cl_el e_cl_agg e_cl_tup e_cl_clo e_cl_own e_clOwn_row e_clOwn_fz e_cl_ptr e_clPtr_box e_clBox e_clPtr_fzb e_clL_nil e_clL_cons e_ok_d e_ok_any e_ok_el e_ok_agg e_ok_tup e_ok_clo e_ok_own e_okOwn_row e_okOwn_fz e_ok_ptr e_okPtr_box e_okPtr_fzb e_okL_nil e_okL_cons e_ids_d e_ids_any e_ids_el e_ids_own e_ids_ptr e_ids_agg e_ids_tup e_ids_clo e_idsL_nil e_idsL_cons e_frz_nil e_frz_cons e_frz_row e_frz_fz e_frz_fzb e_frz_box e_frzB e_flat_lit e_flat_sl e_flat_agg e_flat_tup e_flat_any e_flat_clo e_flatL_nil e_flatL_cons e_objD e_setMany e_takeA e_zerosA e_gdL e_idsG e_idsOp e_callV' e_callF' e_o_move e_o_assign e_o_pick e_o_unOp e_o_binOp e_o_alloc e_o_box e_o_build e_o_buildSlice e_o_load e_o_store e_o_fieldAddr e_o_field e_o_indexAddr e_o_index e_o_slice0 e_o_slice1 e_o_slice2 e_o_slice3 e_o_makeSlice e_o_makeFunc e_o_convert e_o_extract e_o_nilCheck e_o_bcall e_o_vcall litI litB litS List.map_cons List.map_nil List.getD_cons_zero List.getD_cons_succ List.getD_nil List.getElem?_cons_zero List.getElem?_cons_succ List.getElem?_nil Option.getD_some Option.getD_none Option.map_some Option.map_none List.length_cons List.length_nil List.all_cons List.all_nil Bool.and_true Bool.true_and and_true true_and and_self
attribute [local go_sem] List.take_zero List.take_succ_cons List.drop_zero List.drop_succ_cons List.nil_append List.cons_append List.append_nil List.replicate_succ List.replicate_zero List.flatten_cons List.flatten_nil Nat.zero_add Nat.add_zero Nat.mul_one Nat.zero_mul Nat.one_mul Nat.mul_zero List.set_cons_zero List.set_cons_succ List.foldl_cons List.foldl_nil appendOk rowsOk inB sliceOk cutRows mtake mdrop List.length_append List.length_take List.length_drop if_true if_false or_false or_true true_or Bool.not_true Bool.not_false Bool.false_eq_true List.length_map Int.toNat_natCast Int.toNat_zero Int.toNat_one eq_self St.after St.put applyEff R0 T1 T2 T3 T4 T5 T6 T7 T8 T9 T10 T11 T12 T13 T14 T15 T16 T17 T18 T19 T20 T21 T22 T23 T24 T25 T26 T27 T28 T29 T30 T31 T32 T33 T34 T35 T36 T37 T38 T39 T40 T41 T42 T43 T44 T45 T46 T47 T48 T49 T50 T51 T52 T53 T54 T55 T56 T57 T58 T59 T60 T61 T62 T63 T64 T65 T66 T67 T68 T69 T70 T71 T72 T73 T74 T75 T76 T77 T78 T79 T80 T81 T82 T83 T84 T85 T86 T87 T88 T89 T90 T91 T92 T93 T94 T95 T96 T97 T98 T99 T100 T101 T102 T103 T105 T106 T107 T108 T109 T110 T111 T112 T113 T114 T117 T118 T119 T120 T121 T122 T123 T124 T125 T126 T127 T130 T131 T132 T133 T134 ti1 ti2 ti3 ti4 ti5 ti6 ti7 ti8 ti9 ti10 ti11 ti12 ti13 ti14 ti15 ti16 ti17 ti18 ti19 ti20 ti21 ti22 ti23 ti24 ti25 ti26 ti27 ti28 ti29 ti30 ti31 ti32 ti33 ti34 ti35 ti36 ti37 ti38 ti39 ti40 ti41 ti42 ti43 ti44 ti45 ti46 ti47 ti48 ti49 ti50 ti51 ti52 ti53 ti54 ti55 ti56 ti57 ti58 ti59 ti60 ti61 ti62 ti63 ti64 ti65 ti66 ti67 ti68 ti69 ti70 ti71 ti72 ti73 ti74 ti75 ti76 ti77 ti78 ti79 ti80 ti81 ti82 ti83 ti84 ti85 ti86 ti87 ti88 ti89 ti90 ti91 ti92 ti93 ti94 ti95 ti96 ti97 ti98 ti99 ti100 ti101 ti102 ti103 ti105 ti106 ti107 ti108 ti109 ti110 ti111 ti112 ti113 ti114 ti117 ti118 ti119 ti120 ti121 ti122 ti123 ti124 ti125 ti126 ti127 ti130 ti131 ti132 ti133 ti134
attribute [local irreducible] AWp evOps evD AWq Ops
/-- Arguments of which more is told. -/
theorem Spec.args {P : Program} {f : Nat} {xs ys : List AV} {r : AV} (h : Spec P f ys r) (hle : LeL xs ys) : Spec P f xs r :=
  ⟨h.1, fun w C hC vs hv => h.2 w C hC vs (hle.has hv)⟩
abbrev exA : Nm := (0, 1)
abbrev exB : Nm := (1, 1)
abbrev exD : Nm := (0, 2)
abbrev cut2 (a b : Int) : List Int := [a, b, 0, 0, 0, 0]
set_option maxHeartbeats 8000000 in
set_option maxRecDepth 8000 in
theorem f9_spec : Spec Try.prog 9 [] (litB true) := by
  have h13a : Spec Try.prog 13 [.d (chs [(exB, cut2 0 1, true), (exA, cut2 1 0, true)])] (.d (nms [exA, exB])) := f13_spec _ (by decide)
  have h13b : Spec Try.prog 13 [.d (chs [(exB, cut2 0 1, true), (exA, cut2 1 0, true), (exD, cut2 2 0, false)])] (.d (nms [exB])) := f13_spec _ (by decide)
  have h14a : Spec Try.prog 14 [.d (nms [exA, exB]), .d (nms [exA, exB])] (litB true) := f14_spec _ _
  have h14b : Spec Try.prog 14 [.d (nms [exB]), .d (nms [exB])] (litB true) := f14_spec _ _
  have h16a : Spec Try.prog 16 [.d (nms [exA, exD, exB])] (litB true) := f16_spec _
  have h16b : Spec Try.prog 16 [.d (nms [exB, exA])] (litB false) := f16_spec _
  have h16c : Spec Try.prog 16 [.d (nms [exA, exA])] (litB false) := f16_spec _
  have h16d : Spec Try.prog 16 [.d (nms [(0, 0)])] (litB false) := f16_spec _
  have h31 : Spec Try.prog 31 [.agg [.d (nms [exA]), .d (ints (cut2 1 0))], .agg [.d (.lit (.slice none 0 0)), .d (ints (cut2 2 0))]] (.agg [.d (nms []), .d (ints (cut2 2 0))]) :=
    (f31_spec [exA] [] (cut2 1 0) (cut2 2 0) (by decide)).args ⟨LeA.refl _, LeA.agg ⟨LeA.nil 2, LeA.refl _, trivial⟩, trivial⟩
  have h42 : Spec Try.prog 42 [.d (ints (cut2 2 0)), .d (ints (cut2 2 0))] (litB true) := f42_spec _ _
  have h19 : Spec Try.prog 19 [.agg (chg exD (cut2 2 0) false)] (.agg (chg exD (cut2 2 0) false)) := f19_spec _ _ _
  have h18a : Spec Try.prog 18 [.agg (chg exD (cut2 2 0) false)] (litB true) := f18_spec _ _ _
  have h18b : Spec Try.prog 18 [.agg (chg exD (cut2 1 0) false)] (litB false) := f18_spec _ _ _
  have h21a : Spec Try.prog 21 [.agg (rep [exA] (cut2 1 0))] (litB true) := f21_spec _ _
  have h21b : Spec Try.prog 21 [.agg (rep [exB] (cut2 1 0))] (litB false) := f21_spec _ _
  have h26 : Spec Try.prog 26 [.d (nms [exA, exB]), .agg (nm 0 2)] (.d (nms [exA, exD, exB])) := f26_spec [exA, exB] exD (by decide)
  have h14c : Spec Try.prog 14 [.d (nms [exA, exD, exB]), .d (nms [exA, exD, exB])] (litB true) := f14_spec _ _
  have h28 : Spec Try.prog 28 [.d (nms [exA, exB]), .d (ints (cut2 9 9))] (.d (nms [])) := f28_spec _ _ (by decide)
  refine spec_of_awp (fn := Try.f9) Try.func9 (by kernel_rfl) rfl ?_
  intro w0 C0
  simp only [Try.ntmps9, litI, litB, litS, List.length_cons, List.length_nil, Nat.reduceAdd, Nat.reduceSub, List.replicate_succ, List.replicate_zero, List.cons_append, List.nil_append]
  repeat' first
    | refine awp_seq ?_
    | refine awp_block ?_
    | refine awp_skip ?_
    | (refine reg _ (by (simp only [List.map_cons, List.map_nil]; rfl)) rfl ?_; intro K hK)
    | (refine awp_cond _ (by rfl) ?_ ?_ <;> (intro hb; first | (cases hb; done) | (have ht : true = true := hb; clear ht hb) | (have ht : false = false := hb; clear ht hb) | (simp only [hb]) | skip))
    | (refine awp_exit ?_; simp only [thenA, blockA, reduceIte, RetQ, Nat.reduceEqDiff])
    | (refine awp_ret ?_; simp only [thenA, blockA, RetQ])
    | (refine ev_nil (hK _ ?_); clear hK K)
    | refine ev_guardU _ (by (simp only [go_sem, Bool.and_false, Bool.false_and, Bool.and_self, Int.reduceToNat]; rfl)) (by (simp only [go_sem, Bool.and_false, Bool.false_and, Bool.and_self, Int.reduceToNat]; rfl)) _ (by (simp only [go_sem, Bool.and_false, Bool.false_and, Bool.and_self, Int.reduceToNat]; rfl)) ?_
    | (refine ev_guardT _ _ (by (simp only [go_sem, Bool.and_false, Bool.false_and, Bool.and_self, Int.reduceToNat]; rfl)) (by (simp only [go_sem, Bool.and_false, Bool.false_and, Bool.and_self, Int.reduceToNat]; rfl)) ?_ ?_ <;> (intro hb; first | (cases hb; done) | (have ht : true = true := hb; clear ht hb) | (have ht : false = false := hb; clear ht hb) | (simp only [hb]) | skip))
    | (refine ev_guardF _ _ (by (simp only [go_sem, Bool.and_false, Bool.false_and, Bool.and_self, Int.reduceToNat]; rfl)) (by (simp only [go_sem, Bool.and_false, Bool.false_and, Bool.and_self, Int.reduceToNat]; rfl)) ?_ ?_ <;> (intro hb; first | (cases hb; done) | (have ht : true = true := hb; clear ht hb) | (have ht : false = false := hb; clear ht hb) | (simp only [hb]) | skip))
    | refine ev_call0 _ _ (by (simp only [go_sem, Bool.and_false, Bool.false_and, Bool.and_self, Int.reduceToNat]; rfl)) (by first | exact f41_spec .. | exact h13a .. | exact h13b .. | exact h14a .. | exact h14b .. | exact h16a .. | exact h16b .. | exact h16c .. | exact h16d .. | exact h31 .. | exact h42 .. | exact h18a .. | exact h18b .. | exact h21a .. | exact h21b .. | exact h26 .. | exact h14c .. | exact h28 .. | exact h19 ..) (by (simp only [go_sem, Bool.and_false, Bool.false_and, Bool.and_self, Int.reduceToNat])) _ (by (simp only [go_sem, Bool.and_false, Bool.false_and, Bool.and_self, Int.reduceToNat]; rfl)) ?_
    | refine ev_callC _ _ _ _ (by (simp only [go_sem, Bool.and_false, Bool.false_and, Bool.and_self, Int.reduceToNat]; rfl)) (by (simp only [go_sem, Bool.and_false, Bool.false_and, Bool.and_self, Int.reduceToNat]; rfl)) (by first | exact f41_spec .. | exact h13a .. | exact h13b .. | exact h14a .. | exact h14b .. | exact h16a .. | exact h16b .. | exact h16c .. | exact h16d .. | exact h31 .. | exact h42 .. | exact h18a .. | exact h18b .. | exact h21a .. | exact h21b .. | exact h26 .. | exact h14c .. | exact h28 .. | exact h19 ..) (by (simp only [go_sem, Bool.and_false, Bool.false_and, Bool.and_self, Int.reduceToNat])) _ (by (simp only [go_sem, Bool.and_false, Bool.false_and, Bool.and_self, Int.reduceToNat]; rfl)) ?_
    | (apply regD; (case hd => (simp only [List.map_cons, List.map_nil]; rfl)); (case hok => rfl); (case' h => (intro K hK; (repeat' first
        | (apply evd_nil; refine (hK _ ?_); clear hK K)
        | (apply evd_guardU0; (case hj => (simp only [go_sem, Bool.and_false, Bool.false_and, Bool.and_self, Int.reduceToNat]; try rfl)); (case hu => (simp only [go_sem, Bool.and_false, Bool.false_and, Bool.and_self, Int.reduceToNat])); (case hσ => (simp only [go_sem, Bool.and_false, Bool.false_and, Bool.and_self, Int.reduceToNat]; try rfl)))
        | (apply evd_skipT0; (case hj => (simp only [go_sem, Bool.and_false, Bool.false_and, Bool.and_self, Int.reduceToNat]; try rfl)); (case hb => (simp only [go_sem, Bool.and_false, Bool.false_and, Bool.and_self, Int.reduceToNat]; try rfl)); (case hσ => (simp only [go_sem, Bool.and_false, Bool.false_and, Bool.and_self, Int.reduceToNat]; try rfl)))
        | (apply evd_skipF0; (case hj => (simp only [go_sem, Bool.and_false, Bool.false_and, Bool.and_self, Int.reduceToNat]; try rfl)); (case hb => (simp only [go_sem, Bool.and_false, Bool.false_and, Bool.and_self, Int.reduceToNat]; try rfl)); (case hσ => (simp only [go_sem, Bool.and_false, Bool.false_and, Bool.and_self, Int.reduceToNat]; try rfl)))
        | (apply evd_guardU; (case hj => (simp only [go_sem, Bool.and_false, Bool.false_and, Bool.and_self, Int.reduceToNat]; try rfl)); (case hu => (simp only [go_sem, Bool.and_false, Bool.false_and, Bool.and_self, Int.reduceToNat])); (case hσ => (simp only [go_sem, Bool.and_false, Bool.false_and, Bool.and_self, Int.reduceToNat]; try rfl)))
        | (apply evd_skipT; (case hj => (simp only [go_sem, Bool.and_false, Bool.false_and, Bool.and_self, Int.reduceToNat]; try rfl)); (case hb => (simp only [go_sem, Bool.and_false, Bool.false_and, Bool.and_self, Int.reduceToNat]; try rfl)); (case hσ => (simp only [go_sem, Bool.and_false, Bool.false_and, Bool.and_self, Int.reduceToNat]; try rfl)))
        | (apply evd_skipF; (case hj => (simp only [go_sem, Bool.and_false, Bool.false_and, Bool.and_self, Int.reduceToNat]; try rfl)); (case hb => (simp only [go_sem, Bool.and_false, Bool.false_and, Bool.and_self, Int.reduceToNat]; try rfl)); (case hσ => (simp only [go_sem, Bool.and_false, Bool.false_and, Bool.and_self, Int.reduceToNat]; try rfl)))
        | (apply evd_guardT; (case hj => (simp only [go_sem, Bool.and_false, Bool.false_and, Bool.and_self, Int.reduceToNat]; try rfl)); (case hb => (simp only [go_sem, Bool.and_false, Bool.false_and, Bool.and_self, Int.reduceToNat]; try rfl)); (case' h2 => (intro hb; first | (cases hb; done) | (simp only [hb]) | skip)); (case' h1 => (intro hb; first | (cases hb; done) | (simp only [hb]) | skip)))
        | (apply evd_guardF; (case hj => (simp only [go_sem, Bool.and_false, Bool.false_and, Bool.and_self, Int.reduceToNat]; try rfl)); (case hb => (simp only [go_sem, Bool.and_false, Bool.false_and, Bool.and_self, Int.reduceToNat]; try rfl)); (case' h2 => (intro hb; first | (cases hb; done) | (simp only [hb]) | skip)); (case' h1 => (intro hb; first | (cases hb; done) | (simp only [hb]) | skip)))
        | (apply evd_call0; (case hi => (simp only [go_sem, Bool.and_false, Bool.false_and, Bool.and_self, Int.reduceToNat]; try rfl)); (case hys => (simp only [go_sem, Bool.and_false, Bool.false_and, Bool.and_self, Int.reduceToNat]; try rfl)); (case hs => first | exact f41_spec .. | exact h13a .. | exact h13b .. | exact h14a .. | exact h14b .. | exact h16a .. | exact h16b .. | exact h16c .. | exact h16d .. | exact h31 .. | exact h42 .. | exact h18a .. | exact h18b .. | exact h21a .. | exact h21b .. | exact h26 .. | exact h14c .. | exact h28 .. | exact h19 ..); (case hok => (simp only [go_sem, Bool.and_false, Bool.false_and, Bool.and_self, Int.reduceToNat])); (case hw => (simp only [go_sem, Bool.and_false, Bool.false_and, Bool.and_self, Int.reduceToNat]; try rfl)); (case hσ => (simp only [go_sem, Bool.and_false, Bool.false_and, Bool.and_self, Int.reduceToNat]; try rfl)))
        | (apply evd_callC; (case hf => (simp only [go_sem, Bool.and_false, Bool.false_and, Bool.and_self, Int.reduceToNat]; try rfl)); (case hi => (simp only [go_sem, Bool.and_false, Bool.false_and, Bool.and_self, Int.reduceToNat]; try rfl)); (case hys => (simp only [go_sem, Bool.and_false, Bool.false_and, Bool.and_self, Int.reduceToNat]; try rfl)); (case hs => first | exact f41_spec .. | exact h13a .. | exact h13b .. | exact h14a .. | exact h14b .. | exact h16a .. | exact h16b .. | exact h16c .. | exact h16d .. | exact h31 .. | exact h42 .. | exact h18a .. | exact h18b .. | exact h21a .. | exact h21b .. | exact h26 .. | exact h14c .. | exact h28 .. | exact h19 ..); (case hok => (simp only [go_sem, Bool.and_false, Bool.false_and, Bool.and_self, Int.reduceToNat])); (case hw => (simp only [go_sem, Bool.and_false, Bool.false_and, Bool.and_self, Int.reduceToNat]; try rfl)); (case hσ => (simp only [go_sem, Bool.and_false, Bool.false_and, Bool.and_self, Int.reduceToNat]; try rfl)))
        | (apply evd_step0; (case hr => (simp only [go_sem, Bool.and_false, Bool.false_and, Bool.and_self, Int.reduceToNat]; try rfl)); (case hi => (simp only [go_sem, Bool.and_false, Bool.false_and, Bool.and_self, Int.reduceToNat]; try rfl)); (case hc => (first | trivial | decide | (simp only [inB, sliceOk, appendOk, rowsOk]; omega) | (simp [inB, sliceOk, appendOk, rowsOk]; omega))); (case hσ => (simp only [go_sem, Bool.and_false, Bool.false_and, Bool.and_self, Int.reduceToNat]; try rfl)))
        | (apply evd_step; (case hr => (simp only [go_sem, Bool.and_false, Bool.false_and, Bool.and_self, Int.reduceToNat]; try rfl)); (case hi => (simp only [go_sem, Bool.and_false, Bool.false_and, Bool.and_self, Int.reduceToNat]; try rfl)); (case hc => (first | trivial | decide | (simp only [inB, sliceOk, appendOk, rowsOk]; omega) | (simp [inB, sliceOk, appendOk, rowsOk]; omega))); (case hw => (intro g u; simp only [go_sem, Bool.and_false, Bool.false_and, Bool.and_self, Int.reduceToNat]; try rfl)); (case hσ => (intro g u; simp only [go_sem, Bool.and_false, Bool.false_and, Bool.and_self, Int.reduceToNat]; try rfl)); (case' hk => (intro g u; (try clear u); (try clear g))))
        | fail))); (case hB => kernel_rfl))
    | refine ev_step0 _ _ (by (simp only [go_sem, Bool.and_false, Bool.false_and, Bool.and_self, Int.reduceToNat]; rfl)) (by (first | trivial | decide | (simp only [inB, sliceOk, appendOk, rowsOk]; omega) | (simp [inB, sliceOk, appendOk, rowsOk]; omega))) _ (by (simp only [go_sem, Bool.and_false, Bool.false_and, Bool.and_self, Int.reduceToNat]; rfl)) ?_
    | (refine ev_step _ (by (simp only [go_sem, Bool.and_false, Bool.false_and, Bool.and_self, Int.reduceToNat]; rfl)) (by (first | trivial | decide | (simp only [inB, sliceOk, appendOk, rowsOk]; omega) | (simp [inB, sliceOk, appendOk, rowsOk]; omega))) _ (fun g u => by (simp only [go_sem, Bool.and_false, Bool.false_and, Bool.and_self, Int.reduceToNat]; rfl)) ?_; intro g u; (try clear u); (try clear g))
    | fail
  all_goals (refine resR_one T_ok rfl _ (by (simp only [go_sem, resA]; rfl)) (by first | trivial | (simp only [go_sem, resA])) (by first | trivial | (simp only [go_sem])) ?_; simp only [go_sem])
  exact LeA.b rfl
end Go.Proofs.Ytalbfikfbejnfaa.A

/- The law OrsetMatchesReference: its walk. -/
set_option linter.unusedVariables false
set_option linter.unusedSimpArgs false
namespace Go.Proofs.Ytalbfikfbejnfaa.A
open Go.RowKit
attribute [local go_sem] Nat.reduceAdd Nat.reduceSub Nat.reduceMul Nat.reduceLT Nat.reduceLeDiff Nat.reduceEqDiff Nat.reduceBEq reduceIte reduceCtorEq e_step_none e_slotU e_slotB e_move e_assign e_pick e_unOp e_binOp e_alloc e_box e_build e_buildSlice e_load e_store e_fieldAddr e_field e_indexAddr e_index e_slice e_makeSlice e_makeFunc e_convert e_extract e_nilCheck e_len e_append e_max e_min e_call e_callV e_clo e_ev_tmp e_ev_int e_ev_bool e_ev_string e_ev_slice e_ev_nilFunc e_ev_nilIface e_ev_pointer e_ev_agg e_ev_func e_pickT e_pickF e_not e_neg e_add e_sub e_mul e_quo e_rem e_eql e_neq e_lss e_leq e_gtr e_geq e_beq e_bne e_sadd e_seql e_sneq e_b2_d e_b2_nil e_b2_nnil e_b2_agg e_lits_nil e_lits_cons e_litC e_eqR e_eqO_e e_eqO_n e_eqV4 e_eqV3 e_eqV2 e_eqV1 e_eqFs_nil e_eqFs_cons e_and2 e_eq1 e_eqL_i e_eqL_s e_eqL_b e_allocR e_boxR e_box_agg e_box_d e_box_own e_box_clo e_one_nil e_one_d e_one_own e_one_clo e_one_ptr e_cells_agg e_cells_d e_cells_own e_cells_clo e_cells_ptr e_ob_own e_ob_ptr e_ob_elo e_ob_d e_ob_el e_ob_agg e_load_box e_load_fzb e_load_el e_load_elo e_store_box e_storeB e_store_elo e_store_elo_agg e_storeE e_fa_ptr e_fa_el e_fa_elo e_faR e_fd e_fdR e_ia_d e_ia_row e_ia_fz e_ia_ptr e_ia_el e_ix_s e_ix_a e_len_s e_len_nil e_len_d e_len_row e_len_fz e_conv_i e_conv_s e_extr e_maxR e_minR e_nil_ptr e_nil_el e_nil_elo e_rows_nil e_rows_d e_rows_row e_rows_fz e_rok_nil e_rok_d e_rok_row e_rok_fz e_app_row e_appR e_app_nil e_appN e_make e_bnd_none e_bnd_some e_optmap_none e_optmap_some e_slR e_slRe e_sl_s e_sl_d e_sl_nil e_sl_row e_sl_fz e_fill_nil e_fill_cons e_fill1 e_placeS e_plS e_placeE e_buildO e_build1 e_build2 e_build3 e_bindD e_bs e_bsR e_allD_nil e_allD_cons e_allD1 e_chunk0 e_chunkS e_clP_nil e_clP_cons e_cl_d e_cl_any e_cl_el e_cl_agg e_cl_tup e_cl_clo e_cl_own e_clOwn_row e_clOwn_fz e_cl_ptr e_clPtr_box e_clBox e_clPtr_fzb e_clL_nil e_clL_cons e_ok_d e_ok_any e_ok_el e_ok_agg e_ok_tup e_ok_clo e_ok_own e_okOwn_row e_okOwn_fz e_ok_ptr e_okPtr_box e_okPtr_fzb e_okL_nil e_okL_cons e_ids_d e_ids_any e_ids_el e_ids_own e_ids_ptr e_ids_agg e_ids_tup e_ids_clo e_idsL_nil e_idsL_cons e_frz_nil e_frz_cons e_frz_row e_frz_fz e_frz_fzb e_frz_box e_frzB e_flat_lit e_flat_sl e_flat_agg e_flat_tup e_flat_any e_flat_clo e_flatL_nil e_flatL_cons e_objD e_setMany e_takeA e_zerosA e_gdL e_idsG e_idsOp e_callV' e_callF' e_o_move e_o_assign e_o_pick e_o_unOp e_o_binOp e_o_alloc e_o_box e_o_build e_o_buildSlice e_o_load e_o_store e_o_fieldAddr e_o_field e_o_indexAddr e_o_index e_o_slice0 e_o_slice1 e_o_slice2 e_o_slice3 e_o_makeSlice e_o_makeFunc e_o_convert e_o_extract e_o_nilCheck e_o_bcall e_o_vcall litI litB litS List.map_cons List.map_nil List.getD_cons_zero List.getD_cons_succ List.getD_nil List.getElem?_cons_zero List.getElem?_cons_succ List.getElem?_nil Option.getD_some Option.getD_none Option.map_some Option.map_none List.length_cons List.length_nil List.all_cons List.all_nil Bool.and_true Bool.true_and and_true true_and and_self
attribute [local go_sem] List.take_zero List.take_succ_cons List.drop_zero List.drop_succ_cons List.nil_append List.cons_append List.append_nil List.replicate_succ List.replicate_zero List.flatten_cons List.flatten_nil Nat.zero_add Nat.add_zero Nat.mul_one Nat.zero_mul Nat.one_mul Nat.mul_zero List.set_cons_zero List.set_cons_succ List.foldl_cons List.foldl_nil appendOk rowsOk inB sliceOk cutRows mtake mdrop List.length_append List.length_take List.length_drop if_true if_false or_false or_true true_or Bool.not_true Bool.not_false Bool.false_eq_true List.length_map Int.toNat_natCast Int.toNat_zero Int.toNat_one eq_self St.after St.put applyEff R0 T1 T2 T3 T4 T5 T6 T7 T8 T9 T10 T11 T12 T13 T14 T15 T16 T17 T18 T19 T20 T21 T22 T23 T24 T25 T26 T27 T28 T29 T30 T31 T32 T33 T34 T35 T36 T37 T38 T39 T40 T41 T42 T43 T44 T45 T46 T47 T48 T49 T50 T51 T52 T53 T54 T55 T56 T57 T58 T59 T60 T61 T62 T63 T64 T65 T66 T67 T68 T69 T70 T71 T72 T73 T74 T75 T76 T77 T78 T79 T80 T81 T82 T83 T84 T85 T86 T87 T88 T89 T90 T91 T92 T93 T94 T95 T96 T97 T98 T99 T100 T101 T102 T103 T105 T106 T107 T108 T109 T110 T111 T112 T113 T114 T117 T118 T119 T120 T121 T122 T123 T124 T125 T126 T127 T130 T131 T132 T133 T134 ti1 ti2 ti3 ti4 ti5 ti6 ti7 ti8 ti9 ti10 ti11 ti12 ti13 ti14 ti15 ti16 ti17 ti18 ti19 ti20 ti21 ti22 ti23 ti24 ti25 ti26 ti27 ti28 ti29 ti30 ti31 ti32 ti33 ti34 ti35 ti36 ti37 ti38 ti39 ti40 ti41 ti42 ti43 ti44 ti45 ti46 ti47 ti48 ti49 ti50 ti51 ti52 ti53 ti54 ti55 ti56 ti57 ti58 ti59 ti60 ti61 ti62 ti63 ti64 ti65 ti66 ti67 ti68 ti69 ti70 ti71 ti72 ti73 ti74 ti75 ti76 ti77 ti78 ti79 ti80 ti81 ti82 ti83 ti84 ti85 ti86 ti87 ti88 ti89 ti90 ti91 ti92 ti93 ti94 ti95 ti96 ti97 ti98 ti99 ti100 ti101 ti102 ti103 ti105 ti106 ti107 ti108 ti109 ti110 ti111 ti112 ti113 ti114 ti117 ti118 ti119 ti120 ti121 ti122 ti123 ti124 ti125 ti126 ti127 ti130 ti131 ti132 ti133 ti134
attribute [local irreducible] AWp evOps evD AWq Ops
set_option maxHeartbeats 16000000 in
set_option maxRecDepth 8000 in
theorem f3_spec (h b : List Int) (hh : ∀ x ∈ h, 0 ≤ x ∧ x < 256) (hb : ∀ x ∈ b, 0 ≤ x ∧ x < 256) (z : Od) : Spec Try.prog 3 [.d (bytesD h), .d (bytesD b), .agg (odA z)] (litB true) := by
  have f10 := f10_spec z
  obtain ⟨tags, ⟨n, past, put⟩, ta, sa, tb, sb⟩ := z
  cases r0 : smallO ⟨tags, (n, past, put), ta, sa, tb, sb⟩ with
  | false =>
    rw [r0] at f10
    refine spec_of_awp (fn := Try.f3) Try.func3 (by kernel_rfl) rfl ?_
    intro w0 C0
    simp only [Try.ntmps3, litI, litB, litS, List.length_cons, List.length_nil, Nat.reduceAdd, Nat.reduceSub, List.replicate_succ, List.replicate_zero, List.cons_append, List.nil_append]
    repeat' first
      | refine awp_seq ?_
      | refine awp_block ?_
      | refine awp_skip ?_
      | (refine reg _ (by (simp only [List.map_cons, List.map_nil]; rfl)) rfl ?_; intro K hK)
      | (refine awp_cond _ (by rfl) ?_ ?_ <;> (intro hb; first | (cases hb; done) | (have ht : true = true := hb; clear ht hb) | (have ht : false = false := hb; clear ht hb) | (simp only [hb]) | skip))
      | (refine awp_exit ?_; simp only [thenA, blockA, reduceIte, RetQ, Nat.reduceEqDiff])
      | (refine awp_ret ?_; simp only [thenA, blockA, RetQ])
      | (refine ev_nil (hK _ ?_); clear hK K)
      | refine ev_guardU _ (by (simp only [go_sem]; rfl)) (by (simp only [go_sem]; rfl)) _ (by (simp only [go_sem]; rfl)) ?_
      | (refine ev_guardT _ _ (by (simp only [go_sem]; rfl)) (by (simp only [go_sem]; rfl)) ?_ ?_ <;> (intro hb; first | (cases hb; done) | (have ht : true = true := hb; clear ht hb) | (have ht : false = false := hb; clear ht hb) | (simp only [hb]) | skip))
      | (refine ev_guardF _ _ (by (simp only [go_sem]; rfl)) (by (simp only [go_sem]; rfl)) ?_ ?_ <;> (intro hb; first | (cases hb; done) | (have ht : true = true := hb; clear ht hb) | (have ht : false = false := hb; clear ht hb) | (simp only [hb]) | skip))
      | refine ev_call0 _ _ (by (simp only [go_sem]; rfl)) (by first | exact f9_spec .. | exact f10 ..) (by (simp only [go_sem])) _ (by (simp only [go_sem]; rfl)) ?_
      | refine ev_callC _ _ _ _ (by (simp only [go_sem]; rfl)) (by (simp only [go_sem]; rfl)) (by first | exact f9_spec .. | exact f10 ..) (by (simp only [go_sem])) _ (by (simp only [go_sem]; rfl)) ?_
      | refine ev_step0 _ _ (by (simp only [go_sem]; rfl)) (by (first | trivial | decide | (simp only [inB, sliceOk, appendOk, rowsOk]; omega) | (simp [inB, sliceOk, appendOk, rowsOk]; omega))) _ (by (simp only [go_sem]; rfl)) ?_
      | (refine ev_step _ (by (simp only [go_sem]; rfl)) (by (first | trivial | decide | (simp only [inB, sliceOk, appendOk, rowsOk]; omega) | (simp [inB, sliceOk, appendOk, rowsOk]; omega))) _ (fun g u => by (simp only [go_sem]; rfl)) ?_; intro g u; (try clear u); (try clear g))
      | fail
    all_goals (refine resR_one T_ok rfl _ (by (simp only [go_sem, resA]; rfl)) (by first | trivial | (simp only [go_sem, resA])) (by first | trivial | (simp only [go_sem])) ?_; simp only [go_sem])
    exact LeA.refl _
  | true =>
  rw [r0] at f10
  simp only [smallO, Bool.and_eq_true, decide_eq_true_eq] at r0
  obtain ⟨hl1, hl2⟩ := hdrL_ok hh
  have f12 := f12_spec h hh
  have f11 := f11_spec (hdrL h) b hb (by omega) fun c hc => ⟨(hl2 c hc).1, (hl2 c hc).2.2.1⟩
  obtain ⟨hm1, hm2⟩ := made_ok (b := b) hh
  generalize madeL (hdrL h) b = m at *
  have f13 := f13_spec m (by omega)
  have f15 := f15_spec m (by omega)
  rw [← fold_same] at f15
  have f31 := f31_spec ta tb sa sb (by omega)
  have f32 := f32_spec ta sa tb sb (by omega)
  have hj : repOk ta sa = true → repOk tb sb = true → joinT ta sa tb sb = joinR ta sa tb sb := fun h1 h2 => by
    simp only [repOk, Bool.and_eq_true] at h1 h2
    exact join_same ((sorted0_iff _).1 h1.1.1).2 ((sorted0_iff _).1 h2.1.1).2 _ _
  cases r1 : sortedN (-1, 0) tags with
  | false =>
    refine spec_of_awp (fn := Try.f3) Try.func3 (by kernel_rfl) rfl ?_
    intro w0 C0
    simp only [Try.ntmps3, litI, litB, litS, List.length_cons, List.length_nil, Nat.reduceAdd, Nat.reduceSub, List.replicate_succ, List.replicate_zero, List.cons_append, List.nil_append]
    repeat' first
      | refine awp_seq ?_
      | refine awp_block ?_
      | refine awp_skip ?_
      | (refine reg _ (by (simp only [List.map_cons, List.map_nil]; rfl)) rfl ?_; intro K hK)
      | (refine awp_cond _ (by rfl) ?_ ?_ <;> (intro hb; first | (cases hb; done) | (have ht : true = true := hb; clear ht hb) | (have ht : false = false := hb; clear ht hb) | (simp only [hb]) | skip))
      | (refine awp_exit ?_; simp only [thenA, blockA, reduceIte, RetQ, Nat.reduceEqDiff])
      | (refine awp_ret ?_; simp only [thenA, blockA, RetQ])
      | (refine ev_nil (hK _ ?_); clear hK K)
      | refine ev_guardU _ (by (simp only [go_sem, r1, decide_true, bne_self_eq_false, Bool.and_false, Bool.false_and, Bool.and_self, Int.reduceToNat]; rfl)) (by (simp only [go_sem, r1, decide_true, bne_self_eq_false, Bool.and_false, Bool.false_and, Bool.and_self, Int.reduceToNat]; rfl)) _ (by (simp only [go_sem, r1, decide_true, bne_self_eq_false, Bool.and_false, Bool.false_and, Bool.and_self, Int.reduceToNat]; rfl)) ?_
      | (refine ev_guardT _ _ (by (simp only [go_sem, r1, decide_true, bne_self_eq_false, Bool.and_false, Bool.false_and, Bool.and_self, Int.reduceToNat]; rfl)) (by (simp only [go_sem, r1, decide_true, bne_self_eq_false, Bool.and_false, Bool.false_and, Bool.and_self, Int.reduceToNat]; rfl)) ?_ ?_ <;> (intro hb; first | (cases hb; done) | (have ht : true = true := hb; clear ht hb) | (have ht : false = false := hb; clear ht hb) | (simp only [hb]) | skip))
      | (refine ev_guardF _ _ (by (simp only [go_sem, r1, decide_true, bne_self_eq_false, Bool.and_false, Bool.false_and, Bool.and_self, Int.reduceToNat]; rfl)) (by (simp only [go_sem, r1, decide_true, bne_self_eq_false, Bool.and_false, Bool.false_and, Bool.and_self, Int.reduceToNat]; rfl)) ?_ ?_ <;> (intro hb; first | (cases hb; done) | (have ht : true = true := hb; clear ht hb) | (have ht : false = false := hb; clear ht hb) | (simp only [hb]) | skip))
      | refine ev_call0 _ _ (by (simp only [go_sem, r1, decide_true, bne_self_eq_false, Bool.and_false, Bool.false_and, Bool.and_self, Int.reduceToNat]; rfl)) (by first | exact f9_spec .. | exact f10 .. | exact f12 .. | exact f11 .. | exact f13 .. | exact f15 .. | exact f14_spec .. | exact f16_spec .. | exact f17_spec .. | exact f18_spec .. | exact f19_spec .. | exact f20_spec .. | exact f21_spec .. | exact f22_spec .. | exact f23_spec .. | exact f31 .. | exact f32 .. | exact f30_spec ..) (by (simp only [go_sem, r1, decide_true, bne_self_eq_false, Bool.and_false, Bool.false_and, Bool.and_self, Int.reduceToNat])) _ (by (simp only [go_sem, r1, decide_true, bne_self_eq_false, Bool.and_false, Bool.false_and, Bool.and_self, Int.reduceToNat]; rfl)) ?_
      | refine ev_callC _ _ _ _ (by (simp only [go_sem, r1, decide_true, bne_self_eq_false, Bool.and_false, Bool.false_and, Bool.and_self, Int.reduceToNat]; rfl)) (by (simp only [go_sem, r1, decide_true, bne_self_eq_false, Bool.and_false, Bool.false_and, Bool.and_self, Int.reduceToNat]; rfl)) (by first | exact f9_spec .. | exact f10 .. | exact f12 .. | exact f11 .. | exact f13 .. | exact f15 .. | exact f14_spec .. | exact f16_spec .. | exact f17_spec .. | exact f18_spec .. | exact f19_spec .. | exact f20_spec .. | exact f21_spec .. | exact f22_spec .. | exact f23_spec .. | exact f31 .. | exact f32 .. | exact f30_spec ..) (by (simp only [go_sem, r1, decide_true, bne_self_eq_false, Bool.and_false, Bool.false_and, Bool.and_self, Int.reduceToNat])) _ (by (simp only [go_sem, r1, decide_true, bne_self_eq_false, Bool.and_false, Bool.false_and, Bool.and_self, Int.reduceToNat]; rfl)) ?_
      | (apply regD; (case hd => (simp only [List.map_cons, List.map_nil]; rfl)); (case hok => rfl); (case' h => (intro K hK; (repeat' first
        | (apply evd_nil; refine (hK _ ?_); clear hK K)
        | (apply evd_guardU0; (case hj => (simp only [go_sem, r1, decide_true, bne_self_eq_false, Bool.and_false, Bool.false_and, Bool.and_self, Int.reduceToNat]; try rfl)); (case hu => (simp only [go_sem, r1, decide_true, bne_self_eq_false, Bool.and_false, Bool.false_and, Bool.and_self, Int.reduceToNat])); (case hσ => (simp only [go_sem, r1, decide_true, bne_self_eq_false, Bool.and_false, Bool.false_and, Bool.and_self, Int.reduceToNat]; try rfl)))
        | (apply evd_skipT0; (case hj => (simp only [go_sem, r1, decide_true, bne_self_eq_false, Bool.and_false, Bool.false_and, Bool.and_self, Int.reduceToNat]; try rfl)); (case hb => (simp only [go_sem, r1, decide_true, bne_self_eq_false, Bool.and_false, Bool.false_and, Bool.and_self, Int.reduceToNat]; try rfl)); (case hσ => (simp only [go_sem, r1, decide_true, bne_self_eq_false, Bool.and_false, Bool.false_and, Bool.and_self, Int.reduceToNat]; try rfl)))
        | (apply evd_skipF0; (case hj => (simp only [go_sem, r1, decide_true, bne_self_eq_false, Bool.and_false, Bool.false_and, Bool.and_self, Int.reduceToNat]; try rfl)); (case hb => (simp only [go_sem, r1, decide_true, bne_self_eq_false, Bool.and_false, Bool.false_and, Bool.and_self, Int.reduceToNat]; try rfl)); (case hσ => (simp only [go_sem, r1, decide_true, bne_self_eq_false, Bool.and_false, Bool.false_and, Bool.and_self, Int.reduceToNat]; try rfl)))
        | (apply evd_guardU; (case hj => (simp only [go_sem, r1, decide_true, bne_self_eq_false, Bool.and_false, Bool.false_and, Bool.and_self, Int.reduceToNat]; try rfl)); (case hu => (simp only [go_sem, r1, decide_true, bne_self_eq_false, Bool.and_false, Bool.false_and, Bool.and_self, Int.reduceToNat])); (case hσ => (simp only [go_sem, r1, decide_true, bne_self_eq_false, Bool.and_false, Bool.false_and, Bool.and_self, Int.reduceToNat]; try rfl)))
        | (apply evd_skipT; (case hj => (simp only [go_sem, r1, decide_true, bne_self_eq_false, Bool.and_false, Bool.false_and, Bool.and_self, Int.reduceToNat]; try rfl)); (case hb => (simp only [go_sem, r1, decide_true, bne_self_eq_false, Bool.and_false, Bool.false_and, Bool.and_self, Int.reduceToNat]; try rfl)); (case hσ => (simp only [go_sem, r1, decide_true, bne_self_eq_false, Bool.and_false, Bool.false_and, Bool.and_self, Int.reduceToNat]; try rfl)))
        | (apply evd_skipF; (case hj => (simp only [go_sem, r1, decide_true, bne_self_eq_false, Bool.and_false, Bool.false_and, Bool.and_self, Int.reduceToNat]; try rfl)); (case hb => (simp only [go_sem, r1, decide_true, bne_self_eq_false, Bool.and_false, Bool.false_and, Bool.and_self, Int.reduceToNat]; try rfl)); (case hσ => (simp only [go_sem, r1, decide_true, bne_self_eq_false, Bool.and_false, Bool.false_and, Bool.and_self, Int.reduceToNat]; try rfl)))
        | (apply evd_guardT; (case hj => (simp only [go_sem, r1, decide_true, bne_self_eq_false, Bool.and_false, Bool.false_and, Bool.and_self, Int.reduceToNat]; try rfl)); (case hb => (simp only [go_sem, r1, decide_true, bne_self_eq_false, Bool.and_false, Bool.false_and, Bool.and_self, Int.reduceToNat]; try rfl)); (case' h2 => (intro hb; first | (cases hb; done) | (simp only [hb]) | skip)); (case' h1 => (intro hb; first | (cases hb; done) | (simp only [hb]) | skip)))
        | (apply evd_guardF; (case hj => (simp only [go_sem, r1, decide_true, bne_self_eq_false, Bool.and_false, Bool.false_and, Bool.and_self, Int.reduceToNat]; try rfl)); (case hb => (simp only [go_sem, r1, decide_true, bne_self_eq_false, Bool.and_false, Bool.false_and, Bool.and_self, Int.reduceToNat]; try rfl)); (case' h2 => (intro hb; first | (cases hb; done) | (simp only [hb]) | skip)); (case' h1 => (intro hb; first | (cases hb; done) | (simp only [hb]) | skip)))
        | (apply evd_call0; (case hi => (simp only [go_sem, r1, decide_true, bne_self_eq_false, Bool.and_false, Bool.false_and, Bool.and_self, Int.reduceToNat]; try rfl)); (case hys => (simp only [go_sem, r1, decide_true, bne_self_eq_false, Bool.and_false, Bool.false_and, Bool.and_self, Int.reduceToNat]; try rfl)); (case hs => first | exact f9_spec .. | exact f10 .. | exact f12 .. | exact f11 .. | exact f13 .. | exact f15 .. | exact f14_spec .. | exact f16_spec .. | exact f17_spec .. | exact f18_spec .. | exact f19_spec .. | exact f20_spec .. | exact f21_spec .. | exact f22_spec .. | exact f23_spec .. | exact f31 .. | exact f32 .. | exact f30_spec ..); (case hok => (simp only [go_sem, r1, decide_true, bne_self_eq_false, Bool.and_false, Bool.false_and, Bool.and_self, Int.reduceToNat])); (case hw => (simp only [go_sem, r1, decide_true, bne_self_eq_false, Bool.and_false, Bool.false_and, Bool.and_self, Int.reduceToNat]; try rfl)); (case hσ => (simp only [go_sem, r1, decide_true, bne_self_eq_false, Bool.and_false, Bool.false_and, Bool.and_self, Int.reduceToNat]; try rfl)))
        | (apply evd_callC; (case hf => (simp only [go_sem, r1, decide_true, bne_self_eq_false, Bool.and_false, Bool.false_and, Bool.and_self, Int.reduceToNat]; try rfl)); (case hi => (simp only [go_sem, r1, decide_true, bne_self_eq_false, Bool.and_false, Bool.false_and, Bool.and_self, Int.reduceToNat]; try rfl)); (case hys => (simp only [go_sem, r1, decide_true, bne_self_eq_false, Bool.and_false, Bool.false_and, Bool.and_self, Int.reduceToNat]; try rfl)); (case hs => first | exact f9_spec .. | exact f10 .. | exact f12 .. | exact f11 .. | exact f13 .. | exact f15 .. | exact f14_spec .. | exact f16_spec .. | exact f17_spec .. | exact f18_spec .. | exact f19_spec .. | exact f20_spec .. | exact f21_spec .. | exact f22_spec .. | exact f23_spec .. | exact f31 .. | exact f32 .. | exact f30_spec ..); (case hok => (simp only [go_sem, r1, decide_true, bne_self_eq_false, Bool.and_false, Bool.false_and, Bool.and_self, Int.reduceToNat])); (case hw => (simp only [go_sem, r1, decide_true, bne_self_eq_false, Bool.and_false, Bool.false_and, Bool.and_self, Int.reduceToNat]; try rfl)); (case hσ => (simp only [go_sem, r1, decide_true, bne_self_eq_false, Bool.and_false, Bool.false_and, Bool.and_self, Int.reduceToNat]; try rfl)))
        | (apply evd_step0; (case hr => (simp only [go_sem, r1, decide_true, bne_self_eq_false, Bool.and_false, Bool.false_and, Bool.and_self, Int.reduceToNat]; try rfl)); (case hi => (simp only [go_sem, r1, decide_true, bne_self_eq_false, Bool.and_false, Bool.false_and, Bool.and_self, Int.reduceToNat]; try rfl)); (case hc => (first | trivial | decide | (simp only [inB, sliceOk, appendOk, rowsOk]; omega) | (simp [inB, sliceOk, appendOk, rowsOk]; omega))); (case hσ => (simp only [go_sem, r1, decide_true, bne_self_eq_false, Bool.and_false, Bool.false_and, Bool.and_self, Int.reduceToNat]; try rfl)))
        | (apply evd_step; (case hr => (simp only [go_sem, r1, decide_true, bne_self_eq_false, Bool.and_false, Bool.false_and, Bool.and_self, Int.reduceToNat]; try rfl)); (case hi => (simp only [go_sem, r1, decide_true, bne_self_eq_false, Bool.and_false, Bool.false_and, Bool.and_self, Int.reduceToNat]; try rfl)); (case hc => (first | trivial | decide | (simp only [inB, sliceOk, appendOk, rowsOk]; omega) | (simp [inB, sliceOk, appendOk, rowsOk]; omega))); (case hw => (intro g u; simp only [go_sem, r1, decide_true, bne_self_eq_false, Bool.and_false, Bool.false_and, Bool.and_self, Int.reduceToNat]; try rfl)); (case hσ => (intro g u; simp only [go_sem, r1, decide_true, bne_self_eq_false, Bool.and_false, Bool.false_and, Bool.and_self, Int.reduceToNat]; try rfl)); (case' hk => (intro g u; (try clear u); (try clear g))))
        | fail))); (case hB => kernel_rfl))
      | refine ev_step0 _ _ (by (simp only [go_sem, r1, decide_true, bne_self_eq_false, Bool.and_false, Bool.false_and, Bool.and_self, Int.reduceToNat]; rfl)) (by (first | trivial | decide | (simp only [inB, sliceOk, appendOk, rowsOk]; omega) | (simp [inB, sliceOk, appendOk, rowsOk]; omega))) _ (by (simp only [go_sem, r1, decide_true, bne_self_eq_false, Bool.and_false, Bool.false_and, Bool.and_self, Int.reduceToNat]; rfl)) ?_
      | (refine ev_step _ (by (simp only [go_sem, r1, decide_true, bne_self_eq_false, Bool.and_false, Bool.false_and, Bool.and_self, Int.reduceToNat]; rfl)) (by (first | trivial | decide | (simp only [inB, sliceOk, appendOk, rowsOk]; omega) | (simp [inB, sliceOk, appendOk, rowsOk]; omega))) _ (fun g u => by (simp only [go_sem, r1, decide_true, bne_self_eq_false, Bool.and_false, Bool.false_and, Bool.and_self, Int.reduceToNat]; rfl)) ?_; intro g u; (try clear u); (try clear g))
      | fail
    all_goals (refine resR_one T_ok rfl _ (by (simp only [go_sem, resA]; rfl)) (by first | trivial | (simp only [go_sem, resA])) (by first | trivial | (simp only [go_sem])) ?_; simp only [go_sem])
    all_goals first
      | exact LeA.refl _
      | (exfalso; simp_all)
  | true =>
  have ps := ((sorted0_iff _).1 r1).2
  cases r2 : chgOk n past with
  | false =>
    refine spec_of_awp (fn := Try.f3) Try.func3 (by kernel_rfl) rfl ?_
    intro w0 C0
    simp only [Try.ntmps3, litI, litB, litS, List.length_cons, List.length_nil, Nat.reduceAdd, Nat.reduceSub, List.replicate_succ, List.replicate_zero, List.cons_append, List.nil_append]
    repeat' first
      | refine awp_seq ?_
      | refine awp_block ?_
      | refine awp_skip ?_
      | (refine reg _ (by (simp only [List.map_cons, List.map_nil]; rfl)) rfl ?_; intro K hK)
      | (refine awp_cond _ (by rfl) ?_ ?_ <;> (intro hb; first | (cases hb; done) | (have ht : true = true := hb; clear ht hb) | (have ht : false = false := hb; clear ht hb) | (simp only [hb]) | skip))
      | (refine awp_exit ?_; simp only [thenA, blockA, reduceIte, RetQ, Nat.reduceEqDiff])
      | (refine awp_ret ?_; simp only [thenA, blockA, RetQ])
      | (refine ev_nil (hK _ ?_); clear hK K)
      | refine ev_guardU _ (by (simp only [go_sem, r1, r2, decide_true, bne_self_eq_false, Bool.and_false, Bool.false_and, Bool.and_self, Int.reduceToNat]; rfl)) (by (simp only [go_sem, r1, r2, decide_true, bne_self_eq_false, Bool.and_false, Bool.false_and, Bool.and_self, Int.reduceToNat]; rfl)) _ (by (simp only [go_sem, r1, r2, decide_true, bne_self_eq_false, Bool.and_false, Bool.false_and, Bool.and_self, Int.reduceToNat]; rfl)) ?_
      | (refine ev_guardT _ _ (by (simp only [go_sem, r1, r2, decide_true, bne_self_eq_false, Bool.and_false, Bool.false_and, Bool.and_self, Int.reduceToNat]; rfl)) (by (simp only [go_sem, r1, r2, decide_true, bne_self_eq_false, Bool.and_false, Bool.false_and, Bool.and_self, Int.reduceToNat]; rfl)) ?_ ?_ <;> (intro hb; first | (cases hb; done) | (have ht : true = true := hb; clear ht hb) | (have ht : false = false := hb; clear ht hb) | (simp only [hb]) | skip))
      | (refine ev_guardF _ _ (by (simp only [go_sem, r1, r2, decide_true, bne_self_eq_false, Bool.and_false, Bool.false_and, Bool.and_self, Int.reduceToNat]; rfl)) (by (simp only [go_sem, r1, r2, decide_true, bne_self_eq_false, Bool.and_false, Bool.false_and, Bool.and_self, Int.reduceToNat]; rfl)) ?_ ?_ <;> (intro hb; first | (cases hb; done) | (have ht : true = true := hb; clear ht hb) | (have ht : false = false := hb; clear ht hb) | (simp only [hb]) | skip))
      | refine ev_call0 _ _ (by (simp only [go_sem, r1, r2, decide_true, bne_self_eq_false, Bool.and_false, Bool.false_and, Bool.and_self, Int.reduceToNat]; rfl)) (by first | exact f9_spec .. | exact f10 .. | exact f12 .. | exact f11 .. | exact f13 .. | exact f15 .. | exact f14_spec .. | exact f16_spec .. | exact f17_spec .. | exact f18_spec .. | exact f19_spec .. | exact f20_spec .. | exact f21_spec .. | exact f22_spec .. | exact f23_spec .. | exact f31 .. | exact f32 .. | exact f30_spec ..) (by (simp only [go_sem, r1, r2, decide_true, bne_self_eq_false, Bool.and_false, Bool.false_and, Bool.and_self, Int.reduceToNat])) _ (by (simp only [go_sem, r1, r2, decide_true, bne_self_eq_false, Bool.and_false, Bool.false_and, Bool.and_self, Int.reduceToNat]; rfl)) ?_
      | refine ev_callC _ _ _ _ (by (simp only [go_sem, r1, r2, decide_true, bne_self_eq_false, Bool.and_false, Bool.false_and, Bool.and_self, Int.reduceToNat]; rfl)) (by (simp only [go_sem, r1, r2, decide_true, bne_self_eq_false, Bool.and_false, Bool.false_and, Bool.and_self, Int.reduceToNat]; rfl)) (by first | exact f9_spec .. | exact f10 .. | exact f12 .. | exact f11 .. | exact f13 .. | exact f15 .. | exact f14_spec .. | exact f16_spec .. | exact f17_spec .. | exact f18_spec .. | exact f19_spec .. | exact f20_spec .. | exact f21_spec .. | exact f22_spec .. | exact f23_spec .. | exact f31 .. | exact f32 .. | exact f30_spec ..) (by (simp only [go_sem, r1, r2, decide_true, bne_self_eq_false, Bool.and_false, Bool.false_and, Bool.and_self, Int.reduceToNat])) _ (by (simp only [go_sem, r1, r2, decide_true, bne_self_eq_false, Bool.and_false, Bool.false_and, Bool.and_self, Int.reduceToNat]; rfl)) ?_
      | (apply regD; (case hd => (simp only [List.map_cons, List.map_nil]; rfl)); (case hok => rfl); (case' h => (intro K hK; (repeat' first
        | (apply evd_nil; refine (hK _ ?_); clear hK K)
        | (apply evd_guardU0; (case hj => (simp only [go_sem, r1, r2, decide_true, bne_self_eq_false, Bool.and_false, Bool.false_and, Bool.and_self, Int.reduceToNat]; try rfl)); (case hu => (simp only [go_sem, r1, r2, decide_true, bne_self_eq_false, Bool.and_false, Bool.false_and, Bool.and_self, Int.reduceToNat])); (case hσ => (simp only [go_sem, r1, r2, decide_true, bne_self_eq_false, Bool.and_false, Bool.false_and, Bool.and_self, Int.reduceToNat]; try rfl)))
        | (apply evd_skipT0; (case hj => (simp only [go_sem, r1, r2, decide_true, bne_self_eq_false, Bool.and_false, Bool.false_and, Bool.and_self, Int.reduceToNat]; try rfl)); (case hb => (simp only [go_sem, r1, r2, decide_true, bne_self_eq_false, Bool.and_false, Bool.false_and, Bool.and_self, Int.reduceToNat]; try rfl)); (case hσ => (simp only [go_sem, r1, r2, decide_true, bne_self_eq_false, Bool.and_false, Bool.false_and, Bool.and_self, Int.reduceToNat]; try rfl)))
        | (apply evd_skipF0; (case hj => (simp only [go_sem, r1, r2, decide_true, bne_self_eq_false, Bool.and_false, Bool.false_and, Bool.and_self, Int.reduceToNat]; try rfl)); (case hb => (simp only [go_sem, r1, r2, decide_true, bne_self_eq_false, Bool.and_false, Bool.false_and, Bool.and_self, Int.reduceToNat]; try rfl)); (case hσ => (simp only [go_sem, r1, r2, decide_true, bne_self_eq_false, Bool.and_false, Bool.false_and, Bool.and_self, Int.reduceToNat]; try rfl)))
        | (apply evd_guardU; (case hj => (simp only [go_sem, r1, r2, decide_true, bne_self_eq_false, Bool.and_false, Bool.false_and, Bool.and_self, Int.reduceToNat]; try rfl)); (case hu => (simp only [go_sem, r1, r2, decide_true, bne_self_eq_false, Bool.and_false, Bool.false_and, Bool.and_self, Int.reduceToNat])); (case hσ => (simp only [go_sem, r1, r2, decide_true, bne_self_eq_false, Bool.and_false, Bool.false_and, Bool.and_self, Int.reduceToNat]; try rfl)))
        | (apply evd_skipT; (case hj => (simp only [go_sem, r1, r2, decide_true, bne_self_eq_false, Bool.and_false, Bool.false_and, Bool.and_self, Int.reduceToNat]; try rfl)); (case hb => (simp only [go_sem, r1, r2, decide_true, bne_self_eq_false, Bool.and_false, Bool.false_and, Bool.and_self, Int.reduceToNat]; try rfl)); (case hσ => (simp only [go_sem, r1, r2, decide_true, bne_self_eq_false, Bool.and_false, Bool.false_and, Bool.and_self, Int.reduceToNat]; try rfl)))
        | (apply evd_skipF; (case hj => (simp only [go_sem, r1, r2, decide_true, bne_self_eq_false, Bool.and_false, Bool.false_and, Bool.and_self, Int.reduceToNat]; try rfl)); (case hb => (simp only [go_sem, r1, r2, decide_true, bne_self_eq_false, Bool.and_false, Bool.false_and, Bool.and_self, Int.reduceToNat]; try rfl)); (case hσ => (simp only [go_sem, r1, r2, decide_true, bne_self_eq_false, Bool.and_false, Bool.false_and, Bool.and_self, Int.reduceToNat]; try rfl)))
        | (apply evd_guardT; (case hj => (simp only [go_sem, r1, r2, decide_true, bne_self_eq_false, Bool.and_false, Bool.false_and, Bool.and_self, Int.reduceToNat]; try rfl)); (case hb => (simp only [go_sem, r1, r2, decide_true, bne_self_eq_false, Bool.and_false, Bool.false_and, Bool.and_self, Int.reduceToNat]; try rfl)); (case' h2 => (intro hb; first | (cases hb; done) | (simp only [hb]) | skip)); (case' h1 => (intro hb; first | (cases hb; done) | (simp only [hb]) | skip)))
        | (apply evd_guardF; (case hj => (simp only [go_sem, r1, r2, decide_true, bne_self_eq_false, Bool.and_false, Bool.false_and, Bool.and_self, Int.reduceToNat]; try rfl)); (case hb => (simp only [go_sem, r1, r2, decide_true, bne_self_eq_false, Bool.and_false, Bool.false_and, Bool.and_self, Int.reduceToNat]; try rfl)); (case' h2 => (intro hb; first | (cases hb; done) | (simp only [hb]) | skip)); (case' h1 => (intro hb; first | (cases hb; done) | (simp only [hb]) | skip)))
        | (apply evd_call0; (case hi => (simp only [go_sem, r1, r2, decide_true, bne_self_eq_false, Bool.and_false, Bool.false_and, Bool.and_self, Int.reduceToNat]; try rfl)); (case hys => (simp only [go_sem, r1, r2, decide_true, bne_self_eq_false, Bool.and_false, Bool.false_and, Bool.and_self, Int.reduceToNat]; try rfl)); (case hs => first | exact f9_spec .. | exact f10 .. | exact f12 .. | exact f11 .. | exact f13 .. | exact f15 .. | exact f14_spec .. | exact f16_spec .. | exact f17_spec .. | exact f18_spec .. | exact f19_spec .. | exact f20_spec .. | exact f21_spec .. | exact f22_spec .. | exact f23_spec .. | exact f31 .. | exact f32 .. | exact f30_spec ..); (case hok => (simp only [go_sem, r1, r2, decide_true, bne_self_eq_false, Bool.and_false, Bool.false_and, Bool.and_self, Int.reduceToNat])); (case hw => (simp only [go_sem, r1, r2, decide_true, bne_self_eq_false, Bool.and_false, Bool.false_and, Bool.and_self, Int.reduceToNat]; try rfl)); (case hσ => (simp only [go_sem, r1, r2, decide_true, bne_self_eq_false, Bool.and_false, Bool.false_and, Bool.and_self, Int.reduceToNat]; try rfl)))
        | (apply evd_callC; (case hf => (simp only [go_sem, r1, r2, decide_true, bne_self_eq_false, Bool.and_false, Bool.false_and, Bool.and_self, Int.reduceToNat]; try rfl)); (case hi => (simp only [go_sem, r1, r2, decide_true, bne_self_eq_false, Bool.and_false, Bool.false_and, Bool.and_self, Int.reduceToNat]; try rfl)); (case hys => (simp only [go_sem, r1, r2, decide_true, bne_self_eq_false, Bool.and_false, Bool.false_and, Bool.and_self, Int.reduceToNat]; try rfl)); (case hs => first | exact f9_spec .. | exact f10 .. | exact f12 .. | exact f11 .. | exact f13 .. | exact f15 .. | exact f14_spec .. | exact f16_spec .. | exact f17_spec .. | exact f18_spec .. | exact f19_spec .. | exact f20_spec .. | exact f21_spec .. | exact f22_spec .. | exact f23_spec .. | exact f31 .. | exact f32 .. | exact f30_spec ..); (case hok => (simp only [go_sem, r1, r2, decide_true, bne_self_eq_false, Bool.and_false, Bool.false_and, Bool.and_self, Int.reduceToNat])); (case hw => (simp only [go_sem, r1, r2, decide_true, bne_self_eq_false, Bool.and_false, Bool.false_and, Bool.and_self, Int.reduceToNat]; try rfl)); (case hσ => (simp only [go_sem, r1, r2, decide_true, bne_self_eq_false, Bool.and_false, Bool.false_and, Bool.and_self, Int.reduceToNat]; try rfl)))
        | (apply evd_step0; (case hr => (simp only [go_sem, r1, r2, decide_true, bne_self_eq_false, Bool.and_false, Bool.false_and, Bool.and_self, Int.reduceToNat]; try rfl)); (case hi => (simp only [go_sem, r1, r2, decide_true, bne_self_eq_false, Bool.and_false, Bool.false_and, Bool.and_self, Int.reduceToNat]; try rfl)); (case hc => (first | trivial | decide | (simp only [inB, sliceOk, appendOk, rowsOk]; omega) | (simp [inB, sliceOk, appendOk, rowsOk]; omega))); (case hσ => (simp only [go_sem, r1, r2, decide_true, bne_self_eq_false, Bool.and_false, Bool.false_and, Bool.and_self, Int.reduceToNat]; try rfl)))
        | (apply evd_step; (case hr => (simp only [go_sem, r1, r2, decide_true, bne_self_eq_false, Bool.and_false, Bool.false_and, Bool.and_self, Int.reduceToNat]; try rfl)); (case hi => (simp only [go_sem, r1, r2, decide_true, bne_self_eq_false, Bool.and_false, Bool.false_and, Bool.and_self, Int.reduceToNat]; try rfl)); (case hc => (first | trivial | decide | (simp only [inB, sliceOk, appendOk, rowsOk]; omega) | (simp [inB, sliceOk, appendOk, rowsOk]; omega))); (case hw => (intro g u; simp only [go_sem, r1, r2, decide_true, bne_self_eq_false, Bool.and_false, Bool.false_and, Bool.and_self, Int.reduceToNat]; try rfl)); (case hσ => (intro g u; simp only [go_sem, r1, r2, decide_true, bne_self_eq_false, Bool.and_false, Bool.false_and, Bool.and_self, Int.reduceToNat]; try rfl)); (case' hk => (intro g u; (try clear u); (try clear g))))
        | fail))); (case hB => kernel_rfl))
      | refine ev_step0 _ _ (by (simp only [go_sem, r1, r2, decide_true, bne_self_eq_false, Bool.and_false, Bool.false_and, Bool.and_self, Int.reduceToNat]; rfl)) (by (first | trivial | decide | (simp only [inB, sliceOk, appendOk, rowsOk]; omega) | (simp [inB, sliceOk, appendOk, rowsOk]; omega))) _ (by (simp only [go_sem, r1, r2, decide_true, bne_self_eq_false, Bool.and_false, Bool.false_and, Bool.and_self, Int.reduceToNat]; rfl)) ?_
      | (refine ev_step _ (by (simp only [go_sem, r1, r2, decide_true, bne_self_eq_false, Bool.and_false, Bool.false_and, Bool.and_self, Int.reduceToNat]; rfl)) (by (first | trivial | decide | (simp only [inB, sliceOk, appendOk, rowsOk]; omega) | (simp [inB, sliceOk, appendOk, rowsOk]; omega))) _ (fun g u => by (simp only [go_sem, r1, r2, decide_true, bne_self_eq_false, Bool.and_false, Bool.false_and, Bool.and_self, Int.reduceToNat]; rfl)) ?_; intro g u; (try clear u); (try clear g))
      | fail
    all_goals (refine resR_one T_ok rfl _ (by (simp only [go_sem, resA]; rfl)) (by first | trivial | (simp only [go_sem, resA])) (by first | trivial | (simp only [go_sem])) ?_; simp only [go_sem])
    all_goals first
      | exact LeA.refl _
      | (exfalso; simp_all)
  | true =>
    have g24 : Spec Try.prog 24 [.d (nms tags), .agg (chg n past put)] (.d (nms (applyO tags (n, past, put)))) := f24_spec tags (n, past, put) (by omega)
    have g25 := f25_spec tags n past put (by omega)
    rw [show applyN tags n past put = applyO tags (n, past, put) from (apply_same ps (n, past, put)).symm] at g25
    have g26 := f26_spec tags n (by omega)
    have g27 := f27_spec tags n (by omega)
    rw [← add_same ps n] at g27
    have g28 := f28_spec tags past (by omega)
    have g29 := f29_spec tags past (by omega)
    generalize applyO tags (n, past, put) = q1 at *
    generalize uniL tags [n] = q2 at *
    generalize keepN past tags = q3 at *
    refine spec_of_awp (fn := Try.f3) Try.func3 (by kernel_rfl) rfl ?_
    intro w0 C0
    simp only [Try.ntmps3, litI, litB, litS, List.length_cons, List.length_nil, Nat.reduceAdd, Nat.reduceSub, List.replicate_succ, List.replicate_zero, List.cons_append, List.nil_append]
    repeat' first
      | refine awp_seq ?_
      | refine awp_block ?_
      | refine awp_skip ?_
      | (refine reg _ (by (simp only [List.map_cons, List.map_nil]; rfl)) rfl ?_; intro K hK)
      | (refine awp_cond _ (by rfl) ?_ ?_ <;> (intro hb; first | (cases hb; done) | (have ht : true = true := hb; clear ht hb) | (have ht : false = false := hb; clear ht hb) | (simp only [hb]) | skip))
      | (refine awp_exit ?_; simp only [thenA, blockA, reduceIte, RetQ, Nat.reduceEqDiff])
      | (refine awp_ret ?_; simp only [thenA, blockA, RetQ])
      | (refine ev_nil (hK _ ?_); clear hK K)
      | refine ev_guardU _ (by (simp only [go_sem, r1, r2, decide_true, bne_self_eq_false, Bool.and_false, Bool.false_and, Bool.and_self, Int.reduceToNat]; rfl)) (by (simp only [go_sem, r1, r2, decide_true, bne_self_eq_false, Bool.and_false, Bool.false_and, Bool.and_self, Int.reduceToNat]; rfl)) _ (by (simp only [go_sem, r1, r2, decide_true, bne_self_eq_false, Bool.and_false, Bool.false_and, Bool.and_self, Int.reduceToNat]; rfl)) ?_
      | (refine ev_guardT _ _ (by (simp only [go_sem, r1, r2, decide_true, bne_self_eq_false, Bool.and_false, Bool.false_and, Bool.and_self, Int.reduceToNat]; rfl)) (by (simp only [go_sem, r1, r2, decide_true, bne_self_eq_false, Bool.and_false, Bool.false_and, Bool.and_self, Int.reduceToNat]; rfl)) ?_ ?_ <;> (intro hb; first | (cases hb; done) | (have ht : true = true := hb; clear ht hb) | (have ht : false = false := hb; clear ht hb) | (simp only [hb]) | skip))
      | (refine ev_guardF _ _ (by (simp only [go_sem, r1, r2, decide_true, bne_self_eq_false, Bool.and_false, Bool.false_and, Bool.and_self, Int.reduceToNat]; rfl)) (by (simp only [go_sem, r1, r2, decide_true, bne_self_eq_false, Bool.and_false, Bool.false_and, Bool.and_self, Int.reduceToNat]; rfl)) ?_ ?_ <;> (intro hb; first | (cases hb; done) | (have ht : true = true := hb; clear ht hb) | (have ht : false = false := hb; clear ht hb) | (simp only [hb]) | skip))
      | refine ev_call0 _ _ (by (simp only [go_sem, r1, r2, decide_true, bne_self_eq_false, Bool.and_false, Bool.false_and, Bool.and_self, Int.reduceToNat]; rfl)) (by first | exact f9_spec .. | exact f10 .. | exact f12 .. | exact f11 .. | exact f13 .. | exact f15 .. | exact f14_spec .. | exact f16_spec .. | exact f17_spec .. | exact f18_spec .. | exact f19_spec .. | exact f20_spec .. | exact f21_spec .. | exact f22_spec .. | exact f23_spec .. | exact f31 .. | exact f32 .. | exact f30_spec .. | exact g24 .. | exact g25 .. | exact g26 .. | exact g27 .. | exact g28 .. | exact g29 ..) (by (simp only [go_sem, r1, r2, decide_true, bne_self_eq_false, Bool.and_false, Bool.false_and, Bool.and_self, Int.reduceToNat])) _ (by (simp only [go_sem, r1, r2, decide_true, bne_self_eq_false, Bool.and_false, Bool.false_and, Bool.and_self, Int.reduceToNat]; rfl)) ?_
      | refine ev_callC _ _ _ _ (by (simp only [go_sem, r1, r2, decide_true, bne_self_eq_false, Bool.and_false, Bool.false_and, Bool.and_self, Int.reduceToNat]; rfl)) (by (simp only [go_sem, r1, r2, decide_true, bne_self_eq_false, Bool.and_false, Bool.false_and, Bool.and_self, Int.reduceToNat]; rfl)) (by first | exact f9_spec .. | exact f10 .. | exact f12 .. | exact f11 .. | exact f13 .. | exact f15 .. | exact f14_spec .. | exact f16_spec .. | exact f17_spec .. | exact f18_spec .. | exact f19_spec .. | exact f20_spec .. | exact f21_spec .. | exact f22_spec .. | exact f23_spec .. | exact f31 .. | exact f32 .. | exact f30_spec .. | exact g24 .. | exact g25 .. | exact g26 .. | exact g27 .. | exact g28 .. | exact g29 ..) (by (simp only [go_sem, r1, r2, decide_true, bne_self_eq_false, Bool.and_false, Bool.false_and, Bool.and_self, Int.reduceToNat])) _ (by (simp only [go_sem, r1, r2, decide_true, bne_self_eq_false, Bool.and_false, Bool.false_and, Bool.and_self, Int.reduceToNat]; rfl)) ?_
      | (apply regD; (case hd => (simp only [List.map_cons, List.map_nil]; rfl)); (case hok => rfl); (case' h => (intro K hK; (repeat' first
        | (apply evd_nil; refine (hK _ ?_); clear hK K)
        | (apply evd_guardU0; (case hj => (simp only [go_sem, r1, r2, decide_true, bne_self_eq_false, Bool.and_false, Bool.false_and, Bool.and_self, Int.reduceToNat]; try rfl)); (case hu => (simp only [go_sem, r1, r2, decide_true, bne_self_eq_false, Bool.and_false, Bool.false_and, Bool.and_self, Int.reduceToNat])); (case hσ => (simp only [go_sem, r1, r2, decide_true, bne_self_eq_false, Bool.and_false, Bool.false_and, Bool.and_self, Int.reduceToNat]; try rfl)))
        | (apply evd_skipT0; (case hj => (simp only [go_sem, r1, r2, decide_true, bne_self_eq_false, Bool.and_false, Bool.false_and, Bool.and_self, Int.reduceToNat]; try rfl)); (case hb => (simp only [go_sem, r1, r2, decide_true, bne_self_eq_false, Bool.and_false, Bool.false_and, Bool.and_self, Int.reduceToNat]; try rfl)); (case hσ => (simp only [go_sem, r1, r2, decide_true, bne_self_eq_false, Bool.and_false, Bool.false_and, Bool.and_self, Int.reduceToNat]; try rfl)))
        | (apply evd_skipF0; (case hj => (simp only [go_sem, r1, r2, decide_true, bne_self_eq_false, Bool.and_false, Bool.false_and, Bool.and_self, Int.reduceToNat]; try rfl)); (case hb => (simp only [go_sem, r1, r2, decide_true, bne_self_eq_false, Bool.and_false, Bool.false_and, Bool.and_self, Int.reduceToNat]; try rfl)); (case hσ => (simp only [go_sem, r1, r2, decide_true, bne_self_eq_false, Bool.and_false, Bool.false_and, Bool.and_self, Int.reduceToNat]; try rfl)))
        | (apply evd_guardU; (case hj => (simp only [go_sem, r1, r2, decide_true, bne_self_eq_false, Bool.and_false, Bool.false_and, Bool.and_self, Int.reduceToNat]; try rfl)); (case hu => (simp only [go_sem, r1, r2, decide_true, bne_self_eq_false, Bool.and_false, Bool.false_and, Bool.and_self, Int.reduceToNat])); (case hσ => (simp only [go_sem, r1, r2, decide_true, bne_self_eq_false, Bool.and_false, Bool.false_and, Bool.and_self, Int.reduceToNat]; try rfl)))
        | (apply evd_skipT; (case hj => (simp only [go_sem, r1, r2, decide_true, bne_self_eq_false, Bool.and_false, Bool.false_and, Bool.and_self, Int.reduceToNat]; try rfl)); (case hb => (simp only [go_sem, r1, r2, decide_true, bne_self_eq_false, Bool.and_false, Bool.false_and, Bool.and_self, Int.reduceToNat]; try rfl)); (case hσ => (simp only [go_sem, r1, r2, decide_true, bne_self_eq_false, Bool.and_false, Bool.false_and, Bool.and_self, Int.reduceToNat]; try rfl)))
        | (apply evd_skipF; (case hj => (simp only [go_sem, r1, r2, decide_true, bne_self_eq_false, Bool.and_false, Bool.false_and, Bool.and_self, Int.reduceToNat]; try rfl)); (case hb => (simp only [go_sem, r1, r2, decide_true, bne_self_eq_false, Bool.and_false, Bool.false_and, Bool.and_self, Int.reduceToNat]; try rfl)); (case hσ => (simp only [go_sem, r1, r2, decide_true, bne_self_eq_false, Bool.and_false, Bool.false_and, Bool.and_self, Int.reduceToNat]; try rfl)))
        | (apply evd_guardT; (case hj => (simp only [go_sem, r1, r2, decide_true, bne_self_eq_false, Bool.and_false, Bool.false_and, Bool.and_self, Int.reduceToNat]; try rfl)); (case hb => (simp only [go_sem, r1, r2, decide_true, bne_self_eq_false, Bool.and_false, Bool.false_and, Bool.and_self, Int.reduceToNat]; try rfl)); (case' h2 => (intro hb; first | (cases hb; done) | (simp only [hb]) | skip)); (case' h1 => (intro hb; first | (cases hb; done) | (simp only [hb]) | skip)))
        | (apply evd_guardF; (case hj => (simp only [go_sem, r1, r2, decide_true, bne_self_eq_false, Bool.and_false, Bool.false_and, Bool.and_self, Int.reduceToNat]; try rfl)); (case hb => (simp only [go_sem, r1, r2, decide_true, bne_self_eq_false, Bool.and_false, Bool.false_and, Bool.and_self, Int.reduceToNat]; try rfl)); (case' h2 => (intro hb; first | (cases hb; done) | (simp only [hb]) | skip)); (case' h1 => (intro hb; first | (cases hb; done) | (simp only [hb]) | skip)))
        | (apply evd_call0; (case hi => (simp only [go_sem, r1, r2, decide_true, bne_self_eq_false, Bool.and_false, Bool.false_and, Bool.and_self, Int.reduceToNat]; try rfl)); (case hys => (simp only [go_sem, r1, r2, decide_true, bne_self_eq_false, Bool.and_false, Bool.false_and, Bool.and_self, Int.reduceToNat]; try rfl)); (case hs => first | exact f9_spec .. | exact f10 .. | exact f12 .. | exact f11 .. | exact f13 .. | exact f15 .. | exact f14_spec .. | exact f16_spec .. | exact f17_spec .. | exact f18_spec .. | exact f19_spec .. | exact f20_spec .. | exact f21_spec .. | exact f22_spec .. | exact f23_spec .. | exact f31 .. | exact f32 .. | exact f30_spec .. | exact g24 .. | exact g25 .. | exact g26 .. | exact g27 .. | exact g28 .. | exact g29 ..); (case hok => (simp only [go_sem, r1, r2, decide_true, bne_self_eq_false, Bool.and_false, Bool.false_and, Bool.and_self, Int.reduceToNat])); (case hw => (simp only [go_sem, r1, r2, decide_true, bne_self_eq_false, Bool.and_false, Bool.false_and, Bool.and_self, Int.reduceToNat]; try rfl)); (case hσ => (simp only [go_sem, r1, r2, decide_true, bne_self_eq_false, Bool.and_false, Bool.false_and, Bool.and_self, Int.reduceToNat]; try rfl)))
        | (apply evd_callC; (case hf => (simp only [go_sem, r1, r2, decide_true, bne_self_eq_false, Bool.and_false, Bool.false_and, Bool.and_self, Int.reduceToNat]; try rfl)); (case hi => (simp only [go_sem, r1, r2, decide_true, bne_self_eq_false, Bool.and_false, Bool.false_and, Bool.and_self, Int.reduceToNat]; try rfl)); (case hys => (simp only [go_sem, r1, r2, decide_true, bne_self_eq_false, Bool.and_false, Bool.false_and, Bool.and_self, Int.reduceToNat]; try rfl)); (case hs => first | exact f9_spec .. | exact f10 .. | exact f12 .. | exact f11 .. | exact f13 .. | exact f15 .. | exact f14_spec .. | exact f16_spec .. | exact f17_spec .. | exact f18_spec .. | exact f19_spec .. | exact f20_spec .. | exact f21_spec .. | exact f22_spec .. | exact f23_spec .. | exact f31 .. | exact f32 .. | exact f30_spec .. | exact g24 .. | exact g25 .. | exact g26 .. | exact g27 .. | exact g28 .. | exact g29 ..); (case hok => (simp only [go_sem, r1, r2, decide_true, bne_self_eq_false, Bool.and_false, Bool.false_and, Bool.and_self, Int.reduceToNat])); (case hw => (simp only [go_sem, r1, r2, decide_true, bne_self_eq_false, Bool.and_false, Bool.false_and, Bool.and_self, Int.reduceToNat]; try rfl)); (case hσ => (simp only [go_sem, r1, r2, decide_true, bne_self_eq_false, Bool.and_false, Bool.false_and, Bool.and_self, Int.reduceToNat]; try rfl)))
        | (apply evd_step0; (case hr => (simp only [go_sem, r1, r2, decide_true, bne_self_eq_false, Bool.and_false, Bool.false_and, Bool.and_self, Int.reduceToNat]; try rfl)); (case hi => (simp only [go_sem, r1, r2, decide_true, bne_self_eq_false, Bool.and_false, Bool.false_and, Bool.and_self, Int.reduceToNat]; try rfl)); (case hc => (first | trivial | decide | (simp only [inB, sliceOk, appendOk, rowsOk]; omega) | (simp [inB, sliceOk, appendOk, rowsOk]; omega))); (case hσ => (simp only [go_sem, r1, r2, decide_true, bne_self_eq_false, Bool.and_false, Bool.false_and, Bool.and_self, Int.reduceToNat]; try rfl)))
        | (apply evd_step; (case hr => (simp only [go_sem, r1, r2, decide_true, bne_self_eq_false, Bool.and_false, Bool.false_and, Bool.and_self, Int.reduceToNat]; try rfl)); (case hi => (simp only [go_sem, r1, r2, decide_true, bne_self_eq_false, Bool.and_false, Bool.false_and, Bool.and_self, Int.reduceToNat]; try rfl)); (case hc => (first | trivial | decide | (simp only [inB, sliceOk, appendOk, rowsOk]; omega) | (simp [inB, sliceOk, appendOk, rowsOk]; omega))); (case hw => (intro g u; simp only [go_sem, r1, r2, decide_true, bne_self_eq_false, Bool.and_false, Bool.false_and, Bool.and_self, Int.reduceToNat]; try rfl)); (case hσ => (intro g u; simp only [go_sem, r1, r2, decide_true, bne_self_eq_false, Bool.and_false, Bool.false_and, Bool.and_self, Int.reduceToNat]; try rfl)); (case' hk => (intro g u; (try clear u); (try clear g))))
        | fail))); (case hB => kernel_rfl))
      | refine ev_step0 _ _ (by (simp only [go_sem, r1, r2, decide_true, bne_self_eq_false, Bool.and_false, Bool.false_and, Bool.and_self, Int.reduceToNat]; rfl)) (by (first | trivial | decide | (simp only [inB, sliceOk, appendOk, rowsOk]; omega) | (simp [inB, sliceOk, appendOk, rowsOk]; omega))) _ (by (simp only [go_sem, r1, r2, decide_true, bne_self_eq_false, Bool.and_false, Bool.false_and, Bool.and_self, Int.reduceToNat]; rfl)) ?_
      | (refine ev_step _ (by (simp only [go_sem, r1, r2, decide_true, bne_self_eq_false, Bool.and_false, Bool.false_and, Bool.and_self, Int.reduceToNat]; rfl)) (by (first | trivial | decide | (simp only [inB, sliceOk, appendOk, rowsOk]; omega) | (simp [inB, sliceOk, appendOk, rowsOk]; omega))) _ (fun g u => by (simp only [go_sem, r1, r2, decide_true, bne_self_eq_false, Bool.and_false, Bool.false_and, Bool.and_self, Int.reduceToNat]; rfl)) ?_; intro g u; (try clear u); (try clear g))
      | fail
    all_goals (refine resR_one T_ok rfl _ (by (simp only [go_sem, resA]; rfl)) (by first | trivial | (simp only [go_sem, resA])) (by first | trivial | (simp only [go_sem])) ?_; simp only [go_sem])
    all_goals first
      | exact LeA.refl _
      | (exfalso; simp_all)
end Go.Proofs.Ytalbfikfbejnfaa.A
