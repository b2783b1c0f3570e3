/- Contains, Index; the join of cuts. Join of replicas. DeleteFunc over a row of one's own; Drop. Drop, Apply, Fold. Apply, Fold; the law's own words for them. Sorted names, additions, drops: plain law. Headers: the commits of a history. -/
import Derived.Test.YtalbfikfbejnfaaY2
import Derived.Test.YtalbfikfbejnfaaE4
namespace Go.Proofs.Ytalbfikfbejnfaa.A
attribute [local go_sem] Nat.reduceAdd Nat.reduceSub Nat.reduceMul Nat.reduceLT Nat.reduceLeDiff Nat.reduceEqDiff Nat.reduceBEq reduceIte reduceCtorEq e_step_none e_slotU e_slotB e_move e_assign e_pick e_unOp e_binOp e_alloc e_box e_build e_buildSlice e_load e_store e_fieldAddr e_field e_indexAddr e_index e_slice e_makeSlice e_makeFunc e_convert e_extract e_nilCheck e_len e_append e_max e_min e_call e_callV e_clo e_ev_tmp e_ev_int e_ev_bool e_ev_string e_ev_slice e_ev_nilFunc e_ev_nilIface e_ev_pointer e_ev_agg e_ev_func e_pickT e_pickF e_not e_neg e_add e_sub e_mul e_quo e_rem e_eql e_neq e_lss e_leq e_gtr e_geq e_beq e_bne e_sadd e_seql e_sneq e_b2_d e_b2_nil e_b2_nnil e_b2_agg e_lits_nil e_lits_cons e_litC e_eqR e_eqO_e e_eqO_n e_eqV4 e_eqV3 e_eqV2 e_eqV1 e_eqFs_nil e_eqFs_cons e_and2 e_eq1 e_eqL_i e_eqL_s e_eqL_b e_allocR e_boxR e_box_agg e_box_d e_box_own e_box_clo e_one_nil e_one_d e_one_own e_one_clo e_one_ptr e_cells_agg e_cells_d e_cells_own e_cells_clo e_cells_ptr e_ob_own e_ob_ptr e_ob_elo e_ob_d e_ob_el e_ob_agg e_load_box e_load_fzb e_load_el e_load_elo e_store_box e_storeB e_store_elo e_store_elo_agg e_storeE e_fa_ptr e_fa_el e_fa_elo e_faR e_fd e_fdR e_ia_d e_ia_row e_ia_fz e_ia_ptr e_ia_el e_ix_s e_ix_a e_len_s e_len_nil e_len_d e_len_row e_len_fz e_conv_i e_conv_s e_extr e_maxR e_minR e_nil_ptr e_nil_el e_nil_elo e_rows_nil e_rows_d e_rows_row e_rows_fz e_rok_nil e_rok_d e_rok_row e_rok_fz e_app_row e_appR e_app_nil e_appN e_make e_bnd_none e_bnd_some e_optmap_none e_optmap_some e_slR e_slRe e_sl_s e_sl_d e_sl_nil e_sl_row e_sl_fz e_fill_nil e_fill_cons e_fill1 e_placeS e_plS e_placeE e_buildO e_build1 e_build2 e_build3 e_bindD e_bs e_bsR e_allD_nil e_allD_cons e_allD1 e_chunk0 e_chunkS e_clP_nil e_clP_cons e_cl_d e_cl_any e_cl_el e_cl_agg e_cl_tup e_cl_clo e_cl_own e_clOwn_row e_clOwn_fz e_cl_ptr e_clPtr_box e_clBox e_clPtr_fzb e_clL_nil e_clL_cons e_ok_d e_ok_any e_ok_el e_ok_agg e_ok_tup e_ok_clo e_ok_own e_okOwn_row e_okOwn_fz e_ok_ptr e_okPtr_box e_okPtr_fzb e_okL_nil e_okL_cons e_ids_d e_ids_any e_ids_el e_ids_own e_ids_ptr e_ids_agg e_ids_tup e_ids_clo e_idsL_nil e_idsL_cons e_frz_nil e_frz_cons e_frz_row e_frz_fz e_frz_fzb e_frz_box e_frzB e_flat_lit e_flat_sl e_flat_agg e_flat_tup e_flat_any e_flat_clo e_flatL_nil e_flatL_cons e_objD e_setMany e_takeA e_zerosA e_gdL e_idsG e_idsOp e_callV' e_callF' e_o_move e_o_assign e_o_pick e_o_unOp e_o_binOp e_o_alloc e_o_box e_o_build e_o_buildSlice e_o_load e_o_store e_o_fieldAddr e_o_field e_o_indexAddr e_o_index e_o_slice0 e_o_slice1 e_o_slice2 e_o_slice3 e_o_makeSlice e_o_makeFunc e_o_convert e_o_extract e_o_nilCheck e_o_bcall e_o_vcall litI litB litS List.map_cons List.map_nil List.getD_cons_zero List.getD_cons_succ List.getD_nil List.getElem?_cons_zero List.getElem?_cons_succ List.getElem?_nil Option.getD_some Option.getD_none Option.map_some Option.map_none List.length_cons List.length_nil List.all_cons List.all_nil Bool.and_true Bool.true_and and_true true_and and_self
attribute [local go_sem] List.take_zero List.take_succ_cons List.drop_zero List.drop_succ_cons List.nil_append List.cons_append List.append_nil List.replicate_succ List.replicate_zero List.flatten_cons List.flatten_nil Nat.zero_add Nat.add_zero Nat.mul_one Nat.zero_mul Nat.one_mul Nat.mul_zero List.set_cons_zero List.set_cons_succ List.foldl_cons List.foldl_nil appendOk rowsOk inB sliceOk cutRows mtake mdrop List.length_append List.length_take List.length_drop if_true if_false or_false or_true true_or Bool.not_true Bool.not_false Bool.false_eq_true List.length_map Int.toNat_natCast Int.toNat_zero Int.toNat_one eq_self St.after St.put applyEff R0 T1 T2 T3 T4 T5 T6 T7 T8 T9 T10 T11 T12 T13 T14 T15 T16 T17 T18 T19 T20 T21 T22 T23 T24 T25 T26 T27 T28 T29 T30 T31 T32 T33 T34 T35 T36 T37 T38 T39 T40 T41 T42 T43 T44 T45 T46 T47 T48 T49 T50 T51 T52 T53 T54 T55 T56 T57 T58 T59 T60 T61 T62 T63 T64 T65 T66 T67 T68 T69 T70 T71 T72 T73 T74 T75 T76 T77 T78 T79 T80 T81 T82 T83 T84 T85 T86 T87 T88 T89 T90 T91 T92 T93 T94 T95 T96 T97 T98 T99 T100 T101 T102 T103 T105 T106 T107 T108 T109 T110 T111 T112 T113 T114 T117 T118 T119 T120 T121 T122 T123 T124 T125 T126 T127 T130 T131 T132 T133 T134 ti1 ti2 ti3 ti4 ti5 ti6 ti7 ti8 ti9 ti10 ti11 ti12 ti13 ti14 ti15 ti16 ti17 ti18 ti19 ti20 ti21 ti22 ti23 ti24 ti25 ti26 ti27 ti28 ti29 ti30 ti31 ti32 ti33 ti34 ti35 ti36 ti37 ti38 ti39 ti40 ti41 ti42 ti43 ti44 ti45 ti46 ti47 ti48 ti49 ti50 ti51 ti52 ti53 ti54 ti55 ti56 ti57 ti58 ti59 ti60 ti61 ti62 ti63 ti64 ti65 ti66 ti67 ti68 ti69 ti70 ti71 ti72 ti73 ti74 ti75 ti76 ti77 ti78 ti79 ti80 ti81 ti82 ti83 ti84 ti85 ti86 ti87 ti88 ti89 ti90 ti91 ti92 ti93 ti94 ti95 ti96 ti97 ti98 ti99 ti100 ti101 ti102 ti103 ti105 ti106 ti107 ti108 ti109 ti110 ti111 ti112 ti113 ti114 ti117 ti118 ti119 ti120 ti121 ti122 ti123 ti124 ti125 ti126 ti127 ti130 ti131 ti132 ti133 ti134
section
set_option linter.unusedVariables false
set_option linter.unusedSimpArgs false
open Go.RowKit
attribute [local irreducible] AWp evOps evD
theorem f78_spec (l : List Nm) (n : Nm) : Spec Try.prog 78 [.d (nms l), .agg (nm n.1 n.2)] (litI .i64 (idxN (fun x => nmEq n x) l 0)) := by
  refine spec_of_awp (fn := Try.f78) Try.func78 (by kernel_rfl) rfl ?_
  intro w0 C0
  simp only [Try.ntmps78, litI, litB, litS, List.length_cons, List.length_nil, Nat.reduceAdd, Nat.reduceSub, List.replicate_succ, List.replicate_zero, List.cons_append, List.nil_append]
  refine awp_len 0 rfl fun hl => ?_
  simp only [List.length_map] at hl
  repeat' first
    | refine awp_seq ?_
    | refine awp_block ?_
    | refine awp_skip ?_
    | (refine reg _ (by (simp only [List.map_cons, List.map_nil]; rfl)) rfl ?_; intro K hK)
    | (refine awp_cond _ (by rfl) ?_ ?_ <;> (intro hb; first | (cases hb; done) | (have ht : true = true := hb; clear ht hb) | (have ht : false = false := hb; clear ht hb) | (simp only [hb]) | skip))
    | (refine awp_exit ?_; simp only [thenA, blockA, reduceIte, RetQ, Nat.reduceEqDiff])
    | (refine awp_ret ?_; simp only [thenA, blockA, RetQ])
    | (refine ev_nil (hK _ ?_); clear hK K)
    | refine ev_step0 _ _ (by (simp only [go_sem]; rfl)) (by (first | trivial | decide | (simp only [inB, sliceOk, appendOk, rowsOk]; omega) | (simp [inB, sliceOk, appendOk, rowsOk]; omega))) _ (by (simp only [go_sem]; rfl)) ?_
    | (refine ev_step _ (by (simp only [go_sem]; rfl)) (by (first | trivial | decide | (simp only [inB, sliceOk, appendOk, rowsOk]; omega) | (simp [inB, sliceOk, appendOk, rowsOk]; omega))) _ (fun g u => by (simp only [go_sem]; rfl)) ?_; intro g u; (try clear u); (try clear g))
    | fail
  refine awp_loopI (fun i => i ≤ l.length ∧ idxN (fun x => nmEq n x) l 0 = idxN (fun x => nmEq n x) (l.drop i) i) (fun i => l.length - i) (fun i => ⟨[.d (nms l), .any, .any, .ptr 3 g 0, litI .i64 0, .any, .d (nms l), litI .i64 l.length, litI .i64 i, .any, .any, .any, .any, .any, .any, .any, .any, .any, .any], [.no, .no, .no, .box g (nm n.1 n.2), .no, .no, .no, .no, .no, .no, .no, .no, .no, .no, .no, .no, .no, .no, .no]⟩) 0 ⟨by omega, rfl⟩ ?_ ?_
  · refine Wk.mk ?_ ?_
    all_goals (repeat' first | exact trivial | exact LeA.refl _ | exact LeA.any _ | exact LeO.refl _ | exact LeO.no _ | exact LeA.nil _ | (refine LeA.i ?_; (first | rfl | (push_cast; rfl) | (rw [wrap_id (by omega)]; push_cast; omega) | (simp [wrap_id]; omega))) | refine ⟨?_, ?_⟩)
  rintro i ⟨hi, hfi⟩
  simp only [litI, litB]
  by_cases hlt : i < l.length
  rotate_left
  have hdec : decide ((i : Int) < (l.length : Int)) = false := by simp; omega
  · repeat' first
      | refine awp_seq ?_
      | refine awp_block ?_
      | refine awp_skip ?_
      | (refine reg _ (by (simp only [List.map_cons, List.map_nil]; rfl)) rfl ?_; intro K hK)
      | (refine awp_cond _ (by rfl) ?_ ?_ <;> (intro hb; first | (cases hb; done) | (have ht : true = true := hb; clear ht hb) | (have ht : false = false := hb; clear ht hb) | (simp only [hb]) | skip))
      | (refine awp_exit ?_; simp only [thenA, blockA, reduceIte, RetQ, Nat.reduceEqDiff])
      | (refine awp_ret ?_; simp only [thenA, blockA, RetQ])
      | (refine ev_nil (hK _ ?_); clear hK K)
      | refine ev_step0 _ _ (by (simp only [go_sem, hdec]; rfl)) (by (first | trivial | decide | (simp only [inB, sliceOk, appendOk, rowsOk]; omega) | (simp [inB, sliceOk, appendOk, rowsOk]; omega))) _ (by (simp only [go_sem, hdec]; rfl)) ?_
      | (refine ev_step _ (by (simp only [go_sem, hdec]; rfl)) (by (first | trivial | decide | (simp only [inB, sliceOk, appendOk, rowsOk]; omega) | (simp [inB, sliceOk, appendOk, rowsOk]; omega))) _ (fun g u => by (simp only [go_sem, hdec]; rfl)) ?_; intro g u; (try clear u); (try clear g))
      | fail
    all_goals (refine resR_one T_ok rfl _ (by (simp only [go_sem, resA]; rfl)) (by first | trivial | (simp only [go_sem, resA])) (by first | trivial | (simp only [go_sem])) ?_; simp only [go_sem])
    refine LeA.i ?_
    rw [hfi, List.drop_eq_nil_of_le (by omega)]; rfl
  have hdec : decide ((i : Int) < (l.length : Int)) = true := by simp; omega
  have hx := nms_at l hlt
  rw [drop_at l (0, 0) hlt] at hfi
  generalize l.getD i (0, 0) = x at *
  repeat' first
    | refine awp_seq ?_
    | refine awp_block ?_
    | refine awp_skip ?_
    | (refine reg _ (by (simp only [List.map_cons, List.map_nil]; rfl)) rfl ?_; intro K hK)
    | (refine awp_cond _ (by rfl) ?_ ?_ <;> (intro hb; first | (cases hb; done) | (have ht : true = true := hb; clear ht hb) | (have ht : false = false := hb; clear ht hb) | (simp only [hb]) | skip))
    | (refine awp_exit ?_; simp only [thenA, blockA, reduceIte, RetQ, Nat.reduceEqDiff])
    | (refine awp_ret ?_; simp only [thenA, blockA, RetQ])
    | (refine ev_nil (hK _ ?_); clear hK K)
    | (apply regD; (case hd => (simp only [List.map_cons, List.map_nil]; rfl)); (case hok => rfl); (case' h => (intro K hK; (repeat' first
        | (apply evd_nil; refine (hK _ ?_); clear hK K)
        | (apply evd_step0; (case hr => (simp only [go_sem, hdec, hx]; try rfl)); (case hi => (simp only [go_sem, hdec, hx]; try rfl)); (case hc => (first | trivial | decide | (simp only [inB, sliceOk, appendOk, rowsOk]; omega) | (simp [inB, sliceOk, appendOk, rowsOk]; omega))); (case hσ => (simp only [go_sem, hdec, hx]; try rfl)))
        | (apply evd_step; (case hr => (simp only [go_sem, hdec, hx]; try rfl)); (case hi => (simp only [go_sem, hdec, hx]; try rfl)); (case hc => (first | trivial | decide | (simp only [inB, sliceOk, appendOk, rowsOk]; omega) | (simp [inB, sliceOk, appendOk, rowsOk]; omega))); (case hw => (intro g u; simp only [go_sem, hdec, hx]; try rfl)); (case hσ => (intro g u; simp only [go_sem, hdec, hx]; try rfl)); (case' hk => (intro g u; (try clear u); (try clear g))))
        | fail))); (case hB => kernel_rfl))
    | refine ev_step0 _ _ (by (simp only [go_sem, hdec, hx]; rfl)) (by (first | trivial | decide | (simp only [inB, sliceOk, appendOk, rowsOk]; omega) | (simp [inB, sliceOk, appendOk, rowsOk]; omega))) _ (by (simp only [go_sem, hdec, hx]; rfl)) ?_
    | (refine ev_step _ (by (simp only [go_sem, hdec, hx]; rfl)) (by (first | trivial | decide | (simp only [inB, sliceOk, appendOk, rowsOk]; omega) | (simp [inB, sliceOk, appendOk, rowsOk]; omega))) _ (fun g u => by (simp only [go_sem, hdec, hx]; rfl)) ?_; intro g u; (try clear u); (try clear g))
    | fail
  · all_goals (refine resR_one T_ok rfl _ (by (simp only [go_sem, resA]; rfl)) (by first | trivial | (simp only [go_sem, resA])) (by first | trivial | (simp only [go_sem])) ?_; simp only [go_sem])
    refine LeA.i ?_
    rw [hfi]; simp_all [idxN, nmEq]
  · refine Exists.intro (i + 1) ⟨⟨by omega, ?_⟩, by omega, ?_⟩
    · rw [hfi]; simp_all [idxN, nmEq]
    · refine Wk.mk ?_ ?_
      all_goals (repeat' first | exact trivial | exact LeA.refl _ | exact LeA.any _ | exact LeO.refl _ | exact LeO.no _ | exact LeA.nil _ | (refine LeA.i ?_; (first | rfl | (push_cast; rfl) | (rw [wrap_id (by omega)]; push_cast; omega) | (simp [wrap_id]; omega))) | refine ⟨?_, ?_⟩)
theorem f71_spec (l : List Nm) (n : Nm) : Spec Try.prog 71 [.d (nms l), .agg (nm n.1 n.2)] (litB (l.any fun x => nmEq n x)) := by
  refine spec_of_awp (fn := Try.f71) Try.func71 (by kernel_rfl) rfl ?_
  intro w0 C0
  simp only [Try.ntmps71, litI, litB, litS, List.length_cons, List.length_nil, Nat.reduceAdd, Nat.reduceSub, List.replicate_succ, List.replicate_zero, List.cons_append, List.nil_append]
  repeat' first
    | refine awp_seq ?_
    | refine awp_block ?_
    | refine awp_skip ?_
    | (refine reg _ (by (simp only [List.map_cons, List.map_nil]; rfl)) rfl ?_; intro K hK)
    | (refine awp_cond _ (by rfl) ?_ ?_ <;> (intro hb; first | (cases hb; done) | (have ht : true = true := hb; clear ht hb) | (have ht : false = false := hb; clear ht hb) | (simp only [hb]) | skip))
    | (refine awp_exit ?_; simp only [thenA, blockA, reduceIte, RetQ, Nat.reduceEqDiff])
    | (refine awp_ret ?_; simp only [thenA, blockA, RetQ])
    | (refine ev_nil (hK _ ?_); clear hK K)
    | refine ev_call0 _ _ (by (simp only [go_sem]; rfl)) (by first | exact f78_spec ..) (by (simp only [go_sem])) _ (by (simp only [go_sem]; rfl)) ?_
    | refine ev_callC _ _ _ _ (by (simp only [go_sem]; rfl)) (by (simp only [go_sem]; rfl)) (by first | exact f78_spec ..) (by (simp only [go_sem])) _ (by (simp only [go_sem]; rfl)) ?_
    | refine ev_step0 _ _ (by (simp only [go_sem]; rfl)) (by (first | trivial | decide | (simp only [inB, sliceOk, appendOk, rowsOk]; omega) | (simp [inB, sliceOk, appendOk, rowsOk]; omega))) _ (by (simp only [go_sem]; rfl)) ?_
    | (refine ev_step _ (by (simp only [go_sem]; rfl)) (by (first | trivial | decide | (simp only [inB, sliceOk, appendOk, rowsOk]; omega) | (simp [inB, sliceOk, appendOk, rowsOk]; omega))) _ (fun g u => by (simp only [go_sem]; rfl)) ?_; intro g u; (try clear u); (try clear g))
    | fail
  all_goals (refine resR_one T_ok rfl _ (by (simp only [go_sem, resA]; rfl)) (by first | trivial | (simp only [go_sem, resA])) (by first | trivial | (simp only [go_sem])) ?_; simp only [go_sem])
  exact LeA.b (idxN_any (fun x => nmEq n x) l 0)
theorem f77_spec (a b : Int) : Spec Try.prog 77 [litI .i64 a, litI .i64 b] (litI .i64 (max a b)) := by
  refine spec_of_awp (fn := Try.f77) Try.func77 (by kernel_rfl) rfl ?_
  intro w0 C0
  simp only [Try.ntmps77, litI, litB, litS, List.length_cons, List.length_nil, Nat.reduceAdd, Nat.reduceSub, List.replicate_succ, List.replicate_zero, List.cons_append, List.nil_append]
  repeat' first
    | refine awp_seq ?_
    | refine awp_block ?_
    | refine awp_skip ?_
    | (refine reg _ (by (simp only [List.map_cons, List.map_nil]; rfl)) rfl ?_; intro K hK)
    | (refine awp_cond _ (by rfl) ?_ ?_ <;> (intro hb; first | (cases hb; done) | (have ht : true = true := hb; clear ht hb) | (have ht : false = false := hb; clear ht hb) | (simp only [hb]) | skip))
    | (refine awp_exit ?_; simp only [thenA, blockA, reduceIte, RetQ, Nat.reduceEqDiff])
    | (refine awp_ret ?_; simp only [thenA, blockA, RetQ])
    | (refine ev_nil (hK _ ?_); clear hK K)
    | refine ev_step0 _ _ (by (simp only [go_sem]; rfl)) (by (first | trivial | decide | (simp only [inB, sliceOk, appendOk, rowsOk]; omega) | (simp [inB, sliceOk, appendOk, rowsOk]; omega))) _ (by (simp only [go_sem]; rfl)) ?_
    | (refine ev_step _ (by (simp only [go_sem]; rfl)) (by (first | trivial | decide | (simp only [inB, sliceOk, appendOk, rowsOk]; omega) | (simp [inB, sliceOk, appendOk, rowsOk]; omega))) _ (fun g u => by (simp only [go_sem]; rfl)) ?_; intro g u; (try clear u); (try clear g))
    | fail
  all_goals (refine resR_one T_ok rfl _ (by (simp only [go_sem, resA]; rfl)) (by first | trivial | (simp only [go_sem, resA])) (by first | trivial | (simp only [go_sem])) ?_; simp only [go_sem])
  refine LeA.i ?_
  rw [Int.max_def]; split <;> split <;> omega
def mixL (a b : List Int) (i : Nat) : List Int := (List.zipWith max a b).take i ++ a.drop i
theorem mixL_length (a b : List Int) (i : Nat) (h : i ≤ a.length) (hb : b.length = a.length) : (mixL a b i).length = a.length := by simp [mixL]; omega
theorem mixL_get (a b : List Int) (i : Nat) (h : i < a.length) (hb : b.length = a.length) : (mixL a b i).getD i 0 = a.getD i 0 := by
  have h1 : ((List.zipWith max a b).take i).length = i := by simp; omega
  simp only [mixL, List.getD_eq_getElem?_getD]
  rw [List.getElem?_append_right (by omega), h1, Nat.sub_self, List.getElem?_drop, Nat.add_zero]
theorem mixL_set (a b : List Int) (i : Nat) (h : i < a.length) (hb : b.length = a.length) : (mixL a b i).set i (max (a.getD i 0) (b.getD i 0)) = mixL a b (i + 1) := by
  have h1 : ((List.zipWith max a b).take i).length = i := by simp; omega
  unfold mixL
  rw [List.set_append_right _ _ (by omega), h1, Nat.sub_self, drop_at a 0 h, List.set_cons_zero, zip_take a b h (by omega)]
  simp
theorem join_badL {a b : List Int} (h : cutsOk a b = false) : LeL [.d (.lit (.slice none 0 0)), .d (.lit (.int .i64 200))] [.d (ints (joinL a b)), .d (.lit (.int .i64 (joinE a b)))] := by
  refine ⟨?_, ?_, trivial⟩
  · have : joinL a b = [] := by simp [joinL, h]
    rw [this]; exact LeA.nil 1
  · exact LeA.i (by simp [joinE, h])
theorem f76_spec (a b : List Int) : Spec Try.prog 76 [.d (ints a), .d (ints b), .d (.lit (.func (.func 77) #[] #[]))] (.tup [.d (ints (joinL a b)), litI .i64 (joinE a b)]) := by
  have hfn := IsFn.lit 77
  by_cases hok : cutsOk a b = true
  · have ha : a.length = 6 := by simp [cutsOk, cutV] at hok; omega
    have hb6 : b.length = 6 := by simp [cutsOk, cutV] at hok; omega
    have h1 : cutV a = true := by simp [cutsOk] at hok; exact hok.1
    have h2 : cutV b = true := by simp [cutsOk] at hok; exact hok.2
    have h82 := f82_spec a (by omega)
    refine spec_of_awp (fn := Try.f76) Try.func76 (by kernel_rfl) rfl ?_
    intro w0 C0
    simp only [Try.ntmps76, litI, litB, litS, List.length_cons, List.length_nil, Nat.reduceAdd, Nat.reduceSub, List.replicate_succ, List.replicate_zero, List.cons_append, List.nil_append]
    repeat' first
      | refine awp_seq ?_
      | refine awp_block ?_
      | refine awp_skip ?_
      | (refine reg _ (by (simp only [List.map_cons, List.map_nil]; rfl)) rfl ?_; intro K hK)
      | (refine awp_cond _ (by rfl) ?_ ?_ <;> (intro hb; first | (cases hb; done) | (have ht : true = true := hb; clear ht hb) | (have ht : false = false := hb; clear ht hb) | (simp only [hb]) | skip))
      | (refine awp_exit ?_; simp only [thenA, blockA, reduceIte, RetQ, Nat.reduceEqDiff])
      | (refine awp_ret ?_; simp only [thenA, blockA, RetQ])
      | (refine ev_nil (hK _ ?_); clear hK K)
      | refine ev_guardU _ (by (simp only [go_sem, h1, h2]; rfl)) (by (simp only [go_sem, h1, h2]; rfl)) _ (by (simp only [go_sem, h1, h2]; rfl)) ?_
      | (refine ev_guardT _ _ (by (simp only [go_sem, h1, h2]; rfl)) (by (simp only [go_sem, h1, h2]; rfl)) ?_ ?_ <;> (intro hb; first | (cases hb; done) | (have ht : true = true := hb; clear ht hb) | (have ht : false = false := hb; clear ht hb) | (simp only [hb]) | skip))
      | (refine ev_guardF _ _ (by (simp only [go_sem, h1, h2]; rfl)) (by (simp only [go_sem, h1, h2]; rfl)) ?_ ?_ <;> (intro hb; first | (cases hb; done) | (have ht : true = true := hb; clear ht hb) | (have ht : false = false := hb; clear ht hb) | (simp only [hb]) | skip))
      | refine ev_call0 _ _ (by (simp only [go_sem, h1, h2]; rfl)) (by first | exact f51_spec ..) (by (simp only [go_sem, h1, h2])) _ (by (simp only [go_sem, h1, h2]; rfl)) ?_
      | refine ev_callC _ _ _ _ (by (simp only [go_sem, h1, h2]; rfl)) (by (simp only [go_sem, h1, h2]; rfl)) (by first | exact f51_spec ..) (by (simp only [go_sem, h1, h2])) _ (by (simp only [go_sem, h1, h2]; rfl)) ?_
      | (refine ev_callF0 _ _ _ _ (by (simp only [go_sem, h1, h2]; rfl)) (by first | exact h82 ..) (by (simp only [go_sem, h1, h2])) (by simp) _ (fun u => by (simp only [go_sem, h1, h2]; rfl)) ?_; intro u)
      | refine ev_step0 _ _ (by (simp only [go_sem, h1, h2]; rfl)) (by (first | trivial | decide | (simp only [inB, sliceOk, appendOk, rowsOk]; omega) | (simp [inB, sliceOk, appendOk, rowsOk]; omega))) _ (by (simp only [go_sem, h1, h2]; rfl)) ?_
      | (refine ev_step _ (by (simp only [go_sem, h1, h2]; rfl)) (by (first | trivial | decide | (simp only [inB, sliceOk, appendOk, rowsOk]; omega) | (simp [inB, sliceOk, appendOk, rowsOk]; omega))) _ (fun g u => by (simp only [go_sem, h1, h2]; rfl)) ?_; intro g u; (try clear u); (try clear g))
      | fail
    refine awp_loopI (fun i : Nat => i ≤ b.length) (fun i => b.length - i) (fun i => ⟨[.any, .d (ints b), .d (.lit (.func (.func 77) #[] #[])), .any, .any, .any, .any, .any, .own 20 u, .any, .any, .any, .any, .any, .any, .any, .any, .any, .any, .any, .any, .d (ints b), litI .i64 b.length, litI .i64 i, .any, .any, .any, .any, .any, .any, .any, .any, .any, .any, .any, .any, .any, .any, .any, .any], [.no, .no, .no, .no, .no, .no, .no, .no, .no, .no, .no, .no, .no, .no, .no, .no, .no, .no, .no, .no, .row u 3 1 ((mixL a b i).map fun n => [.lit (.int .i64 n)]), .no, .no, .no, .no, .no, .no, .no, .no, .no, .no, .no, .no, .no, .no, .no, .no, .no, .no, .no]⟩) 0 (by simp) ?_ ?_
    · refine Wk.mk ?_ ?_
      all_goals (repeat' first | exact trivial | exact LeA.refl _ | exact LeA.any _ | exact LeO.refl _ | exact LeO.no _ | exact LeA.nil _ | (refine LeA.i ?_; (first | rfl | (push_cast; rfl) | (rw [wrap_id (by omega)]; push_cast; omega) | (simp [mixL, wrap_id]; omega))) | refine ⟨?_, ?_⟩)
    intro i hi
    simp only [litI, litB] at hi ⊢
    by_cases hlt : i < b.length
    rotate_left
    have hdec : decide ((i : Int) < (b.length : Int)) = false := by simp; omega
    · repeat' first
        | refine awp_seq ?_
        | refine awp_block ?_
        | refine awp_skip ?_
        | (refine reg _ (by (simp only [List.map_cons, List.map_nil]; rfl)) rfl ?_; intro K hK)
        | (refine awp_cond _ (by rfl) ?_ ?_ <;> (intro hb; first | (cases hb; done) | (have ht : true = true := hb; clear ht hb) | (have ht : false = false := hb; clear ht hb) | (simp only [hb]) | skip))
        | (refine awp_exit ?_; simp only [thenA, blockA, reduceIte, RetQ, Nat.reduceEqDiff])
        | (refine awp_ret ?_; simp only [thenA, blockA, RetQ])
        | (refine ev_nil (hK _ ?_); clear hK K)
        | refine ev_guardU _ (by (simp only [go_sem, hdec]; rfl)) (by (simp only [go_sem, hdec]; rfl)) _ (by (simp only [go_sem, hdec]; rfl)) ?_
        | (refine ev_guardT _ _ (by (simp only [go_sem, hdec]; rfl)) (by (simp only [go_sem, hdec]; rfl)) ?_ ?_ <;> (intro hb; first | (cases hb; done) | (have ht : true = true := hb; clear ht hb) | (have ht : false = false := hb; clear ht hb) | (simp only [hb]) | skip))
        | (refine ev_guardF _ _ (by (simp only [go_sem, hdec]; rfl)) (by (simp only [go_sem, hdec]; rfl)) ?_ ?_ <;> (intro hb; first | (cases hb; done) | (have ht : true = true := hb; clear ht hb) | (have ht : false = false := hb; clear ht hb) | (simp only [hb]) | skip))
        | refine ev_step0 _ _ (by (simp only [go_sem, hdec]; rfl)) (by (first | trivial | decide | (simp only [inB, sliceOk, appendOk, rowsOk]; omega) | (simp [inB, sliceOk, appendOk, rowsOk]; omega))) _ (by (simp only [go_sem, hdec]; rfl)) ?_
        | (refine ev_step _ (by (simp only [go_sem, hdec]; rfl)) (by (first | trivial | decide | (simp only [inB, sliceOk, appendOk, rowsOk]; omega) | (simp [inB, sliceOk, appendOk, rowsOk]; omega))) _ (fun g u => by (simp only [go_sem, hdec]; rfl)) ?_; intro g u; (try clear u); (try clear g))
        | fail
      all_goals (refine resR_more T_ok rfl (by decide) _ (by (simp only [go_sem, resA]; rfl)) (by (intro rv hrv; simp only [List.mem_cons, List.not_mem_nil, or_false] at hrv; rcases hrv with rfl | rfl <;> first | trivial | simp only [go_sem, resA])) (by first | trivial | (simp only [go_sem])) ?_; simp only [go_sem])
      have hi6 : i = a.length := by omega
      refine ⟨LeA.s ?_, LeA.i (by simp [joinE, hok]), trivial⟩
      simp only [joinL, hok, if_true, mixL]
      rw [hi6, List.drop_length, List.append_nil, List.take_of_length_le (by simp; omega)]
    have hdec : decide ((i : Int) < (b.length : Int)) = true := by simp; omega
    have hlen := mixL_length a b i (by omega) (by omega)
    have hg := mixL_get a b i (by omega) (by omega)
    have hset := mixL_set a b i (by omega) (by omega)
    have hx := ints_at (mixL a b i) (i := i) (by omega)
    have hy := ints_at b hlt
    rw [hg] at hx
    generalize a.getD i 0 = x at *
    generalize b.getD i 0 = y at *
    repeat' first
      | refine awp_seq ?_
      | refine awp_block ?_
      | refine awp_skip ?_
      | (refine reg _ (by (simp only [List.map_cons, List.map_nil]; rfl)) rfl ?_; intro K hK)
      | (refine awp_cond _ (by rfl) ?_ ?_ <;> (intro hb; first | (cases hb; done) | (have ht : true = true := hb; clear ht hb) | (have ht : false = false := hb; clear ht hb) | (simp only [hb]) | skip))
      | (refine awp_exit ?_; simp only [thenA, blockA, reduceIte, RetQ, Nat.reduceEqDiff])
      | (refine awp_ret ?_; simp only [thenA, blockA, RetQ])
      | (refine ev_nil (hK _ ?_); clear hK K)
      | refine ev_guardU _ (by (simp only [go_sem, hdec, hx, hy]; rfl)) (by (simp only [go_sem, hdec, hx, hy]; rfl)) _ (by (simp only [go_sem, hdec, hx, hy]; rfl)) ?_
      | (refine ev_guardT _ _ (by (simp only [go_sem, hdec, hx, hy]; rfl)) (by (simp only [go_sem, hdec, hx, hy]; rfl)) ?_ ?_ <;> (intro hb; first | (cases hb; done) | (have ht : true = true := hb; clear ht hb) | (have ht : false = false := hb; clear ht hb) | (simp only [hb]) | skip))
      | (refine ev_guardF _ _ (by (simp only [go_sem, hdec, hx, hy]; rfl)) (by (simp only [go_sem, hdec, hx, hy]; rfl)) ?_ ?_ <;> (intro hb; first | (cases hb; done) | (have ht : true = true := hb; clear ht hb) | (have ht : false = false := hb; clear ht hb) | (simp only [hb]) | skip))
      | refine ev_call0 _ _ (by (simp only [go_sem, hdec, hx, hy]; rfl)) (by first | exact f77_spec ..) (by (simp only [go_sem, hdec, hx, hy])) _ (by (simp only [go_sem, hdec, hx, hy]; rfl)) ?_
      | refine ev_callC _ _ _ _ (by (simp only [go_sem, hdec, hx, hy]; rfl)) (by (simp only [go_sem, hdec, hx, hy]; rfl)) (by first | exact f77_spec ..) (by (simp only [go_sem, hdec, hx, hy])) _ (by (simp only [go_sem, hdec, hx, hy]; rfl)) ?_
      | refine ev_callFn hfn _ _ (by (simp only [go_sem, hdec, hx, hy])) (by (simp only [go_sem, hdec, hx, hy]; rfl)) ((f77_spec _ _)) (by (simp only [go_sem, hdec, hx, hy])) _ (by (simp only [go_sem, hdec, hx, hy]; rfl)) ?_
      | refine ev_step0 _ _ (by (simp only [go_sem, hdec, hx, hy]; rfl)) (by (first | trivial | decide | (simp only [inB, sliceOk, appendOk, rowsOk]; omega) | (simp [inB, sliceOk, appendOk, rowsOk]; omega))) _ (by (simp only [go_sem, hdec, hx, hy]; rfl)) ?_
      | (refine ev_step _ (by (simp only [go_sem, hdec, hx, hy]; rfl)) (by (first | trivial | decide | (simp only [inB, sliceOk, appendOk, rowsOk]; omega) | (simp [inB, sliceOk, appendOk, rowsOk]; omega))) _ (fun g u => by (simp only [go_sem, hdec, hx, hy]; rfl)) ?_; intro g u; (try clear u); (try clear g))
      | fail
    refine Exists.intro (i + 1) ⟨by omega, by omega, ?_⟩
    have ho : ((mixL a b i).map fun n => [Dat.lit (.int .i64 n)]).set i [Dat.lit (.int .i64 (max x y))] = (mixL a b (i + 1)).map fun n => [Dat.lit (.int .i64 n)] := by
      rw [← hset, List.map_set]
    simp only [ho]
    refine Wk.mk ?_ ?_
    all_goals (repeat' first | exact trivial | exact LeA.refl _ | exact LeA.any _ | exact LeO.refl _ | exact LeO.no _ | exact LeA.nil _ | (refine LeA.i ?_; (first | rfl | (push_cast; rfl) | (rw [wrap_id (by omega)]; push_cast; omega) | (simp [wrap_id]; omega))) | refine ⟨?_, ?_⟩)
  · have hok' : cutsOk a b = false := by simpa using hok
    cases h1 : cutV a with
    | false =>
      refine spec_of_awp (fn := Try.f76) Try.func76 (by kernel_rfl) rfl ?_
      intro w0 C0
      simp only [Try.ntmps76, litI, litB, litS, List.length_cons, List.length_nil, Nat.reduceAdd, Nat.reduceSub, List.replicate_succ, List.replicate_zero, List.cons_append, List.nil_append]
      repeat' first
        | refine awp_seq ?_
        | refine awp_block ?_
        | refine awp_skip ?_
        | (refine reg _ (by (simp only [List.map_cons, List.map_nil]; rfl)) rfl ?_; intro K hK)
        | (refine awp_cond _ (by rfl) ?_ ?_ <;> (intro hb; first | (cases hb; done) | (have ht : true = true := hb; clear ht hb) | (have ht : false = false := hb; clear ht hb) | (simp only [hb]) | skip))
        | (refine awp_exit ?_; simp only [thenA, blockA, reduceIte, RetQ, Nat.reduceEqDiff])
        | (refine awp_ret ?_; simp only [thenA, blockA, RetQ])
        | (refine ev_nil (hK _ ?_); clear hK K)
        | refine ev_guardU _ (by (simp only [go_sem, h1]; rfl)) (by (simp only [go_sem, h1]; rfl)) _ (by (simp only [go_sem, h1]; rfl)) ?_
        | (refine ev_guardT _ _ (by (simp only [go_sem, h1]; rfl)) (by (simp only [go_sem, h1]; rfl)) ?_ ?_ <;> (intro hb; first | (cases hb; done) | (have ht : true = true := hb; clear ht hb) | (have ht : false = false := hb; clear ht hb) | (simp only [hb]) | skip))
        | (refine ev_guardF _ _ (by (simp only [go_sem, h1]; rfl)) (by (simp only [go_sem, h1]; rfl)) ?_ ?_ <;> (intro hb; first | (cases hb; done) | (have ht : true = true := hb; clear ht hb) | (have ht : false = false := hb; clear ht hb) | (simp only [hb]) | skip))
        | refine ev_call0 _ _ (by (simp only [go_sem, h1]; rfl)) (by first | exact f51_spec ..) (by (simp only [go_sem, h1])) _ (by (simp only [go_sem, h1]; rfl)) ?_
        | refine ev_callC _ _ _ _ (by (simp only [go_sem, h1]; rfl)) (by (simp only [go_sem, h1]; rfl)) (by first | exact f51_spec ..) (by (simp only [go_sem, h1])) _ (by (simp only [go_sem, h1]; rfl)) ?_
        | refine ev_step0 _ _ (by (simp only [go_sem, h1]; rfl)) (by (first | trivial | decide | (simp only [inB, sliceOk, appendOk, rowsOk]; omega) | (simp [inB, sliceOk, appendOk, rowsOk]; omega))) _ (by (simp only [go_sem, h1]; rfl)) ?_
        | (refine ev_step _ (by (simp only [go_sem, h1]; rfl)) (by (first | trivial | decide | (simp only [inB, sliceOk, appendOk, rowsOk]; omega) | (simp [inB, sliceOk, appendOk, rowsOk]; omega))) _ (fun g u => by (simp only [go_sem, h1]; rfl)) ?_; intro g u; (try clear u); (try clear g))
        | fail
      all_goals (refine resR_more T_ok rfl (by decide) _ (by (simp only [go_sem, resA]; rfl)) (by (intro rv hrv; simp only [List.mem_cons, List.not_mem_nil, or_false] at hrv; rcases hrv with rfl | rfl <;> first | trivial | simp only [go_sem, resA])) (by first | trivial | (simp only [go_sem])) ?_; simp only [go_sem])
      exact join_badL hok'
    | true =>
      have h2 : cutV b = false := by simp [cutsOk, h1] at hok'; exact hok'
      refine spec_of_awp (fn := Try.f76) Try.func76 (by kernel_rfl) rfl ?_
      intro w0 C0
      simp only [Try.ntmps76, litI, litB, litS, List.length_cons, List.length_nil, Nat.reduceAdd, Nat.reduceSub, List.replicate_succ, List.replicate_zero, List.cons_append, List.nil_append]
      repeat' first
        | refine awp_seq ?_
        | refine awp_block ?_
        | refine awp_skip ?_
        | (refine reg _ (by (simp only [List.map_cons, List.map_nil]; rfl)) rfl ?_; intro K hK)
        | (refine awp_cond _ (by rfl) ?_ ?_ <;> (intro hb; first | (cases hb; done) | (have ht : true = true := hb; clear ht hb) | (have ht : false = false := hb; clear ht hb) | (simp only [hb]) | skip))
        | (refine awp_exit ?_; simp only [thenA, blockA, reduceIte, RetQ, Nat.reduceEqDiff])
        | (refine awp_ret ?_; simp only [thenA, blockA, RetQ])
        | (refine ev_nil (hK _ ?_); clear hK K)
        | refine ev_guardU _ (by (simp only [go_sem, h1, h2]; rfl)) (by (simp only [go_sem, h1, h2]; rfl)) _ (by (simp only [go_sem, h1, h2]; rfl)) ?_
        | (refine ev_guardT _ _ (by (simp only [go_sem, h1, h2]; rfl)) (by (simp only [go_sem, h1, h2]; rfl)) ?_ ?_ <;> (intro hb; first | (cases hb; done) | (have ht : true = true := hb; clear ht hb) | (have ht : false = false := hb; clear ht hb) | (simp only [hb]) | skip))
        | (refine ev_guardF _ _ (by (simp only [go_sem, h1, h2]; rfl)) (by (simp only [go_sem, h1, h2]; rfl)) ?_ ?_ <;> (intro hb; first | (cases hb; done) | (have ht : true = true := hb; clear ht hb) | (have ht : false = false := hb; clear ht hb) | (simp only [hb]) | skip))
        | refine ev_call0 _ _ (by (simp only [go_sem, h1, h2]; rfl)) (by first | exact f51_spec ..) (by (simp only [go_sem, h1, h2])) _ (by (simp only [go_sem, h1, h2]; rfl)) ?_
        | refine ev_callC _ _ _ _ (by (simp only [go_sem, h1, h2]; rfl)) (by (simp only [go_sem, h1, h2]; rfl)) (by first | exact f51_spec ..) (by (simp only [go_sem, h1, h2])) _ (by (simp only [go_sem, h1, h2]; rfl)) ?_
        | refine ev_step0 _ _ (by (simp only [go_sem, h1, h2]; rfl)) (by (first | trivial | decide | (simp only [inB, sliceOk, appendOk, rowsOk]; omega) | (simp [inB, sliceOk, appendOk, rowsOk]; omega))) _ (by (simp only [go_sem, h1, h2]; rfl)) ?_
        | (refine ev_step _ (by (simp only [go_sem, h1, h2]; rfl)) (by (first | trivial | decide | (simp only [inB, sliceOk, appendOk, rowsOk]; omega) | (simp [inB, sliceOk, appendOk, rowsOk]; omega))) _ (fun g u => by (simp only [go_sem, h1, h2]; rfl)) ?_; intro g u; (try clear u); (try clear g))
        | fail
      all_goals (refine resR_more T_ok rfl (by decide) _ (by (simp only [go_sem, resA]; rfl)) (by (intro rv hrv; simp only [List.mem_cons, List.not_mem_nil, or_false] at hrv; rcases hrv with rfl | rfl <;> first | trivial | simp only [go_sem, resA])) (by first | trivial | (simp only [go_sem])) ?_; simp only [go_sem])
      exact join_badL hok'
theorem f70_spec (a b : List Int) : Spec Try.prog 70 [.d (ints a), .d (ints b)] (.tup [.d (ints (joinL a b)), litI .i64 (joinE a b)]) := by
  refine spec_of_awp (fn := Try.f70) Try.func70 (by kernel_rfl) rfl ?_
  intro w0 C0
  simp only [Try.ntmps70, litI, litB, litS, List.length_cons, List.length_nil, Nat.reduceAdd, Nat.reduceSub, List.replicate_succ, List.replicate_zero, List.cons_append, List.nil_append]
  repeat' first
    | refine awp_seq ?_
    | refine awp_block ?_
    | refine awp_skip ?_
    | (refine reg _ (by (simp only [List.map_cons, List.map_nil]; rfl)) rfl ?_; intro K hK)
    | (refine awp_cond _ (by rfl) ?_ ?_ <;> (intro hb; first | (cases hb; done) | (have ht : true = true := hb; clear ht hb) | (have ht : false = false := hb; clear ht hb) | (simp only [hb]) | skip))
    | (refine awp_exit ?_; simp only [thenA, blockA, reduceIte, RetQ, Nat.reduceEqDiff])
    | (refine awp_ret ?_; simp only [thenA, blockA, RetQ])
    | (refine ev_nil (hK _ ?_); clear hK K)
    | refine ev_call0 _ _ (by (simp only [go_sem]; rfl)) (by first | exact f76_spec ..) (by (simp only [go_sem])) _ (by (simp only [go_sem]; rfl)) ?_
    | refine ev_callC _ _ _ _ (by (simp only [go_sem]; rfl)) (by (simp only [go_sem]; rfl)) (by first | exact f76_spec ..) (by (simp only [go_sem])) _ (by (simp only [go_sem]; rfl)) ?_
    | refine ev_step0 _ _ (by (simp only [go_sem]; rfl)) (by (first | trivial | decide | (simp only [inB, sliceOk, appendOk, rowsOk]; omega) | (simp [inB, sliceOk, appendOk, rowsOk]; omega))) _ (by (simp only [go_sem]; rfl)) ?_
    | (refine ev_step _ (by (simp only [go_sem]; rfl)) (by (first | trivial | decide | (simp only [inB, sliceOk, appendOk, rowsOk]; omega) | (simp [inB, sliceOk, appendOk, rowsOk]; omega))) _ (fun g u => by (simp only [go_sem]; rfl)) ?_; intro g u; (try clear u); (try clear g))
    | fail
  all_goals (refine resR_more T_ok rfl (by decide) _ (by (simp only [go_sem, resA]; rfl)) (by (intro rv hrv; simp only [List.mem_cons, List.not_mem_nil, or_false] at hrv; rcases hrv with rfl | rfl <;> first | trivial | simp only [go_sem, resA])) (by first | trivial | (simp only [go_sem])) ?_; simp only [go_sem])
  exact ⟨LeA.refl _, LeA.refl _, trivial⟩
end
section
set_option linter.unusedVariables false
set_option linter.unusedSimpArgs false
open Go.RowKit
attribute [local irreducible] AWp evOps evD AWq Ops
def isIn (l : List Nm) (n : Nm) : Bool := l.any fun x => nmEq n x
/-- The tags that a join keeps. -/
def keepJ (a : List Nm) (x : List Int) (b : List Nm) (y : List Int) (n : Nm) : Bool := isIn a n && isIn b n || isIn a n && !inCut y n.1 n.2 || isIn b n && !inCut x n.1 n.2
def joinT (a : List Nm) (x : List Int) (b : List Nm) (y : List Int) : List Nm := (uniL a b).filter (keepJ a x b y)
set_option maxHeartbeats 4000000 in
theorem f59_spec (a : List Nm) (x : List Int) (b : List Nm) (y : List Int) (hb0 : a.length + b.length ≤ 16777216) : Spec Try.prog 59 [.agg (rep a x), .agg (rep b y)] (.agg (rep (joinT a x b y) (joinL x y))) := by
  refine ⟨⟨Try.f59, Try.func59, by kernel_rfl, rfl⟩, ?_⟩
  intro w C hC vs hv
  refine (callsIn_wide (n := 0)).1 (callsIn_of_wp_marks (fn := Try.f59) Try.func59 rfl trivial ?_)
  have hs := sat_start (P := Try.prog) (n := 63) (holds := []) (M := fun _ => False) (fun x hx => ⟨hC x hx, fun h => h⟩) hv (by intro i x h; simp at h) (by intro i j x y g h; simp at h)
  refine awq_go (E := ⟨Try.prog, w, C, fun _ => False, none, []⟩) rfl hs ?_
  simp only [litI, litB, litS, List.length_cons, List.length_nil, Nat.reduceAdd, Nat.reduceSub, List.replicate_succ, List.replicate_zero, List.cons_append, List.nil_append]
  repeat' first
    | (show AWq _ (Code.seq (Code.seq _ (Code.block _ (Code.rangeFunc _ _ _ _))) _) _ _; refine awq_seqq ?_)
    | (show AWq _ (Code.seq (Code.block _ (Code.rangeFunc _ _ _ _)) _) _ _; refine awq_seqq ?_)
    | ((fail_if_success show AWq _ (Code.seq (Code.region 3 _ _) _) _ _); refine awq_seq ?_)
    | refine awq_block ?_
    | refine awp_seq ?_
    | refine awp_block ?_
    | refine awp_skip ?_
    | (refine reg _ (by (simp only [List.map_cons, List.map_nil]; rfl)) rfl ?_; intro K hK)
    | (refine awp_cond _ (by rfl) ?_ ?_ <;> (intro hb; first | (cases hb; done) | (have ht : true = true := hb; clear ht hb) | (have ht : false = false := hb; clear ht hb) | (simp only [hb]) | skip))
    | (refine awp_exit ?_; simp only [thenA, blockA, reduceIte, RetQ, Nat.reduceEqDiff])
    | (refine awp_ret ?_; simp only [thenA, blockA, RetQ])
    | (refine ev_nil (hK _ ?_); clear hK K)
    | refine ev_guardU _ (by (simp only [go_sem]; rfl)) (by (simp only [go_sem]; rfl)) _ (by (simp only [go_sem]; rfl)) ?_
    | (refine ev_guardT _ _ (by (simp only [go_sem]; rfl)) (by (simp only [go_sem]; rfl)) ?_ ?_ <;> (intro hb; first | (cases hb; done) | (have ht : true = true := hb; clear ht hb) | (have ht : false = false := hb; clear ht hb) | (simp only [hb]) | skip))
    | (refine ev_guardF _ _ (by (simp only [go_sem]; rfl)) (by (simp only [go_sem]; rfl)) ?_ ?_ <;> (intro hb; first | (cases hb; done) | (have ht : true = true := hb; clear ht hb) | (have ht : false = false := hb; clear ht hb) | (simp only [hb]) | skip))
    | refine ev_call0 _ _ (by (simp only [go_sem]; rfl)) (by first | exact f70_spec ..) (by (simp only [go_sem])) _ (by (simp only [go_sem]; rfl)) ?_
    | refine ev_callC _ _ _ _ (by (simp only [go_sem]; rfl)) (by (simp only [go_sem]; rfl)) (by first | exact f70_spec ..) (by (simp only [go_sem])) _ (by (simp only [go_sem]; rfl)) ?_
    | refine ev_step0 _ _ (by (simp only [go_sem]; rfl)) (by (first | trivial | decide | (simp only [inB, sliceOk, appendOk, rowsOk]; omega) | (simp [inB, sliceOk, appendOk, rowsOk]; omega))) _ (by (simp only [go_sem]; rfl)) ?_
    | (refine ev_step _ (by (simp only [go_sem]; rfl)) (by (first | trivial | decide | (simp only [inB, sliceOk, appendOk, rowsOk]; omega) | (simp [inB, sliceOk, appendOk, rowsOk]; omega))) _ (fun g u => by (simp only [go_sem]; rfl)) ?_; intro g u; (try clear u); (try clear g))
    | fail
  rename_i g2 g3 g4
  refine awq_ops ?_
  intro a1 w1 hs1
  refine ops_step (K := fun s => Wk ⟨Try.prog, w, C, fun _ => False, none, []⟩ s (⟨[.any, .any, .ptr 2 g2 0, .ptr 3 g3 0, .ptr 4 g4 0, .ptr 5 g 0, .any, .any, .any, .any, .any, .any, .any, .any, .any, .any, .any, .any, .any, .d (nms a), .any, .d (nms b), .any, .any, .any, .any, .any, .any, .any, .any, .any, .any, .any, .any, .any, .any, .any, .any, .any, .any, .any, .any, .any, .any, .any, .any, .any, .any, .any, .any, .any, .any, .any, .any, .any, .any, .any, .any, .any, .any, .any, .any, .any], [.no, .no, .box g2 (rep a x), .box g3 (rep b y), .box g4 [.d (.lit (.slice none 0 0)), .d (.lit (.slice none 0 0))], .box g [.own 60 (.slice none 0 0), .d (ints (joinL x y))], .no, .no, .no, .no, .no, .no, .no, .no, .no, .no, .no, .no, .no, .no, .no, .no, .no, .no, .no, .no, .no, .no, .no, .no, .no, .no, .no, .no, .no, .no, .no, .no, .no, .no, .no, .no, .no, .no, .no, .no, .no, .no, .no, .no, .no, .no, .no, .no, .no, .no, .no, .no, .no, .no, .row (.slice none 0 0) 25 2 [], .no, .no]⟩)) T_ok 4 hs1 (by decide) rfl ?_ fun s a2 w2 hK hs2 => ?_
  · repeat' first
      | refine awp_seq ?_
      | refine awp_block ?_
      | refine awp_skip ?_
      | (refine reg _ (by (simp only [List.map_cons, List.map_nil]; rfl)) rfl ?_; intro K hK)
      | (refine awp_cond _ (by rfl) ?_ ?_ <;> (intro hb; first | (cases hb; done) | (have ht : true = true := hb; clear ht hb) | (have ht : false = false := hb; clear ht hb) | (simp only [hb]) | skip))
      | (refine awp_exit ?_; simp only [thenA, blockA, reduceIte, RetQ, Nat.reduceEqDiff])
      | (refine awp_ret ?_; simp only [thenA, blockA, RetQ])
      | (refine ev_nil (hK _ ?_); clear hK K)
      | refine ev_guardU _ (by (simp only [go_sem]; rfl)) (by (simp only [go_sem]; rfl)) _ (by (simp only [go_sem]; rfl)) ?_
      | (refine ev_guardT _ _ (by (simp only [go_sem]; rfl)) (by (simp only [go_sem]; rfl)) ?_ ?_ <;> (intro hb; first | (cases hb; done) | (have ht : true = true := hb; clear ht hb) | (have ht : false = false := hb; clear ht hb) | (simp only [hb]) | skip))
      | (refine ev_guardF _ _ (by (simp only [go_sem]; rfl)) (by (simp only [go_sem]; rfl)) ?_ ?_ <;> (intro hb; first | (cases hb; done) | (have ht : true = true := hb; clear ht hb) | (have ht : false = false := hb; clear ht hb) | (simp only [hb]) | skip))
      | refine ev_step0 _ _ (by (simp only [go_sem]; rfl)) (by (first | trivial | decide | (simp only [inB, sliceOk, appendOk, rowsOk]; omega) | (simp [inB, sliceOk, appendOk, rowsOk]; omega))) _ (by (simp only [go_sem]; rfl)) ?_
      | (refine ev_step _ (by (simp only [go_sem]; rfl)) (by (first | trivial | decide | (simp only [inB, sliceOk, appendOk, rowsOk]; omega) | (simp [inB, sliceOk, appendOk, rowsOk]; omega))) _ (fun g u => by (simp only [go_sem]; rfl)) ?_; intro g u; (try clear u); (try clear g))
      | fail
    refine ev_nil ?_
    refine (Wk.box 5 (g := g) (cs := [.d (.lit (.slice none 0 0)), .d (ints (joinL x y))]) (cs' := [.own 60 (.slice none 0 0), .d (ints (joinL x y))]) rfl ⟨LeA.lit_own _ _, LeA.refl _, trivial⟩).trans ?_
    simp only [List.set_cons_succ, List.set_cons_zero]
    refine Wk.mk ?_ ?_
    · all_goals (repeat' first | exact trivial | exact LeA.refl _ | exact LeA.any _ | refine ⟨?_, ?_⟩)
    · all_goals (repeat' first | exact trivial | exact LeO.refl _ | exact LeO.nil _ _ _ | exact LeO.no _ | refine ⟨?_, ?_⟩)
  have hs3 := hK _ _ hs2
  have h19 := Act.eval_of hs3 19 rfl
  have h21 := Act.eval_of hs3 21 rfl
  have hsz := hs3.size
  refine ops_call rfl ⟨Try.f55, Try.func55, by kernel_rfl, rfl⟩ ?_
  refine (f55_calls a b w2 _ (fun x hx => hs3.lt_C hx) _ (by simp only [List.map_cons, List.map_nil, HasL]; exact ⟨h19, h21, trivial⟩)).mono ?_
  rintro e w3 ⟨v, rfl, ga, gb, ta, tb, va, vb, C', rfl, hbel, hga, hgb, hne, h1, h2, hCC, hC', ra, rb⟩
  refine ⟨_, rfl, ?_⟩
  refine ops_end (by decide) ?_
  have hit := f69_iter hne (fun x hx => (hC' x hx).2) h1 h2 ra rb
  obtain ⟨hs4, hC4⟩ := hs3.take_two hbel hga hgb hne h1 h2
  have hit4 := hit.of_le fun z hz => hC4 z (hC' z hz).1 (hC' z hz).2.1 (hC' z hz).2.2
  have hs5 := hs4.put (some 22) (av := .d (.lit (.func (.func 69) #[] #[.pointer (some ⟨ga, 0, none⟩), .pointer (some ⟨gb, 0, none⟩)]))) (v := .func (.func 69) #[] #[.pointer (some ⟨ga, 0, none⟩), .pointer (some ⟨gb, 0, none⟩)]) (by simp only [Has, Rep]; exact ⟨trivial, rfl⟩)
  simp only [St.put, List.set_cons_succ, List.set_cons_zero, tl2, List.cons_append, List.nil_append] at hs5
  refine wpIn_block ?_
  generalize a2.put (some 22) (.func (.func 69) #[] #[.pointer (some ⟨ga, 0, none⟩), .pointer (some ⟨gb, 0, none⟩)]) = a5 at *
  have h22 := has_lit (Act.eval_of hs5 22 rfl)
  refine wp_rangeFunc (gf := 69) (lb := #[.pointer (some ⟨ga, 0, none⟩), .pointer (some ⟨gb, 0, none⟩)]) (av := fun n : Nm => .agg (nm n.1 n.2)) (enc := encN) (xs := uniL a b)
    (base0 := [.no, .no, .box g2 (rep a x), .box g3 (rep b y), .box g4 [.d (.lit (.slice none 0 0)), .d (.lit (.slice none 0 0))], .box g [.own 60 (.slice none 0 0), .d (ints (joinL x y))], .no, .no, .no, .no, .no, .no, .no, .no, .no, .no, .no, .no, .no, .no, .no, .no, .no, .no, .no, .no, .no, .no, .no, .no, .no, .no, .no, .no, .no, .no, .no, .no, .no, .no, .no, .no, .no, .no, .no, .no, .no, .no, .no, .no, .no, .no, .no, .no, .no, .no, .no, .no, .no, .no, .row (.slice none 0 0) 25 2 [], .no, .no])
    has_encN rfl rfl hs5 h22 (fun args w => run_callFunc (E := ⟨Try.prog, w, C, two ga gb, none, []⟩) ⟨Try.f69, Try.func69, by kernel_rfl, rfl⟩) hit4
    (fun pre base => ∃ v, base = [.no, .no, .box g2 (rep a x), .box g3 (rep b y), .box g4 [.d (.lit (.slice none 0 0)), .d (.lit (.slice none 0 0))], .box g [.own 60 v, .d (ints (joinL x y))], .no, .no, .no, .no, .no, .no, .no, .no, .no, .no, .no, .no, .no, .no, .no, .no, .no, .no, .no, .no, .no, .no, .no, .no, .no, .no, .no, .no, .no, .no, .no, .no, .no, .no, .no, .no, .no, .no, .no, .no, .no, .no, .no, .no, .no, .no, .no, .no, .no, .no, .no, .no, .no, .no, .row v 25 2 ((pre.filter (keepJ a x b y)).map fun n => [.lit (.int .i64 n.1), .lit (.int .i64 n.2)]), .no, .no]) ⟨_, rfl⟩ ?_ ?_
  · rintro ⟨P', w1, C1, M1, rd1, df1⟩ l D xa xb L L' pre z base hP hrd ⟨v, rfl⟩ hpre
    simp only at hP
    subst hP
    have hpl := hpre.length_le
    have hul := uniL_length a b
    have hfl := List.length_filter_le (keepJ a x b y) pre
    simp only [List.length_append, List.length_cons, List.length_nil, Nat.zero_add] at hpl
    generalize hrows : pre.filter (keepJ a x b y) = rows at *
    simp only [tl4, litI, litB, litS, List.set_cons_succ, List.set_cons_zero, List.cons_append, List.nil_append]
    repeat' first
      | refine awp_seq ?_
      | refine awp_block ?_
      | refine awp_skip ?_
      | (refine reg _ (by (simp only [List.map_cons, List.map_nil]; rfl)) rfl ?_; intro K hK)
      | (refine awp_cond _ (by rfl) ?_ ?_ <;> (intro hb; first | (cases hb; done) | (have ht : true = true := hb; clear ht hb) | (have ht : false = false := hb; clear ht hb) | (simp only [hb]) | skip))
      | (refine awp_exit ?_; simp only [thenA, blockA, reduceIte, RetQ, Nat.reduceEqDiff])
      | (refine awp_ret ?_; simp only [thenA, blockA, RetQ])
      | (refine ev_nil (hK _ ?_); clear hK K)
      | refine ev_guardU _ (by (simp only [go_sem]; rfl)) (by (simp only [go_sem]; rfl)) _ (by (simp only [go_sem]; rfl)) ?_
      | (refine ev_guardT _ _ (by (simp only [go_sem]; rfl)) (by (simp only [go_sem]; rfl)) ?_ ?_ <;> (intro hb; first | (cases hb; done) | (have ht : true = true := hb; clear ht hb) | (have ht : false = false := hb; clear ht hb) | (simp only [hb]) | skip))
      | (refine ev_guardF _ _ (by (simp only [go_sem]; rfl)) (by (simp only [go_sem]; rfl)) ?_ ?_ <;> (intro hb; first | (cases hb; done) | (have ht : true = true := hb; clear ht hb) | (have ht : false = false := hb; clear ht hb) | (simp only [hb]) | skip))
      | refine ev_step0 _ _ (by (simp only [go_sem]; rfl)) (by (first | trivial | decide | (simp only [inB, sliceOk, appendOk, rowsOk]; omega) | (simp [inB, sliceOk, appendOk, rowsOk]; omega))) _ (by (simp only [go_sem]; rfl)) ?_
      | (refine ev_step _ (by (simp only [go_sem]; rfl)) (by (first | trivial | decide | (simp only [inB, sliceOk, appendOk, rowsOk]; omega) | (simp [inB, sliceOk, appendOk, rowsOk]; omega))) _ (fun g u => by (simp only [go_sem]; rfl)) ?_; intro g u; (try clear u); (try clear g))
      | fail
    refine ⟨_, _, split_base 63 rfl, ?_⟩
    simp only [List.take_succ_cons, List.take_zero, List.cons_append, List.nil_append]
    repeat' first
      | refine awp_seq ?_
      | refine awp_block ?_
      | refine awp_skip ?_
      | (refine reg _ (by (simp only [List.map_cons, List.map_nil]; rfl)) rfl ?_; intro K hK)
      | (refine awp_cond _ (by rfl) ?_ ?_ <;> (intro hb; first | (cases hb; done) | (have ht : true = true := hb; clear ht hb) | (have ht : false = false := hb; clear ht hb) | (simp only [hb]) | skip))
      | (refine awp_exit ?_; simp only [thenA, blockA, reduceIte, RetQ, Nat.reduceEqDiff])
      | (refine awp_ret ?_; simp only [thenA, blockA, RetQ])
      | (refine ev_nil (hK _ ?_); clear hK K)
      | refine ev_guardU _ (by (simp only [go_sem]; rfl)) (by (simp only [go_sem]; rfl)) _ (by (simp only [go_sem]; rfl)) ?_
      | (refine ev_guardT _ _ (by (simp only [go_sem]; rfl)) (by (simp only [go_sem]; rfl)) ?_ ?_ <;> (intro hb; first | (cases hb; done) | (have ht : true = true := hb; clear ht hb) | (have ht : false = false := hb; clear ht hb) | (simp only [hb]) | skip))
      | (refine ev_guardF _ _ (by (simp only [go_sem]; rfl)) (by (simp only [go_sem]; rfl)) ?_ ?_ <;> (intro hb; first | (cases hb; done) | (have ht : true = true := hb; clear ht hb) | (have ht : false = false := hb; clear ht hb) | (simp only [hb]) | skip))
      | refine ev_call0 _ _ (by (simp only [go_sem]; rfl)) (by first | exact f71_spec .. | exact f49_spec ..) (by (simp only [go_sem])) _ (by (simp only [go_sem]; rfl)) ?_
      | refine ev_callC _ _ _ _ (by (simp only [go_sem]; rfl)) (by (simp only [go_sem]; rfl)) (by first | exact f71_spec .. | exact f49_spec ..) (by (simp only [go_sem])) _ (by (simp only [go_sem]; rfl)) ?_
      | (apply regD; (case hd => (simp only [List.map_cons, List.map_nil]; rfl)); (case hok => rfl); (case' h => (intro K hK; (repeat' first
        | (apply evd_nil; refine (hK _ ?_); clear hK K)
        | (apply evd_guardU0; (case hj => (simp only [go_sem]; try rfl)); (case hu => (simp only [go_sem])); (case hσ => (simp only [go_sem]; try rfl)))
        | (apply evd_skipT0; (case hj => (simp only [go_sem]; try rfl)); (case hb => (simp only [go_sem]; try rfl)); (case hσ => (simp only [go_sem]; try rfl)))
        | (apply evd_skipF0; (case hj => (simp only [go_sem]; try rfl)); (case hb => (simp only [go_sem]; try rfl)); (case hσ => (simp only [go_sem]; try rfl)))
        | (apply evd_guardU; (case hj => (simp only [go_sem]; try rfl)); (case hu => (simp only [go_sem])); (case hσ => (simp only [go_sem]; try rfl)))
        | (apply evd_skipT; (case hj => (simp only [go_sem]; try rfl)); (case hb => (simp only [go_sem]; try rfl)); (case hσ => (simp only [go_sem]; try rfl)))
        | (apply evd_skipF; (case hj => (simp only [go_sem]; try rfl)); (case hb => (simp only [go_sem]; try rfl)); (case hσ => (simp only [go_sem]; try rfl)))
        | (apply evd_guardT; (case hj => (simp only [go_sem]; try rfl)); (case hb => (simp only [go_sem]; try rfl)); (case' h2 => (intro hb; first | (cases hb; done) | (simp only [hb]) | skip)); (case' h1 => (intro hb; first | (cases hb; done) | (simp only [hb]) | skip)))
        | (apply evd_guardF; (case hj => (simp only [go_sem]; try rfl)); (case hb => (simp only [go_sem]; try rfl)); (case' h2 => (intro hb; first | (cases hb; done) | (simp only [hb]) | skip)); (case' h1 => (intro hb; first | (cases hb; done) | (simp only [hb]) | skip)))
        | (apply evd_call0; (case hi => (simp only [go_sem]; try rfl)); (case hys => (simp only [go_sem]; try rfl)); (case hs => first | exact f71_spec .. | exact f49_spec ..); (case hok => (simp only [go_sem])); (case hw => (simp only [go_sem]; try rfl)); (case hσ => (simp only [go_sem]; try rfl)))
        | (apply evd_callC; (case hf => (simp only [go_sem]; try rfl)); (case hi => (simp only [go_sem]; try rfl)); (case hys => (simp only [go_sem]; try rfl)); (case hs => first | exact f71_spec .. | exact f49_spec ..); (case hok => (simp only [go_sem])); (case hw => (simp only [go_sem]; try rfl)); (case hσ => (simp only [go_sem]; try rfl)))
        | (apply evd_step0; (case hr => (simp only [go_sem]; try rfl)); (case hi => (simp only [go_sem]; try rfl)); (case hc => (first | trivial | decide | (simp only [inB, sliceOk, appendOk, rowsOk]; omega) | (simp [inB, sliceOk, appendOk, rowsOk]; omega))); (case hσ => (simp only [go_sem]; try rfl)))
        | (apply evd_step; (case hr => (simp only [go_sem]; try rfl)); (case hi => (simp only [go_sem]; try rfl)); (case hc => (first | trivial | decide | (simp only [inB, sliceOk, appendOk, rowsOk]; omega) | (simp [inB, sliceOk, appendOk, rowsOk]; omega))); (case hw => (intro g u; simp only [go_sem]; try rfl)); (case hσ => (intro g u; simp only [go_sem]; try rfl)); (case' hk => (intro g u; (try clear u); (try clear g))))
        | fail))); (case hB => kernel_rfl))
      | refine ev_step0 _ _ (by (simp only [go_sem]; rfl)) (by (first | trivial | decide | (simp only [inB, sliceOk, appendOk, rowsOk]; omega) | (simp [inB, sliceOk, appendOk, rowsOk]; omega))) _ (by (simp only [go_sem]; rfl)) ?_
      | (refine ev_step _ (by (simp only [go_sem]; rfl)) (by (first | trivial | decide | (simp only [inB, sliceOk, appendOk, rowsOk]; omega) | (simp [inB, sliceOk, appendOk, rowsOk]; omega))) _ (fun g u => by (simp only [go_sem]; rfl)) ?_; intro g u; (try clear u); (try clear g))
      | fail
    all_goals first
      | (have hk : keepJ a x b y z = true := by (simp only [keepJ, isIn]; simp [*])
         have hf : (pre ++ [z]).filter (keepJ a x b y) = rows ++ [z] := by rw [List.filter_append, hrows]; simp [hk]
         refine ⟨rfl, [.any, .any, .any, .any, .any, .any, .any, .any, .any, .any, .any, .any, .any, .any, .any, .any, .any, .any, .any, .any, .any, .any, .any, .any, .any, .any, .any, .any, .any, .any, .any, .any, .any, .any, .any, .any, .any, .any, .any, .any, .any, .any, .any, .any, .any, .any, .any, .any, .any, .any, .any, .any, .any, .any, .any, .any, .any, .any, .any, .any, .any, .any, .any], _, ⟨u, rfl⟩, ?_⟩
         simp only [hf, List.cons_append, List.nil_append, List.map_append, List.map_cons, List.map_nil]
         refine Wk.mk ?_ ?_
         all_goals (repeat' first | exact trivial | exact LeA.refl _ | exact LeA.any _ | exact LeO.refl _ | exact LeO.no _ | refine ⟨?_, ?_⟩))
      | (have hk : keepJ a x b y z = false := by (simp only [keepJ, isIn]; simp [*])
         have hf : (pre ++ [z]).filter (keepJ a x b y) = rows := by rw [List.filter_append, hrows]; simp [hk]
         refine ⟨rfl, [.any, .any, .any, .any, .any, .any, .any, .any, .any, .any, .any, .any, .any, .any, .any, .any, .any, .any, .any, .any, .any, .any, .any, .any, .any, .any, .any, .any, .any, .any, .any, .any, .any, .any, .any, .any, .any, .any, .any, .any, .any, .any, .any, .any, .any, .any, .any, .any, .any, .any, .any, .any, .any, .any, .any, .any, .any, .any, .any, .any, .any, .any, .any], _, ⟨v, rfl⟩, ?_⟩
         simp only [hf, List.cons_append, List.nil_append]
         refine Wk.mk ?_ ?_
         all_goals (repeat' first | exact trivial | exact LeA.refl _ | exact LeA.any _ | exact LeO.refl _ | exact LeO.no _ | refine ⟨?_, ?_⟩))
  · rintro l D xa xb L base ⟨v, rfl⟩ a6 w6 hs6
    refine awq_go (E := ⟨Try.prog, w, C, fun _ => False, none, [{ target := .collected D, args := #[] }]⟩) rfl hs6 ?_
    simp only [tl4, List.cons_append, List.nil_append]
    repeat' first
      | (refine awq_seq ?_)
      | refine awq_block ?_
      | refine awp_seq ?_
      | refine awp_block ?_
      | refine awp_skip ?_
      | (refine reg _ (by (simp only [List.map_cons, List.map_nil]; rfl)) rfl ?_; intro K hK)
      | (refine awp_cond _ (by rfl) ?_ ?_ <;> (intro hb; first | (cases hb; done) | (have ht : true = true := hb; clear ht hb) | (have ht : false = false := hb; clear ht hb) | (simp only [hb]) | skip))
      | (refine awp_exit ?_; simp only [thenA, blockA, reduceIte, RetQ, Nat.reduceEqDiff])
      | (refine awp_ret ?_; simp only [thenA, blockA, RetQ])
      | (refine ev_nil (hK _ ?_); clear hK K)
      | refine ev_guardU _ (by (simp only [go_sem]; rfl)) (by (simp only [go_sem]; rfl)) _ (by (simp only [go_sem]; rfl)) ?_
      | (refine ev_guardT _ _ (by (simp only [go_sem]; rfl)) (by (simp only [go_sem]; rfl)) ?_ ?_ <;> (intro hb; first | (cases hb; done) | (have ht : true = true := hb; clear ht hb) | (have ht : false = false := hb; clear ht hb) | (simp only [hb]) | skip))
      | (refine ev_guardF _ _ (by (simp only [go_sem]; rfl)) (by (simp only [go_sem]; rfl)) ?_ ?_ <;> (intro hb; first | (cases hb; done) | (have ht : true = true := hb; clear ht hb) | (have ht : false = false := hb; clear ht hb) | (simp only [hb]) | skip))
      | refine ev_step0 _ _ (by (simp only [go_sem]; rfl)) (by (first | trivial | decide | (simp only [inB, sliceOk, appendOk, rowsOk]; omega) | (simp [inB, sliceOk, appendOk, rowsOk]; omega))) _ (by (simp only [go_sem]; rfl)) ?_
      | (refine ev_step _ (by (simp only [go_sem]; rfl)) (by (first | trivial | decide | (simp only [inB, sliceOk, appendOk, rowsOk]; omega) | (simp [inB, sliceOk, appendOk, rowsOk]; omega))) _ (fun g u => by (simp only [go_sem]; rfl)) ?_; intro g u; (try clear u); (try clear g))
      | fail
    refine awq_ret ?_
    intro a7 w7 hs7
    refine leaves_marks (i := 65) rfl rfl hs7 (r := .agg (rep (joinT a x b y) (joinL x y))) ?_ fun v w' k1 k2 => ⟨v, rfl, ⟨k1.os, k1.tape, k1.output, k1.size, fun k hk => k1.block k hk (fun h => h)⟩, ?_⟩
    · all_goals (refine resR_one T_ok rfl _ (by (simp only [go_sem, resA]; rfl)) (by first | trivial | (simp only [go_sem, resA])) (by first | trivial | (simp only [go_sem])) ?_; simp only [go_sem])
      exact LeA.refl _
    · have hle : MemLe ⟨w'.heap, fun b => C b ∨ ((w.heap.size ≤ b ∨ False) ∧ b < w'.heap.size)⟩ ⟨w'.heap, fun b => C b ∨ (w.heap.size ≤ b ∧ b < w'.heap.size)⟩ :=
        ⟨fun b hb => hb.imp id fun h => ⟨h.1.resolve_right (fun h => h), h.2⟩, fun _ _ => rfl⟩
      exact Has.mono hle _ _ k2
end
section
set_option linter.unusedVariables false
set_option linter.unusedSimpArgs false
open Go.RowKit
attribute [local irreducible] AWp evOps evD AWq Ops
theorem idxN_ge (p : Nm → Bool) : ∀ (l : List Nm) (k : Nat), idxN p l k = -1 ∨ (k : Int) ≤ idxN p l k
  | [], k => .inl rfl
  | a :: l, k => by
    simp only [idxN]
    split
    · exact .inr (Int.le_refl _)
    · rcases idxN_ge p l (k + 1) with h | h
      · exact .inl h
      · exact .inr (by omega)
theorem idxN_none (p : Nm → Bool) : ∀ (l : List Nm) (k : Nat), idxN p l k = -1 → l.filter (fun n => !p n) = l
  | [], _, _ => rfl
  | a :: l, k, h => by
    simp only [idxN] at h
    split at h
    · omega
    · rename_i ha
      have := idxN_none p l (k + 1) h
      simp only [Bool.not_eq_true] at ha
      simp [ha, this]
theorem idxN_some (p : Nm → Bool) : ∀ (l : List Nm) (k : Nat), idxN p l k ≠ -1 → ∃ j, idxN p l k = ((k + j : Nat) : Int) ∧ j < l.length ∧ (l.take (j + 1)).filter (fun n => !p n) = l.take j
  | [], _, h => absurd rfl h
  | a :: l, k, h => by
    simp only [idxN] at h ⊢
    by_cases ha : p a = true
    · rw [if_pos ha] at h ⊢
      exact ⟨0, by simp, by simp, by simp [ha]⟩
    · rw [if_neg ha] at h ⊢
      obtain ⟨j, h1, h2, h3⟩ := idxN_some p l (k + 1) h
      refine ⟨j + 1, by rw [h1]; congr 1; omega, by simp; omega, ?_⟩
      simp only [Bool.not_eq_true] at ha
      simp [ha, h3]
/-- How far the row is while elements are moved down. -/
structure DelI (p : Nm → Bool) (l : List Nm) (i j : Nat) (L : List Nm) : Prop where
  len : L.length = l.length
  hi : i ≤ l.length
  hj : j < i
  keep : L.take j = (l.take i).filter fun n => !p n
  rest : L.drop i = l.drop i
theorem DelI.skip {p : Nm → Bool} {l L : List Nm} {i j : Nat} (h : DelI p l i j L) (hi : i < l.length) (hp : p (l.getD i (0, 0)) = true) : DelI p l (i + 1) j L := by
  have hx : l[i]? = some (l.getD i (0, 0)) := by rw [List.getD_eq_getElem?_getD, List.getElem?_eq_getElem hi]; rfl
  generalize l.getD i (0, 0) = x at *
  refine ⟨h.len, hi, by have := h.hj; omega, ?_, ?_⟩
  · rw [h.keep, List.take_add_one, hx]
    simp [List.filter_append, hp]
  · rw [← List.drop_drop, ← List.drop_drop, h.rest]
theorem DelI.move {p : Nm → Bool} {l L : List Nm} {i j : Nat} (h : DelI p l i j L) (hi : i < l.length) (hp : p (l.getD i (0, 0)) = false) : DelI p l (i + 1) (j + 1) (L.set j (l.getD i (0, 0))) := by
  have hx : l[i]? = some (l.getD i (0, 0)) := by rw [List.getD_eq_getElem?_getD, List.getElem?_eq_getElem hi]; rfl
  have hj := h.hj
  have hl := h.len
  generalize l.getD i (0, 0) = x at *
  refine ⟨by rw [List.length_set, hl], hi, by omega, ?_, ?_⟩
  · rw [List.take_add_one, List.getElem?_set_self (by omega), List.take_set_of_le (Nat.le_refl _), h.keep, List.take_add_one, hx]
    simp [List.filter_append, hp]
  · rw [List.drop_set_of_lt (by omega), ← List.drop_drop, ← List.drop_drop, h.rest]
theorem DelI.get {p : Nm → Bool} {l L : List Nm} {i j : Nat} (h : DelI p l i j L) (hi : i < l.length) : L.getD i (0, 0) = l.getD i (0, 0) := by
  have h1 : L[i]? = l[i]? := by
    have := congrArg (·[0]?) h.rest
    simpa using this
  rw [List.getD_eq_getElem?_getD, List.getD_eq_getElem?_getD, h1]
abbrev nmR (l : List Nm) : List (List Dat) := l.map fun n => [.lit (.int .i64 n.1), .lit (.int .i64 n.2)]
abbrev delS (va : Value) (caps : List AV) (f : Nat) (l : List Nm) (i j : Nat) (L : List Nm) : St := ⟨[.own 42 va, .clo (.func f) caps, .any, .any, .d (.lit (.slice none 0 0)), litI .i64 j, litI .i64 i, .any, .any, .any, .any, .any, .any, .any, .any, .any, .any, .any, .any, .any, .any, .any, .any, .any, .any, .any, .any, .any, .any, .any, .any, .any, .any, .any, .any, .any, .any, .any, .any, .any, .any, .any], [.no, .no, .no, .no, .no, .no, .no, .no, .no, .no, .no, .no, .no, .no, .no, .no, .no, .no, .no, .no, .no, .no, .no, .no, .no, .no, .no, .no, .no, .no, .no, .no, .no, .no, .no, .no, .no, .no, .no, .no, .no, .no, .row va 25 2 (nmR L)]⟩
theorem valsN_take : ∀ (L : List Nm) (j : Nat), (valsN L).take (j * 2) = valsN (L.take j)
  | L, 0 => by simp [valsN]
  | [], j + 1 => by simp [valsN]
  | n :: L, j + 1 => by
    have h1 : valsN (n :: L) = .int .i64 n.1 :: .int .i64 n.2 :: valsN L := rfl
    have h2 : valsN ((n :: L).take (j + 1)) = .int .i64 n.1 :: .int .i64 n.2 :: valsN (L.take j) := rfl
    rw [h1, h2, show (j + 1) * 2 = j * 2 + 1 + 1 from by omega, List.take_succ_cons, List.take_succ_cons, valsN_take L j]
def FiltAt (C : Nat → Prop) (g : Nat) (w w' : World) (l : List Nm) (v : Value) : Prop :=
  Fr (fun b => b = g) w w' ∧ Has ⟨w'.heap, fun b => C b ∨ ((w.heap.size ≤ b ∨ b = g) ∧ b < w'.heap.size)⟩ (.d (nms l)) v
set_option maxRecDepth 4000 in
set_option maxHeartbeats 4000000 in
theorem f56_calls {w : World} {C : Nat → Prop} {g : Nat} {va fv : Value} {f : Nat} {caps : List AV} (hcl : ∀ o, clL o caps = caps) (hck : ∀ o, clOkL o caps = True) (hci : idsOfL caps = []) (l : List Nm) (p : Nm → Bool) (hl : l.length ≤ 16777216)
    (hp : ∀ n : Nm, Spec Try.prog f ([.agg (nm n.1 n.2)] ++ caps) (litB (p n))) (hC : ∀ x, C x → x < w.heap.size ∧ ¬ x = g) (hfv : Has ⟨w.heap, C⟩ (.clo (.func f) caps) fv) (hob : ObjAt ⟨w.heap, C⟩ (.row va 25 2 (nmR l))) (hblk : va.ownBlock = some g) (hg : g < w.heap.size) :
    Calls Try.prog 56 #[va, fv] w fun e w' => ∃ v, e = .returned v ∧ FiltAt C g w w' (l.filter fun n => !p n) v := by
  have hfn := IsFn.clo f caps hcl hck hci
  have h67 := f67_spec hfn l p hp
  have hcl := hfn.cl
  have hok := hfn.ok
  have hids := hfn.ids
  refine (callsIn_wide (n := 0)).1 (callsIn_of_wp (fn := Try.f56) Try.func56 rfl trivial ?_)
  have hs : Sat ⟨Try.prog, w, C, fun b => b = g, none, []⟩ (⟨[.own 42 va, .clo (.func f) caps, .any, .any, .any, .any, .any, .any, .any, .any, .any, .any, .any, .any, .any, .any, .any, .any, .any, .any, .any, .any, .any, .any, .any, .any, .any, .any, .any, .any, .any, .any, .any, .any, .any, .any, .any, .any, .any, .any, .any, .any], [.no, .no, .no, .no, .no, .no, .no, .no, .no, .no, .no, .no, .no, .no, .no, .no, .no, .no, .no, .no, .no, .no, .no, .no, .no, .no, .no, .no, .no, .no, .no, .no, .no, .no, .no, .no, .no, .no, .no, .no, .no, .no, .row va 25 2 (nmR l)]⟩) { tmps := #[va, fv] ++ Array.replicate (42 - 2) undef, defers := [] } w := by
    refine sat_start (P := Try.prog) (args := [.own 42 va, .clo (.func f) caps]) (vs := [va, fv]) (n := 42) (holds := [.row va 25 2 (nmR l)]) hC ?_ ?_ ?_
    · simp only [HasL]
      refine ⟨?_, hfv, trivial⟩
      obtain ⟨xs, ⟨_, h2⟩, _⟩ := hob
      simp only [Has]
      refine ⟨trivial, ?_⟩
      rcases h2 with ⟨rfl, _⟩ | ⟨g', cap, cur, rfl, _⟩ <;> rfl
    · intro i x hx
      match i, hx with
      | 0, hx => simp at hx; subst hx; exact ⟨g, hblk, rfl, hg, hob⟩
      | i + 1, hx => simp at hx
    · intro i j x y z hx hy _ _
      match i, j, hx, hy with
      | 0, 0, _, _ => rfl
      | i + 1, _, hx, _ => simp at hx
      | 0, j + 1, _, hy => simp at hy
  refine awq_go (E := ⟨Try.prog, w, C, fun b => b = g, none, []⟩) rfl hs ?_
  rcases Int.decEq (idxN p l 0) (-1) with hne | heq
  · obtain ⟨j0, hidx, hj0, hfil⟩ := idxN_some p l 0 hne
    rw [Nat.zero_add] at hidx
    rw [hidx] at h67
    have hm1 : (((j0 : Nat) : Int) == -1) = false := by simp
    repeat' first
      | ((fail_if_success show AWq _ (Code.seq (Code.region 11 _ _) _) _ _); refine awq_seq ?_)
      | refine awq_block ?_
      | refine awp_seq ?_
      | refine awp_block ?_
      | refine awp_skip ?_
      | (refine reg _ (by (simp only [List.map_cons, List.map_nil]; rfl)) rfl ?_; intro K hK)
      | (refine awp_cond _ (by rfl) ?_ ?_ <;> (intro hb; first | (cases hb; done) | (have ht : true = true := hb; clear ht hb) | (have ht : false = false := hb; clear ht hb) | (simp only [hb]) | skip))
      | (refine awp_exit ?_; simp only [thenA, blockA, reduceIte, RetQ, Nat.reduceEqDiff])
      | (refine awp_ret ?_; simp only [thenA, blockA, RetQ])
      | (refine ev_nil (hK _ ?_); clear hK K)
      | refine ev_guardU _ (by (simp only [go_sem, hcl, hok, hids, hm1]; rfl)) (by (simp only [go_sem, hcl, hok, hids, hm1]; rfl)) _ (by (simp only [go_sem, hcl, hok, hids, hm1]; rfl)) ?_
      | (refine ev_guardT _ _ (by (simp only [go_sem, hcl, hok, hids, hm1]; rfl)) (by (simp only [go_sem, hcl, hok, hids, hm1]; rfl)) ?_ ?_ <;> (intro hb; first | (cases hb; done) | (have ht : true = true := hb; clear ht hb) | (have ht : false = false := hb; clear ht hb) | (simp only [hb]) | skip))
      | (refine ev_guardF _ _ (by (simp only [go_sem, hcl, hok, hids, hm1]; rfl)) (by (simp only [go_sem, hcl, hok, hids, hm1]; rfl)) ?_ ?_ <;> (intro hb; first | (cases hb; done) | (have ht : true = true := hb; clear ht hb) | (have ht : false = false := hb; clear ht hb) | (simp only [hb]) | skip))
      | refine ev_call0 _ _ (by (simp only [go_sem, hcl, hok, hids, hm1]; rfl)) (by first | exact h67 ..) (by (simp only [go_sem, hcl, hok, hids, hm1])) _ (by (simp only [go_sem, hcl, hok, hids, hm1]; rfl)) ?_
      | refine ev_callC _ _ _ _ (by (simp only [go_sem, hcl, hok, hids, hm1]; rfl)) (by (simp only [go_sem, hcl, hok, hids, hm1]; rfl)) (by first | exact h67 ..) (by (simp only [go_sem, hcl, hok, hids, hm1])) _ (by (simp only [go_sem, hcl, hok, hids, hm1]; rfl)) ?_
      | refine ev_step0 _ _ (by (simp only [go_sem, hcl, hok, hids, hm1]; rfl)) (by (first | trivial | decide | (simp only [inB, sliceOk, appendOk, rowsOk]; omega) | (simp [inB, sliceOk, appendOk, rowsOk]; omega))) _ (by (simp only [go_sem, hcl, hok, hids, hm1]; rfl)) ?_
      | (refine ev_step _ (by (simp only [go_sem, hcl, hok, hids, hm1]; rfl)) (by (first | trivial | decide | (simp only [inB, sliceOk, appendOk, rowsOk]; omega) | (simp [inB, sliceOk, appendOk, rowsOk]; omega))) _ (fun g u => by (simp only [go_sem, hcl, hok, hids, hm1]; rfl)) ?_; intro g u; (try clear u); (try clear g))
      | fail
    have h0 : DelI p l (j0 + 1) j0 l := ⟨rfl, hj0, Nat.lt_succ_self _, hfil.symm, rfl⟩
    refine awp_loopI (fun i : Nat × Nat × List Nm => DelI p l i.1 i.2.1 i.2.2) (fun i => l.length - i.1) (fun i => delS va caps f l i.1 i.2.1 i.2.2) (j0 + 1, j0, l) h0 ?_ ?_
    · refine Wk.mk ?_ ?_
      all_goals (repeat' first | exact trivial | exact LeA.refl _ | exact LeA.any _ | exact LeO.refl _ | exact LeO.no _ | exact LeA.nil _ | (refine LeA.i ?_; (first | rfl | (push_cast; rfl) | (rw [wrap_id (by omega)]; push_cast; omega) | (simp [wrap_id]; omega))) | refine ⟨?_, ?_⟩)
    rintro ⟨i, j, L⟩ hI
    simp only at hI
    simp only [delS, litI, litB]
    have hll := hI.len
    have hii := hI.hi
    have hjj := hI.hj
    by_cases hlt : i < L.length
    rotate_left
    have hdec : decide ((i : Int) < (L.length : Int)) = false := by simp; omega
    · repeat' first
        | ((fail_if_success show AWq _ (Code.seq (Code.region 11 _ _) _) _ _); refine awq_seq ?_)
        | refine awq_block ?_
        | refine awp_seq ?_
        | refine awp_block ?_
        | refine awp_skip ?_
        | (refine reg _ (by (simp only [List.map_cons, List.map_nil]; rfl)) rfl ?_; intro K hK)
        | (refine awp_cond _ (by rfl) ?_ ?_ <;> (intro hb; first | (cases hb; done) | (have ht : true = true := hb; clear ht hb) | (have ht : false = false := hb; clear ht hb) | (simp only [hb]) | skip))
        | (refine awp_exit ?_; simp only [thenA, blockA, reduceIte, RetQ, Nat.reduceEqDiff])
        | (refine awp_ret ?_; simp only [thenA, blockA, RetQ])
        | (refine ev_nil (hK _ ?_); clear hK K)
        | refine ev_guardU _ (by (simp only [go_sem, hdec]; rfl)) (by (simp only [go_sem, hdec]; rfl)) _ (by (simp only [go_sem, hdec]; rfl)) ?_
        | (refine ev_guardT _ _ (by (simp only [go_sem, hdec]; rfl)) (by (simp only [go_sem, hdec]; rfl)) ?_ ?_ <;> (intro hb; first | (cases hb; done) | (have ht : true = true := hb; clear ht hb) | (have ht : false = false := hb; clear ht hb) | (simp only [hb]) | skip))
        | (refine ev_guardF _ _ (by (simp only [go_sem, hdec]; rfl)) (by (simp only [go_sem, hdec]; rfl)) ?_ ?_ <;> (intro hb; first | (cases hb; done) | (have ht : true = true := hb; clear ht hb) | (have ht : false = false := hb; clear ht hb) | (simp only [hb]) | skip))
        | refine ev_step0 _ _ (by (simp only [go_sem, hdec]; rfl)) (by (first | trivial | decide | (simp only [inB, sliceOk, appendOk, rowsOk]; omega) | (simp [inB, sliceOk, appendOk, rowsOk]; omega))) _ (by (simp only [go_sem, hdec]; rfl)) ?_
        | (refine ev_step _ (by (simp only [go_sem, hdec]; rfl)) (by (first | trivial | decide | (simp only [inB, sliceOk, appendOk, rowsOk]; omega) | (simp [inB, sliceOk, appendOk, rowsOk]; omega))) _ (fun g u => by (simp only [go_sem, hdec]; rfl)) ?_; intro g u; (try clear u); (try clear g))
        | fail
      refine awq_ops ?_
      intro a1 w1 hs1
      refine ops_step (K := fun s => Wk ⟨Try.prog, w, C, fun b => b = g, none, []⟩ s (⟨[.own 42 va, .any, .any, .any, .any, litI .i64 j, .any, .any, .any, .any, .any, .any, .any, .any, .any, .any, .any, .any, .any, .any, .any, .any, .any, .any, .any, .any, .any, .any, .any, .any, .any, .any, .any, .any, .any, .any, .own 42 va, litI .i64 j, .any, .any, .any, .any], [.no, .no, .no, .no, .no, .no, .no, .no, .no, .no, .no, .no, .no, .no, .no, .no, .no, .no, .no, .no, .no, .no, .no, .no, .no, .no, .no, .no, .no, .no, .no, .no, .no, .no, .no, .no, .no, .no, .no, .no, .no, .no, .row va 25 2 (nmR L)]⟩)) T_ok 2 hs1 (by decide) rfl ?_ fun s a2 w2 hK hs2 => ?_
      · repeat' first
          | refine awp_seq ?_
          | refine awp_block ?_
          | refine awp_skip ?_
          | (refine reg _ (by (simp only [List.map_cons, List.map_nil]; rfl)) rfl ?_; intro K hK)
          | (refine awp_cond _ (by rfl) ?_ ?_ <;> (intro hb; first | (cases hb; done) | (have ht : true = true := hb; clear ht hb) | (have ht : false = false := hb; clear ht hb) | (simp only [hb]) | skip))
          | (refine awp_exit ?_; simp only [thenA, blockA, reduceIte, RetQ, Nat.reduceEqDiff])
          | (refine awp_ret ?_; simp only [thenA, blockA, RetQ])
          | (refine ev_nil (hK _ ?_); clear hK K)
          | refine ev_guardU _ (by (simp only [go_sem]; rfl)) (by (simp only [go_sem]; rfl)) _ (by (simp only [go_sem]; rfl)) ?_
          | (refine ev_guardT _ _ (by (simp only [go_sem]; rfl)) (by (simp only [go_sem]; rfl)) ?_ ?_ <;> (intro hb; first | (cases hb; done) | (have ht : true = true := hb; clear ht hb) | (have ht : false = false := hb; clear ht hb) | (simp only [hb]) | skip))
          | (refine ev_guardF _ _ (by (simp only [go_sem]; rfl)) (by (simp only [go_sem]; rfl)) ?_ ?_ <;> (intro hb; first | (cases hb; done) | (have ht : true = true := hb; clear ht hb) | (have ht : false = false := hb; clear ht hb) | (simp only [hb]) | skip))
          | refine ev_step0 _ _ (by (simp only [go_sem]; rfl)) (by (first | trivial | decide | (simp only [inB, sliceOk, appendOk, rowsOk]; omega) | (simp [inB, sliceOk, appendOk, rowsOk]; omega))) _ (by (simp only [go_sem]; rfl)) ?_
          | (refine ev_step _ (by (simp only [go_sem]; rfl)) (by (first | trivial | decide | (simp only [inB, sliceOk, appendOk, rowsOk]; omega) | (simp [inB, sliceOk, appendOk, rowsOk]; omega))) _ (fun g u => by (simp only [go_sem]; rfl)) ?_; intro g u; (try clear u); (try clear g))
          | fail
        refine ev_nil ?_
        refine Wk.mk ?_ ?_
        all_goals (repeat' first | exact trivial | exact LeA.refl _ | exact LeA.any _ | exact LeO.refl _ | exact LeO.no _ | exact LeA.nil _ | (refine LeA.i ?_; (first | rfl | (push_cast; rfl) | (rw [wrap_id (by omega)]; push_cast; omega) | (simp [wrap_id]; omega))) | refine ⟨?_, ?_⟩)
      have hs3 := hK _ _ hs2
      have hiL : i = l.length := by omega
      have hkeep := hI.keep
      rw [hiL, List.take_length] at hkeep
      obtain ⟨cap, cur, hva, hcur, hc1, hc2, hc3, hc4⟩ := rowN_obj (hs3.o 42 _ rfl) hblk
      have h36 := Act.eval_of hs3 36 rfl
      have h37 := has_lit (Act.eval_of hs3 37 rfl)
      have h0v := Act.eval_of hs3 0 rfl
      simp only [Has] at h36 h0v
      have hsz := hs3.size
      have ev36 : a2.eval (.tmp 36) = .slice (some ⟨g, 0, none⟩) L.length cap := by rw [h36.1, hva]
      refine ops_raw rfl rfl (fun c hc => by cases hc) (run_slice_op (E := ⟨Try.prog, w, C, fun b => b = g, none, []⟩) T_ok rfl (by rfl) (by rfl) (by rfl) ev36 (l := j) (h := L.length) (.inr ⟨.i64, by simp only [Option.map_some, h37]⟩) (.inl ⟨rfl, rfl⟩) ⟨by omega, by omega, by omega⟩ hc1) ?_
      have hsl : sliced (some ⟨g, 0, none⟩) ((j : Int)).toNat ((L.length : Int)).toNat cap ((T (T 23).elem).size) = .slice (if cap = j then (some ⟨g, 0, none⟩) else some ⟨g, j * 2, none⟩) (L.length - j) (cap - j) := by
        have e2 : (T (T 23).elem).size = 2 := rfl
        rw [e2]
        simp only [sliced, Int.toNat_natCast]
        split
        · rfl
        · simp [Addr.add_lit]
      rw [hsl]
      have h38 := eval_put_at (a := a2) (d := 38) (v := .slice (if cap = j then (some ⟨g, 0, none⟩) else some ⟨g, j * 2, none⟩) (L.length - j) (cap - j)) (by rw [hsz]; simp)
      generalize hsv : Value.slice (if cap = j then (some ⟨g, 0, none⟩) else some ⟨g, j * 2, none⟩) (L.length - j) (cap - j) = sv at *
      obtain ⟨w3, hcr, hcf, hcg⟩ := run_clear (E := ⟨Try.prog, w, C, fun b => b = g, none, []⟩) T_ok (t := 23) (ty := 0) (n := L.length - j) (c := cap - j) (off := j * 2) rfl rfl rfl rfl hcur (by rw [hc3]; omega) (if cap = j then (some ⟨g, 0, none⟩) else some ⟨g, j * 2, none⟩) (fun h => by rw [if_neg (by omega)])
      refine ops_raw (v := .tuple #[]) (w' := w3) rfl rfl (fun c hc => by cases hc) ?_ ?_
      · rw [hsv] at hcr
        simp [execOp, resolve, invoke, builtin, h38, hcr]
      refine ops_end (by decide) ?_
      have z2 : w.heap.size ≤ w2.heap.size := hs3.fr.size
      have z3 := hcf.size
      have hL' : ((L.take j ++ List.replicate (L.length - j) (0, 0) : List Nm)).length = L.length := by simp; omega
      have hob3 : ObjAt ⟨w3.heap, fun b => C b ∨ ((w.heap.size ≤ b ∨ b = g) ∧ b < w3.heap.size)⟩ (.row va 25 2 (rowsN (L.take j ++ List.replicate (L.length - j) (0, 0)))) := by
        have h := rowN_mk (m := ⟨w3.heap, fun b => C b ∨ ((w.heap.size ≤ b ∨ b = g) ∧ b < w3.heap.size)⟩) (L := (L.take j ++ List.replicate (L.length - j) (0, 0) : List Nm)) hcg (by rw [hL']; exact hc1) hc2 (by simp [setMany, hc3]; omega) ?_
        · rw [hL'] at h
          rw [hva]
          exact h
        · rw [hL', valsN_append, valsN_zero, ← valsN_take, ← hc4]
          have h1 : (cur.toList.take (j * 2) ++ List.replicate ((L.length - j) * 2) (Value.int .i64 0)).length = L.length * 2 := by simp [hc3]; omega
          simp only [setMany]
          rw [← h1, List.take_left, List.take_take, Nat.min_eq_left (by omega)]
      generalize hLL : (L.take j ++ List.replicate (L.length - j) (0, 0) : List Nm) = L3 at *
      have hrep : Rep ⟨w3.heap, fun b => C b ∨ ((w.heap.size ≤ b ∨ b = g) ∧ b < w3.heap.size)⟩ (nms L3) va := by
        refine frz_rep (MemLe.refl _) rfl (fun b hb => ?_) hob3
        rw [hblk] at hb
        cases hb
        exact .inr ⟨.inr rfl, by omega⟩
      have hd3 : ((a2.put (some 38) sv).put none (.tuple #[])).defers = [] := hs3.defers
      have hs4 := Sat.anew (P := Try.prog) (C := fun b => C b ∨ ((w.heap.size ≤ b ∨ b = g) ∧ b < w3.heap.size)) (n := 42) (t := ((List.replicate 42 AV.any).set 5 (litI .i64 j)).set 0 (.d (nms L3))) (w := w3) hd3 (fun b hb => ?_) ?_
      rotate_left
      · rcases hb with hb | hb
        · have := (hC b hb).1; omega
        · exact hb.2
      · have hL0 := hasL_any (m := ⟨w3.heap, fun b => C b ∨ ((w.heap.size ≤ b ∨ b = g) ∧ b < w3.heap.size)⟩) (a2.put (some 38) sv).tmps.toList
        have hn : (a2.put (some 38) sv).tmps.toList.length = 42 := by
          show (a2.tmps.setIfInBounds 38 sv).toList.length = 42
          simp [hsz]
        rw [hn] at hL0
        have get : ∀ i : Nat, i ≠ 38 → i < 42 → (a2.put (some 38) sv).tmps.toList[i]? = some (a2.eval (.tmp i)) := by
          intro i hi hlt
          show (a2.tmps.setIfInBounds 38 sv).toList[i]? = _
          rw [Array.toList_setIfInBounds, List.getElem?_set_ne (Ne.symm hi)]
          simp only [Act.eval, Array.getElem?_toList, Array.getD_eq_getD_getElem?]
          have : i < a2.tmps.size := by rw [hsz]; simpa using hlt
          rw [Array.getElem?_eq_getElem this]; rfl
        have h5 := has_lit (Act.eval_of hs3 5 rfl)
        refine (hL0.upd 5 (get 5 (by decide) (by decide)) ?_).upd 0 (get 0 (by decide) (by decide)) ?_
        · rw [h5]; simp only [litI, Has, Rep]; exact ⟨trivial, rfl⟩
        · rw [h0v.1]; simp only [Has]; exact hrep
      simp only [litI, List.replicate_succ, List.replicate_zero, List.set_cons_succ, List.set_cons_zero] at hs4
      refine awq_go (E := ⟨Try.prog, w3, fun b => C b ∨ ((w.heap.size ≤ b ∨ b = g) ∧ b < w3.heap.size), fun _ => False, none, []⟩) rfl hs4 ?_
      repeat' first
        | (refine awq_seq ?_)
        | refine awq_block ?_
        | refine awp_seq ?_
        | refine awp_block ?_
        | refine awp_skip ?_
        | (refine reg _ (by (simp only [List.map_cons, List.map_nil]; rfl)) rfl ?_; intro K hK)
        | (refine awp_cond _ (by rfl) ?_ ?_ <;> (intro hb; first | (cases hb; done) | (have ht : true = true := hb; clear ht hb) | (have ht : false = false := hb; clear ht hb) | (simp only [hb]) | skip))
        | (refine awp_exit ?_; simp only [thenA, blockA, reduceIte, RetQ, Nat.reduceEqDiff])
        | (refine awp_ret ?_; simp only [thenA, blockA, RetQ])
        | (refine ev_nil (hK _ ?_); clear hK K)
        | refine ev_guardU _ (by (simp only [go_sem]; rfl)) (by (simp only [go_sem]; rfl)) _ (by (simp only [go_sem]; rfl)) ?_
        | (refine ev_guardT _ _ (by (simp only [go_sem]; rfl)) (by (simp only [go_sem]; rfl)) ?_ ?_ <;> (intro hb; first | (cases hb; done) | (have ht : true = true := hb; clear ht hb) | (have ht : false = false := hb; clear ht hb) | (simp only [hb]) | skip))
        | (refine ev_guardF _ _ (by (simp only [go_sem]; rfl)) (by (simp only [go_sem]; rfl)) ?_ ?_ <;> (intro hb; first | (cases hb; done) | (have ht : true = true := hb; clear ht hb) | (have ht : false = false := hb; clear ht hb) | (simp only [hb]) | skip))
        | refine ev_step0 _ _ (by (simp only [go_sem]; rfl)) (by (first | trivial | decide | (simp only [inB, sliceOk, appendOk, rowsOk]; omega) | (simp [inB, sliceOk, appendOk, rowsOk]; omega))) _ (by (simp only [go_sem]; rfl)) ?_
        | (refine ev_step _ (by (simp only [go_sem]; rfl)) (by (first | trivial | decide | (simp only [inB, sliceOk, appendOk, rowsOk]; omega) | (simp [inB, sliceOk, appendOk, rowsOk]; omega))) _ (fun g u => by (simp only [go_sem]; rfl)) ?_; intro g u; (try clear u); (try clear g))
        | fail
      refine awq_ret ?_
      intro a5 w5 hs5
      have hres := hs5.result (fn := Try.f56) (r := .d (nms (l.filter fun n => !p n))) ?_
      rotate_left
      · all_goals (refine resR_one T_ok rfl _ (by (simp only [go_sem, resA]; rfl)) (by first | trivial | (simp only [go_sem, resA])) (by first | trivial | (simp only [go_sem])) ?_; simp only [go_sem])
        refine LeA.s ?_
        rw [← hLL, ← hkeep]
        have h1 : (L.take j).length = j := by rw [List.length_take]; omega
        rw [List.take_append_of_le_length (by omega), List.take_take, Nat.min_self]
      obtain ⟨v, hv1, hv2⟩ := hres
      have z5 : w3.heap.size ≤ w5.heap.size := hs5.fr.size
      have hle : MemLe ⟨w5.heap, fun b => (C b ∨ ((w.heap.size ≤ b ∨ b = g) ∧ b < w3.heap.size)) ∨ ((w3.heap.size ≤ b ∨ False) ∧ b < w5.heap.size)⟩ ⟨w5.heap, fun b => C b ∨ ((w.heap.size ≤ b ∨ b = g) ∧ b < w5.heap.size)⟩ := by
        refine ⟨fun b hb => ?_, fun _ _ => rfl⟩
        rcases hb with (hb | hb) | hb
        · exact .inl hb
        · exact .inr ⟨hb.1, Nat.lt_of_lt_of_le hb.2 z5⟩
        · refine .inr ⟨.inl ?_, hb.2⟩
          have := hb.1.resolve_right fun h => h
          omega
      exact ⟨hs5.defers, v, hv1, v, rfl, (hs3.fr.trans hcf).trans (hs5.fr.mono fun _ _ h => h.elim), Has.mono hle _ _ hv2⟩
    have hdec : decide ((i : Int) < (L.length : Int)) = true := by simp; omega
    have hx := nms_at L hlt
    have hget := hI.get (by omega)
    have hxj := nms_at L (i := j) (by omega)
    rw [hget] at hx
    have hsk := hI.skip (by omega)
    have hmv := hI.move (by omega)
    generalize l.getD i (0, 0) = x at *
    repeat' first
      | refine awp_seq ?_
      | refine awp_block ?_
      | refine awp_skip ?_
      | (refine reg _ (by (simp only [List.map_cons, List.map_nil]; rfl)) rfl ?_; intro K hK)
      | (refine awp_cond _ (by rfl) ?_ ?_ <;> (intro hb; first | (cases hb; done) | (have ht : true = true := hb; clear ht hb) | (have ht : false = false := hb; clear ht hb) | (simp only [hb]) | skip))
      | (refine awp_exit ?_; simp only [thenA, blockA, reduceIte, RetQ, Nat.reduceEqDiff])
      | (refine awp_ret ?_; simp only [thenA, blockA, RetQ])
      | (refine ev_nil (hK _ ?_); clear hK K)
      | refine ev_guardU _ (by (simp only [go_sem, hdec, hx, hxj, hcl, hok, hids]; rfl)) (by (simp only [go_sem, hdec, hx, hxj, hcl, hok, hids]; rfl)) _ (by (simp only [go_sem, hdec, hx, hxj, hcl, hok, hids]; rfl)) ?_
      | (refine ev_guardT _ _ (by (simp only [go_sem, hdec, hx, hxj, hcl, hok, hids]; rfl)) (by (simp only [go_sem, hdec, hx, hxj, hcl, hok, hids]; rfl)) ?_ ?_ <;> (intro hb; first | (cases hb; done) | (have ht : true = true := hb; clear ht hb) | (have ht : false = false := hb; clear ht hb) | (simp only [hb]) | skip))
      | (refine ev_guardF _ _ (by (simp only [go_sem, hdec, hx, hxj, hcl, hok, hids]; rfl)) (by (simp only [go_sem, hdec, hx, hxj, hcl, hok, hids]; rfl)) ?_ ?_ <;> (intro hb; first | (cases hb; done) | (have ht : true = true := hb; clear ht hb) | (have ht : false = false := hb; clear ht hb) | (simp only [hb]) | skip))
      | refine ev_callFn hfn _ _ (by (simp only [go_sem, hdec, hx, hxj, hcl, hok, hids])) (by (simp only [go_sem, hdec, hx, hxj, hcl, hok, hids]; rfl)) ((hp x)) (by (simp only [go_sem, hdec, hx, hxj, hcl, hok, hids])) _ (by (simp only [go_sem, hdec, hx, hxj, hcl, hok, hids]; rfl)) ?_
      | refine ev_step0 _ _ (by (simp only [go_sem, hdec, hx, hxj, hcl, hok, hids]; rfl)) (by (first | trivial | decide | (simp only [inB, sliceOk, appendOk, rowsOk]; omega) | (simp [inB, sliceOk, appendOk, rowsOk]; omega))) _ (by (simp only [go_sem, hdec, hx, hxj, hcl, hok, hids]; rfl)) ?_
      | (refine ev_step _ (by (simp only [go_sem, hdec, hx, hxj, hcl, hok, hids]; rfl)) (by (first | trivial | decide | (simp only [inB, sliceOk, appendOk, rowsOk]; omega) | (simp [inB, sliceOk, appendOk, rowsOk]; omega))) _ (fun g u => by (simp only [go_sem, hdec, hx, hxj, hcl, hok, hids]; rfl)) ?_; intro g u; (try clear u); (try clear g))
      | fail
    · refine Exists.intro (i + 1, j + 1, L.set j x) ⟨hmv (by simp_all), by simp only; omega, ?_⟩
      have hset : (nmR L).set j [Dat.lit (.int .i64 x.1), Dat.lit (.int .i64 x.2)] = nmR (L.set j x) := by simp only [nmR, List.map_set]
      simp only [hset]
      refine Wk.mk ?_ ?_
      all_goals (repeat' first | exact trivial | exact LeA.refl _ | exact LeA.any _ | exact LeO.refl _ | exact LeO.no _ | exact LeA.nil _ | (refine LeA.i ?_; (first | rfl | (push_cast; rfl) | (rw [wrap_id (by omega)]; push_cast; omega) | (simp [wrap_id]; omega))) | refine ⟨?_, ?_⟩)
    · refine Exists.intro (i + 1, j, L) ⟨hsk (by simp_all), by simp only; omega, ?_⟩
      refine Wk.mk ?_ ?_
      all_goals (repeat' first | exact trivial | exact LeA.refl _ | exact LeA.any _ | exact LeO.refl _ | exact LeO.no _ | exact LeA.nil _ | (refine LeA.i ?_; (first | rfl | (push_cast; rfl) | (rw [wrap_id (by omega)]; push_cast; omega) | (simp [wrap_id]; omega))) | refine ⟨?_, ?_⟩)
  · rw [heq] at h67
    repeat' first
      | (refine awq_seq ?_)
      | refine awq_block ?_
      | refine awp_seq ?_
      | refine awp_block ?_
      | refine awp_skip ?_
      | (refine reg _ (by (simp only [List.map_cons, List.map_nil]; rfl)) rfl ?_; intro K hK)
      | (refine awp_cond _ (by rfl) ?_ ?_ <;> (intro hb; first | (cases hb; done) | (have ht : true = true := hb; clear ht hb) | (have ht : false = false := hb; clear ht hb) | (simp only [hb]) | skip))
      | (refine awp_exit ?_; simp only [thenA, blockA, reduceIte, RetQ, Nat.reduceEqDiff])
      | (refine awp_ret ?_; simp only [thenA, blockA, RetQ])
      | (refine ev_nil (hK _ ?_); clear hK K)
      | refine ev_guardU _ (by (simp only [go_sem, hcl, hok, hids]; rfl)) (by (simp only [go_sem, hcl, hok, hids]; rfl)) _ (by (simp only [go_sem, hcl, hok, hids]; rfl)) ?_
      | (refine ev_guardT _ _ (by (simp only [go_sem, hcl, hok, hids]; rfl)) (by (simp only [go_sem, hcl, hok, hids]; rfl)) ?_ ?_ <;> (intro hb; first | (cases hb; done) | (have ht : true = true := hb; clear ht hb) | (have ht : false = false := hb; clear ht hb) | (simp only [hb]) | skip))
      | (refine ev_guardF _ _ (by (simp only [go_sem, hcl, hok, hids]; rfl)) (by (simp only [go_sem, hcl, hok, hids]; rfl)) ?_ ?_ <;> (intro hb; first | (cases hb; done) | (have ht : true = true := hb; clear ht hb) | (have ht : false = false := hb; clear ht hb) | (simp only [hb]) | skip))
      | refine ev_call0 _ _ (by (simp only [go_sem, hcl, hok, hids]; rfl)) (by first | exact h67 ..) (by (simp only [go_sem, hcl, hok, hids])) _ (by (simp only [go_sem, hcl, hok, hids]; rfl)) ?_
      | refine ev_callC _ _ _ _ (by (simp only [go_sem, hcl, hok, hids]; rfl)) (by (simp only [go_sem, hcl, hok, hids]; rfl)) (by first | exact h67 ..) (by (simp only [go_sem, hcl, hok, hids])) _ (by (simp only [go_sem, hcl, hok, hids]; rfl)) ?_
      | refine ev_step0 _ _ (by (simp only [go_sem, hcl, hok, hids]; rfl)) (by (first | trivial | decide | (simp only [inB, sliceOk, appendOk, rowsOk]; omega) | (simp [inB, sliceOk, appendOk, rowsOk]; omega))) _ (by (simp only [go_sem, hcl, hok, hids]; rfl)) ?_
      | (refine ev_step _ (by (simp only [go_sem, hcl, hok, hids]; rfl)) (by (first | trivial | decide | (simp only [inB, sliceOk, appendOk, rowsOk]; omega) | (simp [inB, sliceOk, appendOk, rowsOk]; omega))) _ (fun g u => by (simp only [go_sem, hcl, hok, hids]; rfl)) ?_; intro g u; (try clear u); (try clear g))
      | fail
    intro a1 w1 hs1
    have hres := hs1.result (fn := Try.f56) (r := .d (nms l)) ?_
    rotate_left
    · all_goals (refine resR_one T_ok rfl _ (by (simp only [go_sem, resA]; rfl)) (by first | trivial | (simp only [go_sem, resA])) (by first | trivial | (simp only [go_sem])) ?_; simp only [go_sem])
      exact LeA.refl _
    obtain ⟨v, hv1, hv2⟩ := hres
    rw [idxN_none p l 0 heq]
    exact ⟨hs1.defers, v, hv1, v, rfl, hs1.fr, hv2⟩
theorem f56_nil {f : Nat} {caps : List AV} (hcl : ∀ o, clL o caps = caps) (hck : ∀ o, clOkL o caps = True) (hci : idsOfL caps = []) (p : Nm → Bool) (hp : ∀ n : Nm, Spec Try.prog f ([.agg (nm n.1 n.2)] ++ caps) (litB (p n))) :
    Spec Try.prog 56 [.d (nms []), .clo (.func f) caps] (.d (nms [])) := by
  have hfn := IsFn.clo f caps hcl hck hci
  have h67 := f67_spec hfn [] p hp
  simp only [idxN] at h67
  have hcl := hfn.cl
  have hok := hfn.ok
  have hids := hfn.ids
  refine spec_of_awp (fn := Try.f56) Try.func56 (by kernel_rfl) rfl ?_
  intro w0 C0
  simp only [Try.ntmps56, litI, litB, litS, List.length_cons, List.length_nil, Nat.reduceAdd, Nat.reduceSub, List.replicate_succ, List.replicate_zero, List.cons_append, List.nil_append]
  repeat' first
    | refine awp_seq ?_
    | refine awp_block ?_
    | refine awp_skip ?_
    | (refine reg _ (by (simp only [List.map_cons, List.map_nil]; rfl)) rfl ?_; intro K hK)
    | (refine awp_cond _ (by rfl) ?_ ?_ <;> (intro hb; first | (cases hb; done) | (have ht : true = true := hb; clear ht hb) | (have ht : false = false := hb; clear ht hb) | (simp only [hb]) | skip))
    | (refine awp_exit ?_; simp only [thenA, blockA, reduceIte, RetQ, Nat.reduceEqDiff])
    | (refine awp_ret ?_; simp only [thenA, blockA, RetQ])
    | (refine ev_nil (hK _ ?_); clear hK K)
    | refine ev_call0 _ _ (by (simp only [go_sem, hcl, hok, hids]; rfl)) (by first | exact h67 ..) (by (simp only [go_sem, hcl, hok, hids])) _ (by (simp only [go_sem, hcl, hok, hids]; rfl)) ?_
    | refine ev_callC _ _ _ _ (by (simp only [go_sem, hcl, hok, hids]; rfl)) (by (simp only [go_sem, hcl, hok, hids]; rfl)) (by first | exact h67 ..) (by (simp only [go_sem, hcl, hok, hids])) _ (by (simp only [go_sem, hcl, hok, hids]; rfl)) ?_
    | refine ev_step0 _ _ (by (simp only [go_sem, hcl, hok, hids]; rfl)) (by (first | trivial | decide | (simp only [inB, sliceOk, appendOk, rowsOk]; omega) | (simp [inB, sliceOk, appendOk, rowsOk]; omega))) _ (by (simp only [go_sem, hcl, hok, hids]; rfl)) ?_
    | (refine ev_step _ (by (simp only [go_sem, hcl, hok, hids]; rfl)) (by (first | trivial | decide | (simp only [inB, sliceOk, appendOk, rowsOk]; omega) | (simp [inB, sliceOk, appendOk, rowsOk]; omega))) _ (fun g u => by (simp only [go_sem, hcl, hok, hids]; rfl)) ?_; intro g u; (try clear u); (try clear g))
    | fail
  all_goals (refine resR_one T_ok rfl _ (by (simp only [go_sem, resA]; rfl)) (by first | trivial | (simp only [go_sem, resA])) (by first | trivial | (simp only [go_sem])) ?_; simp only [go_sem])
  exact LeA.refl _
end
section
set_option linter.unusedVariables false
set_option linter.unusedSimpArgs false
open Go.RowKit
attribute [local irreducible] AWp evOps evD AWq Ops
theorem f28_spec (l : List Nm) (past : List Int) (hb0 : l.length ≤ 16777216) : Spec Try.prog 28 [.d (nms l), .d (ints past)] (.d (nms (keepN past l))) := by
  have hp : ∀ n : Nm, Spec Try.prog 58 ([.agg (nm n.1 n.2)] ++ [.el [ints past] 0]) (litB (inCut past n.1 n.2)) := fun n => f58_spec n past
  have hcl : ∀ o, clL o [.el [ints past] 0] = [.el [ints past] 0] := fun o => rfl
  have hck : ∀ o, clOkL o [.el [ints past] 0] = True := fun o => by simp [clOkL, clOk]
  have h57 := f57_spec l hb0
  by_cases hl : l = []
  · subst hl
    have h56 := f56_nil (f := 58) hcl hck rfl _ hp
    have hk : keepN past [] = [] := rfl
    rw [hk]
    refine spec_of_awp (fn := Try.f28) Try.func28 (by kernel_rfl) rfl ?_
    intro w0 C0
    simp only [Try.ntmps28, litI, litB, litS, List.length_cons, List.length_nil, Nat.reduceAdd, Nat.reduceSub, List.replicate_succ, List.replicate_zero, List.cons_append, List.nil_append]
    repeat' first
      | refine awp_seq ?_
      | refine awp_block ?_
      | refine awp_skip ?_
      | (refine reg _ (by (simp only [List.map_cons, List.map_nil]; rfl)) rfl ?_; intro K hK)
      | (refine awp_cond _ (by rfl) ?_ ?_ <;> (intro hb; first | (cases hb; done) | (have ht : true = true := hb; clear ht hb) | (have ht : false = false := hb; clear ht hb) | (simp only [hb]) | skip))
      | (refine awp_exit ?_; simp only [thenA, blockA, reduceIte, RetQ, Nat.reduceEqDiff])
      | (refine awp_ret ?_; simp only [thenA, blockA, RetQ])
      | (refine ev_nil (hK _ ?_); clear hK K)
      | refine ev_call0 _ _ (by (simp only [go_sem]; rfl)) (by first | exact h56 ..) (by (simp only [go_sem])) _ (by (simp only [go_sem]; rfl)) ?_
      | refine ev_callC _ _ _ _ (by (simp only [go_sem]; rfl)) (by (simp only [go_sem]; rfl)) (by first | exact h56 ..) (by (simp only [go_sem])) _ (by (simp only [go_sem]; rfl)) ?_
      | (refine ev_callF0 _ _ _ _ (by (simp only [go_sem]; rfl)) (by first | exact h57 ..) (by (simp only [go_sem])) (by simp) _ (fun u => by (simp only [go_sem]; rfl)) ?_; intro u)
      | refine ev_step0 _ _ (by (simp only [go_sem]; rfl)) (by (first | trivial | decide | (simp only [inB, sliceOk, appendOk, rowsOk]; omega) | (simp [inB, sliceOk, appendOk, rowsOk]; omega))) _ (by (simp only [go_sem]; rfl)) ?_
      | (refine ev_step _ (by (simp only [go_sem]; rfl)) (by (first | trivial | decide | (simp only [inB, sliceOk, appendOk, rowsOk]; omega) | (simp [inB, sliceOk, appendOk, rowsOk]; omega))) _ (fun g u => by (simp only [go_sem]; rfl)) ?_; intro g u; (try clear u); (try clear g))
      | fail
    all_goals (refine resR_one T_ok rfl _ (by (simp only [go_sem, resA]; rfl)) (by first | trivial | (simp only [go_sem, resA])) (by first | trivial | (simp only [go_sem])) ?_; simp only [go_sem])
    exact LeA.refl _
  refine ⟨⟨Try.f28, Try.func28, by kernel_rfl, rfl⟩, ?_⟩
  intro w C hC vs hv
  refine (callsIn_wide (n := 0)).1 (callsIn_of_wp (fn := Try.f28) Try.func28 rfl trivial ?_)
  have hs := sat_start (P := Try.prog) (n := 9) (holds := []) (M := fun _ => False) (fun x hx => ⟨hC x hx, fun h => h⟩) hv (by intro i x h; simp at h) (by intro i j x y g h; simp at h)
  refine awq_go (E := ⟨Try.prog, w, C, fun _ => False, none, []⟩) rfl hs ?_
  simp only [litI, litB, litS, List.length_cons, List.length_nil, Nat.reduceAdd, Nat.reduceSub, List.replicate_succ, List.replicate_zero, List.cons_append, List.nil_append]
  repeat' first
    | ((fail_if_success show AWq _ (Code.seq (Code.region 1 _ _) _) _ _); refine awq_seq ?_)
    | refine awq_block ?_
    | refine awp_seq ?_
    | refine awp_block ?_
    | refine awp_skip ?_
    | (refine reg _ (by (simp only [List.map_cons, List.map_nil]; rfl)) rfl ?_; intro K hK)
    | (refine awp_cond _ (by rfl) ?_ ?_ <;> (intro hb; first | (cases hb; done) | (have ht : true = true := hb; clear ht hb) | (have ht : false = false := hb; clear ht hb) | (simp only [hb]) | skip))
    | (refine awp_exit ?_; simp only [thenA, blockA, reduceIte, RetQ, Nat.reduceEqDiff])
    | (refine awp_ret ?_; simp only [thenA, blockA, RetQ])
    | (refine ev_nil (hK _ ?_); clear hK K)
    | refine ev_step0 _ _ (by (simp only [go_sem]; rfl)) (by (first | trivial | decide | (simp only [inB, sliceOk, appendOk, rowsOk]; omega) | (simp [inB, sliceOk, appendOk, rowsOk]; omega))) _ (by (simp only [go_sem]; rfl)) ?_
    | (refine ev_step _ (by (simp only [go_sem]; rfl)) (by (first | trivial | decide | (simp only [inB, sliceOk, appendOk, rowsOk]; omega) | (simp [inB, sliceOk, appendOk, rowsOk]; omega))) _ (fun g u => by (simp only [go_sem]; rfl)) ?_; intro g u; (try clear u); (try clear g))
    | fail
  refine awq_ops ?_
  intro a1 w1 hs1
  refine ops_step (K := fun s => ∃ g u, Wk ⟨Try.prog, w, C, fun _ => False, none, []⟩ s (⟨[.any, .any, .any, .ptr 3 g 0, .any, .any, .own 6 u, .clo (.func 58) [.ptr 3 g 0], .any], [.no, .no, .no, .box g [.d (ints past)], .no, .no, .row u 25 2 (nmR l), .no, .no]⟩)) T_ok 3 hs1 (by decide) rfl ?_ fun s a2 w2 hK hs2 => ?_
  · repeat' first
      | refine awp_seq ?_
      | refine awp_block ?_
      | refine awp_skip ?_
      | (refine reg _ (by (simp only [List.map_cons, List.map_nil]; rfl)) rfl ?_; intro K hK)
      | (refine awp_cond _ (by rfl) ?_ ?_ <;> (intro hb; first | (cases hb; done) | (have ht : true = true := hb; clear ht hb) | (have ht : false = false := hb; clear ht hb) | (simp only [hb]) | skip))
      | (refine awp_exit ?_; simp only [thenA, blockA, reduceIte, RetQ, Nat.reduceEqDiff])
      | (refine awp_ret ?_; simp only [thenA, blockA, RetQ])
      | (refine ev_nil (hK _ ?_); clear hK K)
      | (refine ev_callF0 _ _ _ _ (by (simp only [go_sem]; rfl)) (by first | exact h57 ..) (by (simp only [go_sem])) (by simp) _ (fun u => by (simp only [go_sem]; rfl)) ?_; intro u)
      | refine ev_step0 _ _ (by (simp only [go_sem]; rfl)) (by (first | trivial | decide | (simp only [inB, sliceOk, appendOk, rowsOk]; omega) | (simp [inB, sliceOk, appendOk, rowsOk]; omega))) _ (by (simp only [go_sem]; rfl)) ?_
      | (refine ev_step _ (by (simp only [go_sem]; rfl)) (by (first | trivial | decide | (simp only [inB, sliceOk, appendOk, rowsOk]; omega) | (simp [inB, sliceOk, appendOk, rowsOk]; omega))) _ (fun g u => by (simp only [go_sem]; rfl)) ?_; intro g u; (try clear u); (try clear g))
      | fail
    refine ev_nil ⟨g, u, ?_⟩
    refine Wk.mk ?_ ?_
    all_goals (repeat' first | exact trivial | exact LeA.refl _ | exact LeA.any _ | exact LeO.refl _ | exact LeO.no _ | exact LeA.nil _ | (refine LeA.i ?_; (first | rfl | (push_cast; rfl) | (rw [wrap_id (by omega)]; push_cast; omega) | (simp [wrap_id]; omega))) | refine ⟨?_, ?_⟩)
  obtain ⟨g, u, hK⟩ := hK
  have hs3 := hK _ _ hs2
  have hu : ∃ g6, u.ownBlock = some g6 := by
    obtain ⟨xs, ⟨_, h2⟩, _⟩ := hs3.o 6 _ rfl
    rcases h2 with ⟨_, h3⟩ | ⟨g6, cap, cur, rfl, _⟩
    · simp at h3; exact absurd h3 hl
    · exact ⟨g6, rfl⟩
  obtain ⟨g6, hg6⟩ := hu
  have hown6 := hs3.own 6 _ g6 rfl hg6
  have hg6' : w.heap.size ≤ g6 := hown6.1.resolve_right fun h => h
  have hs4 := hs3.frz 3
  have ho4 : ([.no, .no, .no, .box g [.d (ints past)], .no, .no, .row u 25 2 (nmR l), .no, .no] : List AObj).set 3 (frz (objD ([.no, .no, .no, .box g [.d (ints past)], .no, .no, .row u 25 2 (nmR l), .no, .no]) 3)) = [.no, .no, .no, .fzb g [ints past], .no, .no, .row u 25 2 (nmR l), .no, .no] := rfl
  simp only [ho4] at hs4
  have h6 := Act.eval_of hs4 6 rfl
  have h7 := Act.eval_of hs4 7 rfl
  have hsz := hs4.size
  have hfz := hs4.o 3 _ rfl
  simp only [Has] at h6 h7
  obtain ⟨ps, hf7, hps⟩ := h7
  match ps, hps with
  | [pv], hps =>
  simp only [HasL, Has] at hps
  obtain ⟨rfl, _⟩ := hps
  have hown4 := hs4.own 6 _ g6 rfl hg6
  refine ops_call rfl ⟨Try.f56, Try.func56, by kernel_rfl, rfl⟩ ?_
  simp only [List.map_cons, List.map_nil]
  rw [h6.1, hf7]
  refine (f56_calls (f := 58) hcl hck rfl l _ hb0 hp (C := Env.C ⟨Try.prog, w, C, fun _ => False, none, []⟩ ([.no, .no, .no, .fzb g [ints past], .no, .no, .row u 25 2 (nmR l), .no, .no]) w2) (g := g6) (fun x hx => ⟨hs4.lt_C hx, fun e => ?_⟩) ?_ (hs4.o 6 _ rfl) hg6 hown4.2).mono ?_
  · subst e
    exact hs4.not_own hx (i := 6) rfl hg6
  · simp only [Has]
    refine ⟨_, rfl, ?_⟩
    simp only [HasL, Has]
    exact ⟨⟨g, 0, rfl, hfz⟩, trivial⟩
  rintro e w3 ⟨v8, rfl, hfr, hv8⟩
  refine ⟨v8, rfl, ?_⟩
  have z2 : w.heap.size ≤ w2.heap.size := hs4.fr.size
  have z3 := hfr.size
  have hle : MemLe ⟨w3.heap, fun b => Env.C ⟨Try.prog, w, C, fun _ => False, none, []⟩ ([.no, .no, .no, .fzb g [ints past], .no, .no, .row u 25 2 (nmR l), .no, .no]) w2 b ∨ ((w2.heap.size ≤ b ∨ b = g6) ∧ b < w3.heap.size)⟩ ⟨w3.heap, fun b => C b ∨ (w.heap.size ≤ b ∧ b < w3.heap.size)⟩ := by
    refine ⟨fun b hb => ?_, fun _ _ => rfl⟩
    rcases hb with hb | hb
    · have h1 := hs4.lt_C hb
      rcases hb with hb | hb
      · exact .inl hb
      · exact .inr ⟨hb.1.resolve_right fun h => h, by omega⟩
    · refine .inr ⟨?_, hb.2⟩
      rcases hb.1 with h | rfl
      · omega
      · exact hg6'
  have hv9 := Has.mono hle _ _ hv8
  have hs5 := Sat.anew (P := Try.prog) (C := fun b => C b ∨ (w.heap.size ≤ b ∧ b < w3.heap.size)) (n := 9) (a := a2.put (some 8) v8) (w := w3) hs4.defers (fun b hb => ?_) (hasL_put hsz hv9)
  rotate_left
  · rcases hb with hb | hb
    · have := hC b hb; omega
    · exact hb.2
  refine Ops.env (E' := ⟨Try.prog, w3, fun b => C b ∨ (w.heap.size ≤ b ∧ b < w3.heap.size), fun _ => False, none, []⟩) rfl rfl ?_
  refine ops_step (K := fun s => s = ⟨[.any, .any, .any, .any, .d (nms (keepN past l)), .any, .any, .any, .d (nms (keepN past l))], [.no, .no, .no, .no, .no, .no, .no, .no, .no]⟩) T_ok 1 hs5 (by decide) rfl ?_ fun s a5 w5 hK hs6 => ?_
  · simp only [List.length_cons, List.length_nil, Nat.reduceAdd, List.replicate_succ, List.replicate_zero, List.set_cons_succ, List.set_cons_zero]
    repeat' first
      | refine awp_seq ?_
      | refine awp_block ?_
      | refine awp_skip ?_
      | (refine reg _ (by (simp only [List.map_cons, List.map_nil]; rfl)) rfl ?_; intro K hK)
      | (refine awp_cond _ (by rfl) ?_ ?_ <;> (intro hb; first | (cases hb; done) | (have ht : true = true := hb; clear ht hb) | (have ht : false = false := hb; clear ht hb) | (simp only [hb]) | skip))
      | (refine awp_exit ?_; simp only [thenA, blockA, reduceIte, RetQ, Nat.reduceEqDiff])
      | (refine awp_ret ?_; simp only [thenA, blockA, RetQ])
      | (refine ev_nil (hK _ ?_); clear hK K)
      | refine ev_step0 _ _ (by (simp only [go_sem]; rfl)) (by (first | trivial | decide | (simp only [inB, sliceOk, appendOk, rowsOk]; omega) | (simp [inB, sliceOk, appendOk, rowsOk]; omega))) _ (by (simp only [go_sem]; rfl)) ?_
      | (refine ev_step _ (by (simp only [go_sem]; rfl)) (by (first | trivial | decide | (simp only [inB, sliceOk, appendOk, rowsOk]; omega) | (simp [inB, sliceOk, appendOk, rowsOk]; omega))) _ (fun g u => by (simp only [go_sem]; rfl)) ?_; intro g u; (try clear u); (try clear g))
      | fail
    exact ev_nil rfl
  subst hK
  refine ops_end (by decide) (wpIn_ret ?_)
  have h5 := Act.eval_of hs6 4 rfl
  have z5 : w3.heap.size ≤ w5.heap.size := hs6.fr.size
  have hf1 : Fr (fun b => w.heap.size ≤ b) w w2 := hs4.fr.mono fun _ _ h => h.elim
  have hf2 : Fr (fun b => w.heap.size ≤ b) w w5 := hf1.trans ((hfr.mono fun k _ hk => by rw [hk]; exact hg6').trans (hs6.fr.mono fun _ _ h => h.elim))
  refine ⟨hs6.defers, _, results_tmp (t := 4) rfl _ _ _, _, rfl, ⟨hf2.os, hf2.tape, hf2.output, hf2.size, fun k hk => hf2.block k hk (by omega)⟩, ?_⟩
  have hle2 : MemLe (Env.mem ⟨Try.prog, w3, fun b => C b ∨ (w.heap.size ≤ b ∧ b < w3.heap.size), fun _ => False, none, []⟩ [.no, .no, .no, .no, .no, .no, .no, .no, .no] w5) ⟨w5.heap, fun b => C b ∨ (w.heap.size ≤ b ∧ b < w5.heap.size)⟩ := by
    refine ⟨fun b hb => ?_, fun _ _ => rfl⟩
    rcases hb with (hb | hb) | hb
    · exact .inl hb
    · exact .inr ⟨hb.1, by omega⟩
    · have h1 : w3.heap.size ≤ b := hb.1.resolve_right fun h => h
      exact .inr ⟨by omega, hb.2.1⟩
  exact Has.mono hle2 _ _ h5
end
section
set_option linter.unusedVariables false
set_option linter.unusedSimpArgs false
open Go.RowKit
attribute [local irreducible] AWp evOps evD AWq Ops
def applyO (l : List Nm) (c : Ch) : List Nm := if c.2.2 = true then uniL l [c.1] else keepN c.2.1 l
def foldO (l : List Ch) : List Nm := l.foldl applyO []
theorem applyO_len (l : List Nm) (c : Ch) : (applyO l c).length ≤ l.length + 1 := by
  unfold applyO
  split
  · have := uniL_length l [c.1]; simpa using this
  · have := keepN_len c.2.1 l; omega
theorem foldO_snoc (l : List Ch) (c : Ch) : foldO (l ++ [c]) = applyO (foldO l) c := by simp [foldO]
theorem foldO_len (l : List Ch) : (foldO l).length ≤ l.length := by
  have : ∀ (l : List Ch) (t : List Nm), (l.foldl applyO t).length ≤ t.length + l.length := by
    intro l
    induction l with
    | nil => intro t; simp
    | cons c l ih =>
      intro t
      have h1 := ih (applyO t c)
      have h2 := applyO_len t c
      simp only [List.foldl_cons, List.length_cons]
      omega
  have h := this l []
  simp only [List.length_nil, Nat.zero_add] at h
  exact h
theorem f24_spec (l : List Nm) (c : Ch) (hb0 : l.length ≤ 16777215) : Spec Try.prog 24 [.d (nms l), .agg (chg c.1 c.2.1 c.2.2)] (.d (nms (applyO l c))) := by
  have h26 := f26_spec l c.1 hb0
  have h28 := f28_spec l c.2.1 (by omega)
  obtain ⟨n, past, put⟩ := c
  refine spec_of_awp (fn := Try.f24) Try.func24 (by kernel_rfl) rfl ?_
  intro w0 C0
  simp only [Try.ntmps24, litI, litB, litS, List.length_cons, List.length_nil, Nat.reduceAdd, Nat.reduceSub, List.replicate_succ, List.replicate_zero, List.cons_append, List.nil_append]
  repeat' first
    | refine awp_seq ?_
    | refine awp_block ?_
    | refine awp_skip ?_
    | (refine reg _ (by (simp only [List.map_cons, List.map_nil]; rfl)) rfl ?_; intro K hK)
    | (refine awp_cond _ (by rfl) ?_ ?_ <;> (intro hb; first | (cases hb; done) | (have ht : true = true := hb; clear ht hb) | (have ht : false = false := hb; clear ht hb) | (simp only [hb]) | skip))
    | (refine awp_exit ?_; simp only [thenA, blockA, reduceIte, RetQ, Nat.reduceEqDiff])
    | (refine awp_ret ?_; simp only [thenA, blockA, RetQ])
    | (refine ev_nil (hK _ ?_); clear hK K)
    | refine ev_call0 _ _ (by (simp only [go_sem]; rfl)) (by first | exact h26 .. | exact h28 ..) (by (simp only [go_sem])) _ (by (simp only [go_sem]; rfl)) ?_
    | refine ev_callC _ _ _ _ (by (simp only [go_sem]; rfl)) (by (simp only [go_sem]; rfl)) (by first | exact h26 .. | exact h28 ..) (by (simp only [go_sem])) _ (by (simp only [go_sem]; rfl)) ?_
    | refine ev_step0 _ _ (by (simp only [go_sem]; rfl)) (by (first | trivial | decide | (simp only [inB, sliceOk, appendOk, rowsOk]; omega) | (simp [inB, sliceOk, appendOk, rowsOk]; omega))) _ (by (simp only [go_sem]; rfl)) ?_
    | (refine ev_step _ (by (simp only [go_sem]; rfl)) (by (first | trivial | decide | (simp only [inB, sliceOk, appendOk, rowsOk]; omega) | (simp [inB, sliceOk, appendOk, rowsOk]; omega))) _ (fun g u => by (simp only [go_sem]; rfl)) ?_; intro g u; (try clear u); (try clear g))
    | fail
  · all_goals (refine resR_one T_ok rfl _ (by (simp only [go_sem, resA]; rfl)) (by first | trivial | (simp only [go_sem, resA])) (by first | trivial | (simp only [go_sem])) ?_; simp only [go_sem])
    refine LeA.s ?_
    simp_all [applyO]
  · all_goals (refine resR_one T_ok rfl _ (by (simp only [go_sem, resA]; rfl)) (by first | trivial | (simp only [go_sem, resA])) (by first | trivial | (simp only [go_sem])) ?_; simp only [go_sem])
    refine LeA.s ?_
    simp_all [applyO]
theorem f45_spec (l : List Ch) (hb0 : l.length ≤ 16777215) : Spec Try.prog 45 [.d (chs l)] (.d (nms (foldO l))) := by
  refine spec_of_awp (fn := Try.f45) Try.func45 (by kernel_rfl) rfl ?_
  intro w0 C0
  simp only [Try.ntmps45, litI, litB, litS, List.length_cons, List.length_nil, Nat.reduceAdd, Nat.reduceSub, List.replicate_succ, List.replicate_zero, List.cons_append, List.nil_append]
  refine awp_len 0 rfl fun hl => ?_
  simp only [List.length_map] at hl
  repeat' first
    | refine awp_seq ?_
    | refine awp_block ?_
    | refine awp_skip ?_
    | (refine reg _ (by (simp only [List.map_cons, List.map_nil]; rfl)) rfl ?_; intro K hK)
    | (refine awp_cond _ (by rfl) ?_ ?_ <;> (intro hb; first | (cases hb; done) | (have ht : true = true := hb; clear ht hb) | (have ht : false = false := hb; clear ht hb) | (simp only [hb]) | skip))
    | (refine awp_exit ?_; simp only [thenA, blockA, reduceIte, RetQ, Nat.reduceEqDiff])
    | (refine awp_ret ?_; simp only [thenA, blockA, RetQ])
    | (refine ev_nil (hK _ ?_); clear hK K)
    | refine ev_step0 _ _ (by (simp only [go_sem]; rfl)) (by (first | trivial | decide | (simp only [inB, sliceOk, appendOk, rowsOk]; omega) | (simp [inB, sliceOk, appendOk, rowsOk]; omega))) _ (by (simp only [go_sem]; rfl)) ?_
    | (refine ev_step _ (by (simp only [go_sem]; rfl)) (by (first | trivial | decide | (simp only [inB, sliceOk, appendOk, rowsOk]; omega) | (simp [inB, sliceOk, appendOk, rowsOk]; omega))) _ (fun g u => by (simp only [go_sem]; rfl)) ?_; intro g u; (try clear u); (try clear g))
    | fail
  refine awp_loopI (fun i : Nat => i ≤ l.length) (fun i => l.length - i) (fun i => ⟨[.any, .any, .any, .d (nms (foldO (l.take i))), .any, .any, .d (chs l), litI .i64 l.length, litI .i64 i, .any, .any, .any, .any, .any, .any, .any, .any], [.no, .no, .no, .no, .no, .no, .no, .no, .no, .no, .no, .no, .no, .no, .no, .no, .no]⟩) 0 (by simp) ?_ ?_
  · refine Wk.mk ?_ ?_
    all_goals (repeat' first | exact trivial | exact LeA.refl _ | exact LeA.any _ | exact LeO.refl _ | exact LeO.no _ | exact LeA.nil _ | (refine LeA.i ?_; (first | rfl | (push_cast; rfl) | (rw [wrap_id (by omega)]; push_cast; omega) | (simp [wrap_id]; omega))) | refine ⟨?_, ?_⟩)
  intro i hi
  simp only [litI, litB] at hi ⊢
  by_cases hlt : i < l.length
  rotate_left
  have hdec : decide ((i : Int) < (l.length : Int)) = false := by simp; omega
  · repeat' first
      | refine awp_seq ?_
      | refine awp_block ?_
      | refine awp_skip ?_
      | (refine reg _ (by (simp only [List.map_cons, List.map_nil]; rfl)) rfl ?_; intro K hK)
      | (refine awp_cond _ (by rfl) ?_ ?_ <;> (intro hb; first | (cases hb; done) | (have ht : true = true := hb; clear ht hb) | (have ht : false = false := hb; clear ht hb) | (simp only [hb]) | skip))
      | (refine awp_exit ?_; simp only [thenA, blockA, reduceIte, RetQ, Nat.reduceEqDiff])
      | (refine awp_ret ?_; simp only [thenA, blockA, RetQ])
      | (refine ev_nil (hK _ ?_); clear hK K)
      | refine ev_step0 _ _ (by (simp only [go_sem, hdec]; rfl)) (by (first | trivial | decide | (simp only [inB, sliceOk, appendOk, rowsOk]; omega) | (simp [inB, sliceOk, appendOk, rowsOk]; omega))) _ (by (simp only [go_sem, hdec]; rfl)) ?_
      | (refine ev_step _ (by (simp only [go_sem, hdec]; rfl)) (by (first | trivial | decide | (simp only [inB, sliceOk, appendOk, rowsOk]; omega) | (simp [inB, sliceOk, appendOk, rowsOk]; omega))) _ (fun g u => by (simp only [go_sem, hdec]; rfl)) ?_; intro g u; (try clear u); (try clear g))
      | fail
    all_goals (refine resR_one T_ok rfl _ (by (simp only [go_sem, resA]; rfl)) (by first | trivial | (simp only [go_sem, resA])) (by first | trivial | (simp only [go_sem])) ?_; simp only [go_sem])
    refine LeA.s ?_
    rw [List.take_of_length_le (by omega)]
  have hdec : decide ((i : Int) < (l.length : Int)) = true := by simp; omega
  have hx := chs_at l hlt
  have hab1 : l.take (i + 1) = l.take i ++ [l.getD i ch0] := by rw [List.take_succ_eq_append_getElem hlt]; simp [List.getD_eq_getElem?_getD, hlt]
  have hlen := foldO_len (l.take i)
  rw [List.length_take] at hlen
  have h24 := f24_spec (foldO (l.take i)) (l.getD i ch0) (by omega)
  have hsn := foldO_snoc (l.take i) (l.getD i ch0)
  rw [← hab1] at hsn
  generalize l.getD i ch0 = x at *
  generalize foldO (l.take i) = tl at *
  repeat' first
    | refine awp_seq ?_
    | refine awp_block ?_
    | refine awp_skip ?_
    | (refine reg _ (by (simp only [List.map_cons, List.map_nil]; rfl)) rfl ?_; intro K hK)
    | (refine awp_cond _ (by rfl) ?_ ?_ <;> (intro hb; first | (cases hb; done) | (have ht : true = true := hb; clear ht hb) | (have ht : false = false := hb; clear ht hb) | (simp only [hb]) | skip))
    | (refine awp_exit ?_; simp only [thenA, blockA, reduceIte, RetQ, Nat.reduceEqDiff])
    | (refine awp_ret ?_; simp only [thenA, blockA, RetQ])
    | (refine ev_nil (hK _ ?_); clear hK K)
    | refine ev_call0 _ _ (by (simp only [go_sem, hdec, hx]; rfl)) (by first | exact h24 ..) (by (simp only [go_sem, hdec, hx])) _ (by (simp only [go_sem, hdec, hx]; rfl)) ?_
    | refine ev_callC _ _ _ _ (by (simp only [go_sem, hdec, hx]; rfl)) (by (simp only [go_sem, hdec, hx]; rfl)) (by first | exact h24 ..) (by (simp only [go_sem, hdec, hx])) _ (by (simp only [go_sem, hdec, hx]; rfl)) ?_
    | refine ev_step0 _ _ (by (simp only [go_sem, hdec, hx]; rfl)) (by (first | trivial | decide | (simp only [inB, sliceOk, appendOk, rowsOk]; omega) | (simp [inB, sliceOk, appendOk, rowsOk]; omega))) _ (by (simp only [go_sem, hdec, hx]; rfl)) ?_
    | (refine ev_step _ (by (simp only [go_sem, hdec, hx]; rfl)) (by (first | trivial | decide | (simp only [inB, sliceOk, appendOk, rowsOk]; omega) | (simp [inB, sliceOk, appendOk, rowsOk]; omega))) _ (fun g u => by (simp only [go_sem, hdec, hx]; rfl)) ?_; intro g u; (try clear u); (try clear g))
    | fail
  refine Exists.intro (i + 1) ⟨by omega, by omega, ?_⟩
  simp only [hsn]
  refine Wk.mk ?_ ?_
  all_goals (repeat' first | exact trivial | exact LeA.refl _ | exact LeA.any _ | exact LeO.refl _ | exact LeO.no _ | exact LeA.nil _ | (refine LeA.i ?_; (first | rfl | (push_cast; rfl) | (rw [wrap_id (by omega)]; push_cast; omega) | (simp [wrap_id]; omega))) | refine ⟨?_, ?_⟩)
theorem f13_spec (l : List Ch) (hb0 : l.length ≤ 16777215) : Spec Try.prog 13 [.d (chs l)] (.d (nms (foldO l))) := by
  have h45 := f45_spec l hb0
  refine spec_of_awp (fn := Try.f13) Try.func13 (by kernel_rfl) rfl ?_
  intro w0 C0
  simp only [Try.ntmps13, litI, litB, litS, List.length_cons, List.length_nil, Nat.reduceAdd, Nat.reduceSub, List.replicate_succ, List.replicate_zero, List.cons_append, List.nil_append]
  refine awp_len 0 rfl fun hl => ?_
  simp only [List.length_map] at hl
  repeat' first
    | refine awp_seq ?_
    | refine awp_block ?_
    | refine awp_skip ?_
    | (refine reg _ (by (simp only [List.map_cons, List.map_nil]; rfl)) rfl ?_; intro K hK)
    | (refine awp_cond _ (by rfl) ?_ ?_ <;> (intro hb; first | (cases hb; done) | (have ht : true = true := hb; clear ht hb) | (have ht : false = false := hb; clear ht hb) | (simp only [hb]) | skip))
    | (refine awp_exit ?_; simp only [thenA, blockA, reduceIte, RetQ, Nat.reduceEqDiff])
    | (refine awp_ret ?_; simp only [thenA, blockA, RetQ])
    | (refine ev_nil (hK _ ?_); clear hK K)
    | refine ev_step0 _ _ (by (simp only [go_sem]; rfl)) (by (first | trivial | decide | (simp only [inB, sliceOk, appendOk, rowsOk]; omega) | (simp [inB, sliceOk, appendOk, rowsOk]; omega))) _ (by (simp only [go_sem]; rfl)) ?_
    | (refine ev_step _ (by (simp only [go_sem]; rfl)) (by (first | trivial | decide | (simp only [inB, sliceOk, appendOk, rowsOk]; omega) | (simp [inB, sliceOk, appendOk, rowsOk]; omega))) _ (fun g u => by (simp only [go_sem]; rfl)) ?_; intro g u; (try clear u); (try clear g))
    | fail
  refine awp_loopI (fun i : Nat × Value => i.1 ≤ l.length) (fun i => l.length - i.1) (fun i => ⟨[.d (chs l), .any, .any, .own 5 i.2, litI .i64 i.1, .any, .any, .any, .any, .any, .any, .any, .any, .any, .any, .any, .any, .any, .any, .any, .any, .any], [.no, .no, .no, .no, .no, .row i.2 43 4 ((l.take i.1).map fun c => [.lit (.int .i64 c.1.1), .lit (.int .i64 c.1.2), ints c.2.1, .lit (.bool c.2.2)]), .no, .no, .no, .no, .no, .no, .no, .no, .no, .no, .no, .no, .no, .no, .no, .no]⟩) (0, u) (by simp) ?_ ?_
  · refine Wk.mk ?_ ?_
    all_goals (repeat' first | exact trivial | exact LeA.refl _ | exact LeA.any _ | exact LeO.refl _ | exact LeO.no _ | exact LeA.nil _ | (refine LeA.i ?_; (first | rfl | (push_cast; rfl) | (rw [wrap_id (by omega)]; push_cast; omega) | (simp [wrap_id]; omega))) | refine ⟨?_, ?_⟩)
  rintro ⟨i, v⟩ hi
  simp only [litI, litB] at hi ⊢
  by_cases hlt : i < l.length
  rotate_left
  have hdec : decide ((i : Int) < (l.length : Int)) = false := by simp; omega
  · have htk : l.take i = l := List.take_of_length_le (by omega)
    repeat' first
      | refine awp_seq ?_
      | refine awp_block ?_
      | refine awp_skip ?_
      | (refine reg _ (by (simp only [List.map_cons, List.map_nil]; rfl)) rfl ?_; intro K hK)
      | (refine awp_cond _ (by rfl) ?_ ?_ <;> (intro hb; first | (cases hb; done) | (have ht : true = true := hb; clear ht hb) | (have ht : false = false := hb; clear ht hb) | (simp only [hb]) | skip))
      | (refine awp_exit ?_; simp only [thenA, blockA, reduceIte, RetQ, Nat.reduceEqDiff])
      | (refine awp_ret ?_; simp only [thenA, blockA, RetQ])
      | (refine ev_nil (hK _ ?_); clear hK K)
      | refine ev_call0 _ _ (by (simp only [go_sem, hdec, htk]; rfl)) (by first | exact h45 ..) (by (simp only [go_sem, hdec, htk])) _ (by (simp only [go_sem, hdec, htk]; rfl)) ?_
      | refine ev_callC _ _ _ _ (by (simp only [go_sem, hdec, htk]; rfl)) (by (simp only [go_sem, hdec, htk]; rfl)) (by first | exact h45 ..) (by (simp only [go_sem, hdec, htk])) _ (by (simp only [go_sem, hdec, htk]; rfl)) ?_
      | refine ev_step0 _ _ (by (simp only [go_sem, hdec, htk]; rfl)) (by (first | trivial | decide | (simp only [inB, sliceOk, appendOk, rowsOk]; omega) | (simp [inB, sliceOk, appendOk, rowsOk]; omega))) _ (by (simp only [go_sem, hdec, htk]; rfl)) ?_
      | (refine ev_step _ (by (simp only [go_sem, hdec, htk]; rfl)) (by (first | trivial | decide | (simp only [inB, sliceOk, appendOk, rowsOk]; omega) | (simp [inB, sliceOk, appendOk, rowsOk]; omega))) _ (fun g u => by (simp only [go_sem, hdec, htk]; rfl)) ?_; intro g u; (try clear u); (try clear g))
      | fail
    all_goals (refine resR_one T_ok rfl _ (by (simp only [go_sem, resA]; rfl)) (by first | trivial | (simp only [go_sem, resA])) (by first | trivial | (simp only [go_sem])) ?_; simp only [go_sem])
    exact LeA.refl _
  have hdec : decide ((i : Int) < (l.length : Int)) = true := by simp; omega
  have hx := chs_at l hlt
  have hab1 : l.take (i + 1) = l.take i ++ [l.getD i ch0] := by rw [List.take_succ_eq_append_getElem hlt]; simp [List.getD_eq_getElem?_getD, hlt]
  have hk : (l.take i).length ≤ 16777215 := by rw [List.length_take]; omega
  generalize l.getD i ch0 = x at *
  generalize l.take i = kl at *
  repeat' first
    | refine awp_seq ?_
    | refine awp_block ?_
    | refine awp_skip ?_
    | (refine reg _ (by (simp only [List.map_cons, List.map_nil]; rfl)) rfl ?_; intro K hK)
    | (refine awp_cond _ (by rfl) ?_ ?_ <;> (intro hb; first | (cases hb; done) | (have ht : true = true := hb; clear ht hb) | (have ht : false = false := hb; clear ht hb) | (simp only [hb]) | skip))
    | (refine awp_exit ?_; simp only [thenA, blockA, reduceIte, RetQ, Nat.reduceEqDiff])
    | (refine awp_ret ?_; simp only [thenA, blockA, RetQ])
    | (refine ev_nil (hK _ ?_); clear hK K)
    | refine ev_call0 _ _ (by (simp only [go_sem, hdec, hx]; rfl)) (by first | exact f19_spec ..) (by (simp only [go_sem, hdec, hx])) _ (by (simp only [go_sem, hdec, hx]; rfl)) ?_
    | refine ev_callC _ _ _ _ (by (simp only [go_sem, hdec, hx]; rfl)) (by (simp only [go_sem, hdec, hx]; rfl)) (by first | exact f19_spec ..) (by (simp only [go_sem, hdec, hx])) _ (by (simp only [go_sem, hdec, hx]; rfl)) ?_
    | refine ev_step0 _ _ (by (simp only [go_sem, hdec, hx]; rfl)) (by (first | trivial | decide | (simp only [inB, sliceOk, appendOk, rowsOk]; omega) | (simp [inB, sliceOk, appendOk, rowsOk]; omega))) _ (by (simp only [go_sem, hdec, hx]; rfl)) ?_
    | (refine ev_step _ (by (simp only [go_sem, hdec, hx]; rfl)) (by (first | trivial | decide | (simp only [inB, sliceOk, appendOk, rowsOk]; omega) | (simp [inB, sliceOk, appendOk, rowsOk]; omega))) _ (fun g u => by (simp only [go_sem, hdec, hx]; rfl)) ?_; intro g u; (try clear u); (try clear g))
    | fail
  refine Exists.intro (i + 1, u) ⟨by simp; omega, by simp; omega, ?_⟩
  simp only [hab1, List.map_append, List.map_cons, List.map_nil]
  refine Wk.mk ?_ ?_
  all_goals (repeat' first | exact trivial | exact LeA.refl _ | exact LeA.any _ | exact LeO.refl _ | exact LeO.no _ | exact LeA.nil _ | (refine LeA.i ?_; (first | rfl | (push_cast; rfl) | (rw [wrap_id (by omega)]; push_cast; omega) | (simp [wrap_id]; omega))) | refine ⟨?_, ?_⟩)
theorem f31_spec (a b : List Nm) (x y : List Int) (hb0 : a.length + b.length ≤ 16777216) : Spec Try.prog 31 [.agg (rep a x), .agg (rep b y)] (.agg (rep (joinT a x b y) (joinL x y))) := by
  have h59 := f59_spec a x b y hb0
  refine spec_of_awp (fn := Try.f31) Try.func31 (by kernel_rfl) rfl ?_
  intro w0 C0
  simp only [Try.ntmps31, litI, litB, litS, List.length_cons, List.length_nil, Nat.reduceAdd, Nat.reduceSub, List.replicate_succ, List.replicate_zero, List.cons_append, List.nil_append]
  repeat' first
    | refine awp_seq ?_
    | refine awp_block ?_
    | refine awp_skip ?_
    | (refine reg _ (by (simp only [List.map_cons, List.map_nil]; rfl)) rfl ?_; intro K hK)
    | (refine awp_cond _ (by rfl) ?_ ?_ <;> (intro hb; first | (cases hb; done) | (have ht : true = true := hb; clear ht hb) | (have ht : false = false := hb; clear ht hb) | (simp only [hb]) | skip))
    | (refine awp_exit ?_; simp only [thenA, blockA, reduceIte, RetQ, Nat.reduceEqDiff])
    | (refine awp_ret ?_; simp only [thenA, blockA, RetQ])
    | (refine ev_nil (hK _ ?_); clear hK K)
    | refine ev_call0 _ _ (by (simp only [go_sem, Bool.and_false, Bool.false_and, Bool.and_self]; rfl)) (by first | exact f22_spec .. | exact h59 ..) (by (simp only [go_sem, Bool.and_false, Bool.false_and, Bool.and_self])) _ (by (simp only [go_sem, Bool.and_false, Bool.false_and, Bool.and_self]; rfl)) ?_
    | refine ev_callC _ _ _ _ (by (simp only [go_sem, Bool.and_false, Bool.false_and, Bool.and_self]; rfl)) (by (simp only [go_sem, Bool.and_false, Bool.false_and, Bool.and_self]; rfl)) (by first | exact f22_spec .. | exact h59 ..) (by (simp only [go_sem, Bool.and_false, Bool.false_and, Bool.and_self])) _ (by (simp only [go_sem, Bool.and_false, Bool.false_and, Bool.and_self]; rfl)) ?_
    | (apply regD; (case hd => (simp only [List.map_cons, List.map_nil]; rfl)); (case hok => rfl); (case' h => (intro K hK; (repeat' first
        | (apply evd_nil; refine (hK _ ?_); clear hK K)
        | (apply evd_call0; (case hi => (simp only [go_sem, Bool.and_false, Bool.false_and, Bool.and_self]; try rfl)); (case hys => (simp only [go_sem, Bool.and_false, Bool.false_and, Bool.and_self]; try rfl)); (case hs => first | exact f22_spec .. | exact h59 ..); (case hok => (simp only [go_sem, Bool.and_false, Bool.false_and, Bool.and_self])); (case hw => (simp only [go_sem, Bool.and_false, Bool.false_and, Bool.and_self]; try rfl)); (case hσ => (simp only [go_sem, Bool.and_false, Bool.false_and, Bool.and_self]; try rfl)))
        | (apply evd_callC; (case hf => (simp only [go_sem, Bool.and_false, Bool.false_and, Bool.and_self]; try rfl)); (case hi => (simp only [go_sem, Bool.and_false, Bool.false_and, Bool.and_self]; try rfl)); (case hys => (simp only [go_sem, Bool.and_false, Bool.false_and, Bool.and_self]; try rfl)); (case hs => first | exact f22_spec .. | exact h59 ..); (case hok => (simp only [go_sem, Bool.and_false, Bool.false_and, Bool.and_self])); (case hw => (simp only [go_sem, Bool.and_false, Bool.false_and, Bool.and_self]; try rfl)); (case hσ => (simp only [go_sem, Bool.and_false, Bool.false_and, Bool.and_self]; try rfl)))
        | (apply evd_step0; (case hr => (simp only [go_sem, Bool.and_false, Bool.false_and, Bool.and_self]; try rfl)); (case hi => (simp only [go_sem, Bool.and_false, Bool.false_and, Bool.and_self]; try rfl)); (case hc => (first | trivial | decide | (simp only [inB, sliceOk, appendOk, rowsOk]; omega) | (simp [inB, sliceOk, appendOk, rowsOk]; omega))); (case hσ => (simp only [go_sem, Bool.and_false, Bool.false_and, Bool.and_self]; try rfl)))
        | (apply evd_step; (case hr => (simp only [go_sem, Bool.and_false, Bool.false_and, Bool.and_self]; try rfl)); (case hi => (simp only [go_sem, Bool.and_false, Bool.false_and, Bool.and_self]; try rfl)); (case hc => (first | trivial | decide | (simp only [inB, sliceOk, appendOk, rowsOk]; omega) | (simp [inB, sliceOk, appendOk, rowsOk]; omega))); (case hw => (intro g u; simp only [go_sem, Bool.and_false, Bool.false_and, Bool.and_self]; try rfl)); (case hσ => (intro g u; simp only [go_sem, Bool.and_false, Bool.false_and, Bool.and_self]; try rfl)); (case' hk => (intro g u; (try clear u); (try clear g))))
        | fail))); (case hB => kernel_rfl))
    | refine ev_step0 _ _ (by (simp only [go_sem, Bool.and_false, Bool.false_and, Bool.and_self]; rfl)) (by (first | trivial | decide | (simp only [inB, sliceOk, appendOk, rowsOk]; omega) | (simp [inB, sliceOk, appendOk, rowsOk]; omega))) _ (by (simp only [go_sem, Bool.and_false, Bool.false_and, Bool.and_self]; rfl)) ?_
    | (refine ev_step _ (by (simp only [go_sem, Bool.and_false, Bool.false_and, Bool.and_self]; rfl)) (by (first | trivial | decide | (simp only [inB, sliceOk, appendOk, rowsOk]; omega) | (simp [inB, sliceOk, appendOk, rowsOk]; omega))) _ (fun g u => by (simp only [go_sem, Bool.and_false, Bool.false_and, Bool.and_self]; rfl)) ?_; intro g u; (try clear u); (try clear g))
    | fail
  all_goals (refine resR_one T_ok rfl _ (by (simp only [go_sem, resA]; rfl)) (by first | trivial | (simp only [go_sem, resA])) (by first | trivial | (simp only [go_sem])) ?_; simp only [go_sem])
  exact LeA.refl _
theorem f39_spec (l : List Ch) (c : List Int) (hb0 : l.length ≤ 16777215) : Spec Try.prog 39 [.d (chs l), .d (ints c)] (.agg (rep (foldO (withinC c l)) c)) := by
  have h60 := f60_spec l c (by omega)
  have h13 := f13_spec (withinC c l) (by have := withinC_len c l; omega)
  refine spec_of_awp (fn := Try.f39) Try.func39 (by kernel_rfl) rfl ?_
  intro w0 C0
  simp only [Try.ntmps39, litI, litB, litS, List.length_cons, List.length_nil, Nat.reduceAdd, Nat.reduceSub, List.replicate_succ, List.replicate_zero, List.cons_append, List.nil_append]
  repeat' first
    | refine awp_seq ?_
    | refine awp_block ?_
    | refine awp_skip ?_
    | (refine reg _ (by (simp only [List.map_cons, List.map_nil]; rfl)) rfl ?_; intro K hK)
    | (refine awp_cond _ (by rfl) ?_ ?_ <;> (intro hb; first | (cases hb; done) | (have ht : true = true := hb; clear ht hb) | (have ht : false = false := hb; clear ht hb) | (simp only [hb]) | skip))
    | (refine awp_exit ?_; simp only [thenA, blockA, reduceIte, RetQ, Nat.reduceEqDiff])
    | (refine awp_ret ?_; simp only [thenA, blockA, RetQ])
    | (refine ev_nil (hK _ ?_); clear hK K)
    | refine ev_call0 _ _ (by (simp only [go_sem]; rfl)) (by first | exact h60 .. | exact h13 ..) (by (simp only [go_sem])) _ (by (simp only [go_sem]; rfl)) ?_
    | refine ev_callC _ _ _ _ (by (simp only [go_sem]; rfl)) (by (simp only [go_sem]; rfl)) (by first | exact h60 .. | exact h13 ..) (by (simp only [go_sem])) _ (by (simp only [go_sem]; rfl)) ?_
    | refine ev_step0 _ _ (by (simp only [go_sem]; rfl)) (by (first | trivial | decide | (simp only [inB, sliceOk, appendOk, rowsOk]; omega) | (simp [inB, sliceOk, appendOk, rowsOk]; omega))) _ (by (simp only [go_sem]; rfl)) ?_
    | (refine ev_step _ (by (simp only [go_sem]; rfl)) (by (first | trivial | decide | (simp only [inB, sliceOk, appendOk, rowsOk]; omega) | (simp [inB, sliceOk, appendOk, rowsOk]; omega))) _ (fun g u => by (simp only [go_sem]; rfl)) ?_; intro g u; (try clear u); (try clear g))
    | fail
  all_goals (refine resR_one T_ok rfl _ (by (simp only [go_sem, resA]; rfl)) (by first | trivial | (simp only [go_sem, resA])) (by first | trivial | (simp only [go_sem])) ?_; simp only [go_sem])
  exact LeA.refl _
end
section
set_option linter.unusedVariables false
set_option linter.unusedSimpArgs false
abbrev lt (x y : Nm) : Prop := less x.1 x.2 y.1 y.2 = true
theorem lt_iff {x y : Nm} : lt x y ↔ x.1 < y.1 ∨ (x.1 = y.1 ∧ x.2 < y.2) := by
  simp [lt, less]
theorem lt_irrefl (x : Nm) : ¬ lt x x := by rw [lt_iff]; omega
theorem lt_trans {x y z : Nm} (h : lt x y) (k : lt y z) : lt x z := by rw [lt_iff] at *; omega
theorem lt_total (x y : Nm) : x = y ∨ lt x y ∨ lt y x := by
  rw [lt_iff, lt_iff, Prod.ext_iff]; omega
theorem cmpN_le (x y : Nm) : cmpN x.1 x.2 y.1 y.2 ≤ 0 ↔ ¬ lt y x := by
  rw [lt_iff]
  simp only [cmpN, firstNZ, cmpI]
  by_cases h1 : x.1 < y.1
  · simp [h1]; omega
  · by_cases h2 : y.1 < x.1
    · simp [h1, h2]
    · have : x.1 = y.1 := by omega
      by_cases h3 : x.2 < y.2
      · simp [this, h3]; omega
      · by_cases h4 : y.2 < x.2
        · simp [this, h3, h4]
        · simp [this, h3, h4]
theorem inL_iff {l : List Nm} {n : Nm} : inL l n = true ↔ n ∈ l := by
  simp only [inL, List.any_eq_true, nmEq_iff]
  exact ⟨fun ⟨x, h, e⟩ => e ▸ h, fun h => ⟨n, h, rfl⟩⟩
theorem inL_bool (l : List Nm) (n : Nm) : inL l n = decide (n ∈ l) := by
  rw [Bool.eq_iff_iff, inL_iff, decide_eq_true_iff]
theorem sorted_iff : ∀ (l : List Nm) (p : Nm), sortedN p l = true ↔ (∀ x ∈ l, named x.1 x.2 = true ∧ lt p x) ∧ l.Pairwise lt
  | [], p => by simp [sortedN]
  | n :: l, p => by
    simp only [sortedN, Bool.and_eq_true, sorted_iff l n, List.mem_cons, List.pairwise_cons]
    constructor
    · rintro ⟨⟨h1, h2⟩, h3, h4⟩
      refine ⟨?_, fun x hx => (h3 x hx).2, h4⟩
      rintro x (rfl | hx)
      · exact ⟨h1, h2⟩
      · exact ⟨(h3 x hx).1, lt_trans h2 (h3 x hx).2⟩
    · rintro ⟨h1, h2, h3⟩
      exact ⟨h1 n (.inl rfl), fun x hx => ⟨(h1 x (.inr hx)).1, h2 x hx⟩, h3⟩
theorem sorted0_iff (l : List Nm) : sortedN (-1, 0) l = true ↔ (∀ x ∈ l, named x.1 x.2 = true) ∧ l.Pairwise lt := by
  rw [sorted_iff]
  refine ⟨fun h => ⟨fun x hx => (h.1 x hx).1, h.2⟩, fun h => ⟨fun x hx => ⟨h.1 x hx, ?_⟩, h.2⟩⟩
  have := h.1 x hx
  simp only [named, Bool.and_eq_true, decide_eq_true_eq] at this
  rw [lt_iff]
  left
  show (-1 : Int) < x.1
  omega
theorem sorted_keep {l : List Nm} (h : sortedN (-1, 0) l = true) (c : List Int) : sortedN (-1, 0) (keepN c l) = true := by
  rw [sorted0_iff] at *
  exact ⟨fun x hx => h.1 x (List.mem_filter.1 hx).1, h.2.filter _⟩
/-- A name at its place. -/
def insN : List Nm → Nm → List Nm
  | [], n => [n]
  | x :: r, n => if x = n then x :: r else if lt x n then x :: insN r n else n :: x :: r
theorem uniL_nil_right : ∀ (l : List Nm), uniL l [] = l
  | [] => rfl
  | x :: r => by
    rw [uniL_step _ _ rfl]
    have e1 : offHd x (x :: r) = r := by simp [offHd, nmEq]
    simp only [uniHd, e1]
    have e2 : offHd x [] = [] := rfl
    rw [e2, uniL_nil_right r]
theorem uniL_ins : ∀ (l : List Nm) (n : Nm), uniL l [n] = insN l n
  | [], n => by
    rw [uniL_step _ _ rfl]
    have e1 : offHd n [n] = [] := by simp [offHd, nmEq]
    have e2 : offHd n [] = [] := rfl
    simp only [uniHd, e1, e2]
    rfl
  | x :: r, n => by
    rw [uniL_step _ _ rfl]
    have e1 : offHd x (x :: r) = r := by simp [offHd, nmEq]
    simp only [insN]
    rcases lt_total x n with rfl | h | h
    · have hc : cmpN x.1 x.2 x.1 x.2 ≤ 0 := (cmpN_le x x).2 (lt_irrefl x)
      have e2 : offHd x [x] = [] := by simp [offHd, nmEq]
      simp only [uniHd, hc, if_true, e1, e2, uniL_nil_right]
    · have hne : x ≠ n := fun e => by subst e; exact lt_irrefl x h
      have hc : cmpN x.1 x.2 n.1 n.2 ≤ 0 := (cmpN_le x n).2 fun k => lt_irrefl x (lt_trans h k)
      have hq : nmEq n x = false := by rw [Bool.eq_false_iff, Ne, nmEq_iff]; exact fun e => hne e.symm
      have e2 : offHd x [n] = [n] := by simp [offHd, hq]
      simp only [uniHd, hc, if_true, e1, e2, hne, if_false, uniL_ins r n]
      rw [if_pos h]
    · have hne : x ≠ n := fun e => by subst e; exact lt_irrefl x h
      have hc : ¬ cmpN x.1 x.2 n.1 n.2 ≤ 0 := fun k => (cmpN_le x n).1 k h
      have hl : ¬ lt x n := fun k => lt_irrefl x (lt_trans k h)
      have hq : nmEq x n = false := by rw [Bool.eq_false_iff, Ne, nmEq_iff]; exact hne
      have e2 : offHd n (x :: r) = x :: r := by simp [offHd, hq]
      have e3 : offHd n [n] = [] := by simp [offHd, nmEq]
      simp only [uniHd, hc, if_false, e2, e3, uniL_nil_right, hne, hl]
theorem mem_ins {n y : Nm} : ∀ {l : List Nm}, y ∈ insN l n ↔ y = n ∨ y ∈ l
  | [] => by simp [insN]
  | x :: r => by
    simp only [insN]
    split
    · rename_i h
      subst h
      simp
    · split
      · simp only [List.mem_cons, mem_ins (l := r)]
        constructor
        · rintro (h | h | h)
          · exact .inr (.inl h)
          · exact .inl h
          · exact .inr (.inr h)
        · rintro (h | h | h)
          · exact .inr (.inl h)
          · exact .inl h
          · exact .inr (.inr h)
      · simp
theorem sorted_ins {n : Nm} : ∀ {l : List Nm}, l.Pairwise lt → (insN l n).Pairwise lt
  | [], _ => by simp [insN]
  | x :: r, h => by
    rw [List.pairwise_cons] at h
    simp only [insN]
    split
    · exact List.pairwise_cons.2 h
    · rename_i hne
      split
      · rename_i hl
        refine List.pairwise_cons.2 ⟨fun y hy => ?_, sorted_ins h.2⟩
        rcases mem_ins.1 hy with rfl | hy
        · exact hl
        · exact h.1 y hy
      · rename_i hl
        have hg : lt n x := ((lt_total x n).resolve_left hne).resolve_left hl
        refine List.pairwise_cons.2 ⟨fun y hy => ?_, List.pairwise_cons.2 h⟩
        rcases List.mem_cons.1 hy with rfl | hy
        · exact hg
        · exact lt_trans hg (h.1 y hy)
theorem length_ins {n : Nm} : ∀ {l : List Nm}, l.Pairwise lt → (insN l n).length = l.length + if inL l n = true then 0 else 1
  | [], _ => by simp [insN, inL]
  | x :: r, h => by
    rw [List.pairwise_cons] at h
    simp only [insN]
    have hin : inL (x :: r) n = true ↔ x = n ∨ inL r n = true := by
      rw [inL_iff, inL_iff, List.mem_cons]
      exact ⟨fun h => h.imp Eq.symm id, fun h => h.imp Eq.symm id⟩
    split
    · rename_i he
      rw [if_pos (hin.2 (.inl he))]; rfl
    · rename_i hne
      split
      · have := length_ins (n := n) h.2
        simp only [List.length_cons, this]
        by_cases hr : inL r n = true
        · rw [if_pos hr, if_pos (hin.2 (.inr hr))]
        · rw [if_neg hr, if_neg (fun hh => hr ((hin.1 hh).resolve_left hne))]
      · rename_i hl
        have hg : lt n x := ((lt_total x n).resolve_left hne).resolve_left hl
        have hr : ¬ inL (x :: r) n = true := fun hh => by
          rcases hin.1 hh with he | he
          · exact hne he
          · exact lt_irrefl n (lt_trans hg (h.1 n (inL_iff.1 he)))
        rw [if_neg hr]
        first | done | rfl
theorem sorted_add {l : List Nm} (h : sortedN (-1, 0) l = true) {n : Nm} (hn : named n.1 n.2 = true) : sortedN (-1, 0) (uniL l [n]) = true := by
  rw [uniL_ins, sorted0_iff] at *
  refine ⟨fun x hx => ?_, sorted_ins h.2⟩
  rcases mem_ins.1 hx with rfl | hx
  · exact hn
  · exact h.1 x hx
/-! ### Cuts -/
theorem cutV_len {c : List Int} (h : cutV c = true) : c.length = 6 := by simp only [cutV, Bool.and_eq_true, decide_eq_true_eq] at h; exact h.1
theorem cutV_iff {c : List Int} : cutV c = true ↔ c.length = 6 ∧ ∀ x ∈ c, 0 ≤ x ∧ x ≤ 999 := by
  simp only [cutV, Bool.and_eq_true, decide_eq_true_eq, List.all_eq_true, cutOk]
theorem cutV_join {x y : List Int} (hx : cutV x = true) (hy : cutV y = true) : joinL x y = List.zipWith max x y ∧ joinE x y = 0 ∧ cutV (joinL x y) = true := by
  have hok : cutsOk x y = true := by simp [cutsOk, hx, hy]
  have h1 : joinL x y = List.zipWith max x y := by simp [joinL, hok]
  refine ⟨h1, by simp [joinE, hok], ?_⟩
  rw [h1]
  rw [cutV_iff] at *
  refine ⟨by simp [hx.1, hy.1], fun z hz => ?_⟩
  obtain ⟨i, hi⟩ := List.mem_iff_getElem?.1 hz
  rw [List.getElem?_zipWith] at hi
  cases hxi : x[i]? with
  | none => rw [hxi] at hi; cases hi
  | some a =>
    cases hyi : y[i]? with
    | none => rw [hxi, hyi] at hi; cases hi
    | some b =>
      rw [hxi, hyi] at hi
      cases hi
      have h1 := hx.2 a (List.mem_of_getElem? hxi)
      have h2 := hy.2 b (List.mem_of_getElem? hyi)
      omega
theorem inCut_join {x y : List Int} (hx : cutV x = true) (hy : cutV y = true) (a b : Int) : inCut (joinL x y) a b = (inCut x a b || inCut y a b) := by
  obtain ⟨h1, _, h3⟩ := cutV_join hx hy
  have lx := cutV_len hx
  have ly := cutV_len hy
  simp only [inCut, hx, hy, h3, Bool.true_and]
  by_cases ha : 0 ≤ a ∧ a < 6
  · have hg : (joinL x y).getD a.toNat 0 = max (x.getD a.toNat 0) (y.getD a.toNat 0) := by
      rw [h1]
      have i1 : a.toNat < x.length := by omega
      have i2 : a.toNat < y.length := by omega
      simp only [List.getD_eq_getElem?_getD, List.getElem?_zipWith, List.getElem?_eq_getElem i1, List.getElem?_eq_getElem i2, Option.getD_some]
    rw [hg]
    rw [Bool.eq_iff_iff]
    simp only [Bool.and_eq_true, Bool.or_eq_true, decide_eq_true_eq]
    omega
  · rw [Bool.eq_iff_iff]
    simp only [Bool.and_eq_true, Bool.or_eq_true, decide_eq_true_eq]
    omega
theorem keep_keep {x y : List Int} (hx : cutV x = true) (hy : cutV y = true) (l : List Nm) : keepN y (keepN x l) = keepN (joinL x y) l ∧ keepN x (keepN y l) = keepN (joinL x y) l ∧ keepN x (keepN x l) = keepN x l := by
  simp only [keepN, List.filter_filter]
  refine ⟨?_, ?_, ?_⟩
  · apply List.filter_congr
    intro n _
    rw [inCut_join hx hy]; cases inCut x n.1 n.2 <;> cases inCut y n.1 n.2 <;> rfl
  · apply List.filter_congr
    intro n _
    rw [inCut_join hx hy]; cases inCut x n.1 n.2 <;> cases inCut y n.1 n.2 <;> rfl
  · apply List.filter_congr
    intro n _
    cases inCut x n.1 n.2 <;> rfl
theorem in_keep {l : List Nm} {z : Nm} (hz : z ∈ l) (x : List Int) : (inL (keepN x l) z == inCut x z.1 z.2) = false := by
  have : inL (keepN x l) z = !inCut x z.1 z.2 := by
    rw [Bool.eq_iff_iff, inL_iff, keepN, List.mem_filter]
    simp [hz]
  rw [this]
  cases inCut x z.1 z.2 <;> rfl
theorem cutV_lim (b : List Int) (hb : ∀ x ∈ b, 0 ≤ x ∧ x < 256) : cutV (limL b 6) = true := by
  rw [cutV_iff]
  refine ⟨limL_len b 6, fun x hx => ?_⟩
  simp only [limL, List.mem_map, List.mem_range] at hx
  obtain ⟨s, _, rfl⟩ := hx
  split
  · rename_i h
    have hlt := h.2
    have hm : b.getD s 0 ∈ b := by
      rw [List.getD_eq_getElem?_getD, List.getElem?_eq_getElem hlt]
      exact List.getElem_mem hlt
    have h1 := hb _ hm
    have h2 : (b.getD s 0).tmod 6 = (b.getD s 0) % 6 := Int.tmod_eq_emod_of_nonneg h1.1
    rw [h2]
    omega
  · omega
end
section
set_option linter.unusedVariables false
set_option linter.unusedSimpArgs false
open Go.RowKit
attribute [local irreducible] AWp evOps evD
theorem f44_val : Spec Try.prog 44 [] (.d (ints zero6)) := by
  refine spec_of_awp (fn := Try.f44) Try.func44 (by kernel_rfl) rfl ?_
  intro w0 C0
  simp only [Try.ntmps44, litI, litB, litS, List.length_cons, List.length_nil, Nat.reduceAdd, Nat.reduceSub, List.replicate_succ, List.replicate_zero, List.cons_append, List.nil_append]
  repeat' first
    | refine awp_seq ?_
    | refine awp_block ?_
    | refine awp_skip ?_
    | (refine reg _ (by (simp only [List.map_cons, List.map_nil]; rfl)) rfl ?_; intro K hK)
    | (refine awp_cond _ (by rfl) ?_ ?_ <;> (intro hb; first | (cases hb; done) | (have ht : true = true := hb; clear ht hb) | (have ht : false = false := hb; clear ht hb) | (simp only [hb]) | skip))
    | (refine awp_exit ?_; simp only [thenA, blockA, reduceIte, RetQ, Nat.reduceEqDiff])
    | (refine awp_ret ?_; simp only [thenA, blockA, RetQ])
    | (refine ev_nil (hK _ ?_); clear hK K)
    | refine ev_step0 _ _ (by (simp only [go_sem]; rfl)) (by (first | trivial | decide | (simp only [inB, sliceOk, appendOk, rowsOk]; omega) | (simp [inB, sliceOk, appendOk, rowsOk]; omega))) _ (by (simp only [go_sem]; rfl)) ?_
    | (refine ev_step _ (by (simp only [go_sem]; rfl)) (by (first | trivial | decide | (simp only [inB, sliceOk, appendOk, rowsOk]; omega) | (simp [inB, sliceOk, appendOk, rowsOk]; omega))) _ (fun g u => by (simp only [go_sem]; rfl)) ?_; intro g u; (try clear u); (try clear g))
    | fail
  all_goals (refine resR_one T_ok rfl _ (by (simp only [go_sem, resA]; rfl)) (by first | trivial | (simp only [go_sem, resA])) (by first | trivial | (simp only [go_sem])) ?_; simp only [go_sem])
  exact LeA.s rfl
abbrev krow (K : List (List Int)) : List (List Dat) := K.map fun l => [ints l]
theorem krow_at (K : List (List Int)) {i : Nat} (h : i < K.length) : (K.map fun l => [ints l]).getD i [] = [ints (K.getD i [])] := by
  simp [List.getD_eq_getElem?_getD, h]
theorem krow_set (K : List (List Int)) (i : Nat) (l : List Int) : (K.map fun l => [ints l]).set i [ints l] = (K.set i l).map fun l => [ints l] := by
  rw [List.map_set]
/-- Cuts known to stations, and the commits so far: one step. -/
def hdrS (a : List (List Int) × List Cm) (x : Int) : List (List Int) × List Cm :=
  let s := (x.tmod 3).toNat
  let t := ((x.tdiv 3).tmod 3).toNat
  let K := if 0 < (x.tdiv 9).tmod 3 then a.1.set s (joinL (a.1.getD s []) (a.1.getD t [])) else a.1
  let c : Cm := ((s, (K.getD s []).getD s 0 + 1), K.getD s [])
  (K.set s (ownL c.2 c.1), a.2 ++ [c])
def hdrI (b : List Int) (i : Nat) : List (List Int) × List Cm := (b.take i).foldl hdrS ([zero6, zero6, zero6], [])
theorem hdrI_succ (b : List Int) {i : Nat} (h : i < b.length) : hdrI b (i + 1) = hdrS (hdrI b i) (b.getD i 0) := by
  have hab1 : b.take (i + 1) = b.take i ++ [b.getD i 0] := by rw [List.take_succ_eq_append_getElem h]; simp [List.getD_eq_getElem?_getD, h]
  simp only [hdrI, hab1, List.foldl_append, List.foldl_cons, List.foldl_nil]
/-- A cut of numbers of at most n. -/
def cutB (n : Nat) (c : List Int) : Prop := c.length = 6 ∧ ∀ x ∈ c, 0 ≤ x ∧ x ≤ n
theorem cutB_at {n : Nat} {c : List Int} (h : cutB n c) {i : Nat} (hi : i < 6) : 0 ≤ c.getD i 0 ∧ c.getD i 0 ≤ n := by
  have hl : i < c.length := by rw [h.1]; exact hi
  refine h.2 _ ?_
  rw [List.getD_eq_getElem?_getD, List.getElem?_eq_getElem hl]
  exact List.getElem_mem hl
theorem cutB_V {n : Nat} {c : List Int} (h : cutB n c) (hn : n ≤ 999) : cutV c = true := cutV_iff.2 ⟨h.1, fun x hx => ⟨(h.2 x hx).1, by have := (h.2 x hx).2; omega⟩⟩
theorem cutB_mono {n m : Nat} {c : List Int} (h : cutB n c) (hn : n ≤ m) : cutB m c := ⟨h.1, fun x hx => ⟨(h.2 x hx).1, by have := (h.2 x hx).2; omega⟩⟩
theorem cutB_join {n : Nat} {x y : List Int} (hx : cutB n x) (hy : cutB n y) (hn : n ≤ 999) : cutB n (joinL x y) := by
  obtain ⟨h1, -, -⟩ := cutV_join (cutB_V hx hn) (cutB_V hy hn)
  rw [h1]
  refine ⟨by simp [hx.1, hy.1], fun z hz => ?_⟩
  obtain ⟨i, hi⟩ := List.mem_iff_getElem?.1 hz
  rw [List.getElem?_zipWith] at hi
  cases hxi : x[i]? with
  | none => rw [hxi] at hi; cases hi
  | some a =>
    cases hyi : y[i]? with
    | none => rw [hxi, hyi] at hi; cases hi
    | some b =>
      rw [hxi, hyi] at hi
      cases hi
      have h1 := hx.2 a (List.mem_of_getElem? hxi)
      have h2 := hy.2 b (List.mem_of_getElem? hyi)
      omega
theorem cutB_own {n : Nat} {c : List Int} (h : cutB n c) (s : Nat) (v : Int) (hv : 0 ≤ v ∧ v ≤ n + 1) : cutB (n + 1) (ownL c (s, v)) := by
  refine ⟨by simp [ownL, h.1], fun x hx => ?_⟩
  simp only [ownL] at hx
  rcases List.mem_or_eq_of_mem_set hx with hx | rfl
  · have := h.2 x hx; push_cast; omega
  · push_cast; omega
structure HdrOk (n : Nat) (a : List (List Int) × List Cm) : Prop where
  k : a.1.length = 3
  c : ∀ c ∈ a.1, cutB n c
  l : a.2.length = n
  o : ∀ c ∈ a.2, (0 ≤ c.1.1 ∧ c.1.1 < 3) ∧ (1 ≤ c.1.2 ∧ c.1.2 ≤ n) ∧ cutB n c.2
theorem byte_st {x : Int} (h : 0 ≤ x ∧ x < 256) : ∃ s t : Nat, s < 3 ∧ t < 3 ∧ x.tmod 3 = s ∧ (x.tdiv 3).tmod 3 = t := by
  have h1 : x.tmod 3 = x % 3 := Int.tmod_eq_emod_of_nonneg h.1
  have h2 : x.tdiv 3 = x / 3 := Int.tdiv_eq_ediv_of_nonneg h.1
  have h3 : (x.tdiv 3).tmod 3 = x / 3 % 3 := by rw [h2]; exact Int.tmod_eq_emod_of_nonneg (by omega)
  exact ⟨(x % 3).toNat, (x / 3 % 3).toNat, by omega, by omega, by omega, by omega⟩
theorem getD_mem' {α : Type} {l : List α} {i : Nat} (h : i < l.length) (d : α) : l.getD i d ∈ l := by
  rw [List.getD_eq_getElem?_getD, List.getElem?_eq_getElem h]; exact List.getElem_mem h
theorem hdrS_ok {n : Nat} (hn : n ≤ 900) {a : List (List Int) × List Cm} (h : HdrOk n a) {x : Int} (hx : 0 ≤ x ∧ x < 256) : HdrOk (n + 1) (hdrS a x) := by
  obtain ⟨s, t, hs, ht, e1, e2⟩ := byte_st hx
  have hK : (if 0 < (x.tdiv 9).tmod 3 then a.1.set s (joinL (a.1.getD s []) (a.1.getD t [])) else a.1).length = 3 := by split <;> simp [h.k]
  have hC : ∀ c ∈ (if 0 < (x.tdiv 9).tmod 3 then a.1.set s (joinL (a.1.getD s []) (a.1.getD t [])) else a.1), cutB n c := by
    split
    · intro c hc
      rcases List.mem_or_eq_of_mem_set hc with hc | rfl
      · exact h.c c hc
      · exact cutB_join (h.c _ (getD_mem' (by rw [h.k]; exact hs) _)) (h.c _ (getD_mem' (by rw [h.k]; exact ht) _)) (by omega)
    · exact h.c
  simp only [hdrS, e1, e2, Int.toNat_natCast]
  generalize (if 0 < (x.tdiv 9).tmod 3 then a.1.set s (joinL (a.1.getD s []) (a.1.getD t [])) else a.1) = K at *
  have hk : cutB n (K.getD s []) := hC _ (getD_mem' (by rw [hK]; exact hs) _)
  have hb := cutB_at hk (i := s) (by omega)
  refine ⟨by simp [hK], fun c hc => ?_, by simp [h.l], fun c hc => ?_⟩
  · rcases List.mem_or_eq_of_mem_set hc with hc | rfl
    · exact cutB_mono (hC c hc) (by omega)
    · exact cutB_own hk s _ (by omega)
  · rcases List.mem_append.1 hc with hc | hc
    · obtain ⟨h1, h2, h3⟩ := h.o c hc
      exact ⟨h1, by push_cast; omega, cutB_mono h3 (by omega)⟩
    · rw [List.mem_singleton] at hc
      subst hc
      exact ⟨⟨by show (0 : Int) ≤ s; omega, by show (s : Int) < 3; omega⟩, ⟨by show 1 ≤ (K.getD s []).getD s 0 + 1; omega, by show (K.getD s []).getD s 0 + 1 ≤ ((n + 1 : Nat) : Int); push_cast; omega⟩, cutB_mono hk (by omega)⟩
theorem hdrI_ok {b : List Int} (hb : ∀ x ∈ b, 0 ≤ x ∧ x < 256) : ∀ i : Nat, i ≤ 12 → i ≤ b.length → HdrOk i (hdrI b i)
  | 0, _, _ => ⟨rfl, by simp [hdrI, cutB], rfl, by simp [hdrI]⟩
  | i + 1, h1, h2 => by
    rw [hdrI_succ b (by omega)]
    exact hdrS_ok (by omega) (hdrI_ok hb i (by omega) (by omega)) (hb _ (getD_mem' (by omega) _))
theorem hdrI_end (b : List Int) {i : Nat} (h : ¬ (i < b.length ∧ i < 12)) (hi : i ≤ 12) : hdrI b i = hdrI b 12 := by
  simp only [hdrI]
  by_cases h1 : i = 12
  · rw [h1]
  · rw [List.take_of_length_le (by omega), List.take_of_length_le (by omega)]
/-- The commits of a history. -/
def hdrL (b : List Int) : List Cm := (hdrI b 12).2
theorem hdrL_ok {b : List Int} (hb : ∀ x ∈ b, 0 ≤ x ∧ x < 256) : (hdrL b).length ≤ 12 ∧ ∀ c ∈ hdrL b, (0 ≤ c.1.1 ∧ c.1.1 < 3) ∧ (1 ≤ c.1.2 ∧ c.1.2 ≤ 12) ∧ cutB 12 c.2 := by
  have h := hdrI_ok hb (min b.length 12) (by omega) (by omega)
  rw [hdrI_end b (by omega) (by omega)] at h
  refine ⟨by rw [hdrL, h.l]; omega, fun c hc => ?_⟩
  obtain ⟨h1, h2, h3⟩ := h.o c hc
  exact ⟨h1, by omega, cutB_mono h3 (by omega)⟩
end
end Go.Proofs.Ytalbfikfbejnfaa.A
