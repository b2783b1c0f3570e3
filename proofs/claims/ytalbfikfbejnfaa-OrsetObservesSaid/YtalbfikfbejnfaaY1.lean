/- New rows: Zero, Clone, Own. Cuts: Limit, All, JoinIn. Cuts: All, JoinIn. The reference's validity of lists of names and of replicas. Commits: Find, WellFormed, Leq. Leq. How many commits of a station fit. Closed cuts. Changes within a cut. Short lists. -/
import Derived.Test.YtalbfikfbejnfaaY0
namespace Go.Proofs.Ytalbfikfbejnfaa.A
attribute [local go_sem] Nat.reduceAdd Nat.reduceSub Nat.reduceMul Nat.reduceLT Nat.reduceLeDiff Nat.reduceEqDiff Nat.reduceBEq reduceIte reduceCtorEq e_step_none e_slotU e_slotB e_move e_assign e_pick e_unOp e_binOp e_alloc e_box e_build e_buildSlice e_load e_store e_fieldAddr e_field e_indexAddr e_index e_slice e_makeSlice e_makeFunc e_convert e_extract e_nilCheck e_len e_append e_max e_min e_call e_callV e_clo e_ev_tmp e_ev_int e_ev_bool e_ev_string e_ev_slice e_ev_nilFunc e_ev_nilIface e_ev_pointer e_ev_agg e_ev_func e_pickT e_pickF e_not e_neg e_add e_sub e_mul e_quo e_rem e_eql e_neq e_lss e_leq e_gtr e_geq e_beq e_bne e_sadd e_seql e_sneq e_b2_d e_b2_nil e_b2_nnil e_b2_agg e_lits_nil e_lits_cons e_litC e_eqR e_eqO_e e_eqO_n e_eqV4 e_eqV3 e_eqV2 e_eqV1 e_eqFs_nil e_eqFs_cons e_and2 e_eq1 e_eqL_i e_eqL_s e_eqL_b e_allocR e_boxR e_box_agg e_box_d e_box_own e_box_clo e_one_nil e_one_d e_one_own e_one_clo e_one_ptr e_cells_agg e_cells_d e_cells_own e_cells_clo e_cells_ptr e_ob_own e_ob_ptr e_ob_elo e_ob_d e_ob_el e_ob_agg e_load_box e_load_fzb e_load_el e_load_elo e_store_box e_storeB e_store_elo e_store_elo_agg e_storeE e_fa_ptr e_fa_el e_fa_elo e_faR e_fd e_fdR e_ia_d e_ia_row e_ia_fz e_ia_ptr e_ia_el e_ix_s e_ix_a e_len_s e_len_nil e_len_d e_len_row e_len_fz e_conv_i e_conv_s e_extr e_maxR e_minR e_nil_ptr e_nil_el e_nil_elo e_rows_nil e_rows_d e_rows_row e_rows_fz e_rok_nil e_rok_d e_rok_row e_rok_fz e_app_row e_appR e_app_nil e_appN e_make e_bnd_none e_bnd_some e_optmap_none e_optmap_some e_slR e_slRe e_sl_s e_sl_d e_sl_nil e_sl_row e_sl_fz e_fill_nil e_fill_cons e_fill1 e_placeS e_plS e_placeE e_buildO e_build1 e_build2 e_build3 e_bindD e_bs e_bsR e_allD_nil e_allD_cons e_allD1 e_chunk0 e_chunkS e_clP_nil e_clP_cons e_cl_d e_cl_any e_cl_el e_cl_agg e_cl_tup e_cl_clo e_cl_own e_clOwn_row e_clOwn_fz e_cl_ptr e_clPtr_box e_clBox e_clPtr_fzb e_clL_nil e_clL_cons e_ok_d e_ok_any e_ok_el e_ok_agg e_ok_tup e_ok_clo e_ok_own e_okOwn_row e_okOwn_fz e_ok_ptr e_okPtr_box e_okPtr_fzb e_okL_nil e_okL_cons e_ids_d e_ids_any e_ids_el e_ids_own e_ids_ptr e_ids_agg e_ids_tup e_ids_clo e_idsL_nil e_idsL_cons e_frz_nil e_frz_cons e_frz_row e_frz_fz e_frz_fzb e_frz_box e_frzB e_flat_lit e_flat_sl e_flat_agg e_flat_tup e_flat_any e_flat_clo e_flatL_nil e_flatL_cons e_objD e_setMany e_takeA e_zerosA e_gdL e_idsG e_idsOp e_callV' e_callF' e_o_move e_o_assign e_o_pick e_o_unOp e_o_binOp e_o_alloc e_o_box e_o_build e_o_buildSlice e_o_load e_o_store e_o_fieldAddr e_o_field e_o_indexAddr e_o_index e_o_slice0 e_o_slice1 e_o_slice2 e_o_slice3 e_o_makeSlice e_o_makeFunc e_o_convert e_o_extract e_o_nilCheck e_o_bcall e_o_vcall litI litB litS List.map_cons List.map_nil List.getD_cons_zero List.getD_cons_succ List.getD_nil List.getElem?_cons_zero List.getElem?_cons_succ List.getElem?_nil Option.getD_some Option.getD_none Option.map_some Option.map_none List.length_cons List.length_nil List.all_cons List.all_nil Bool.and_true Bool.true_and and_true true_and and_self
attribute [local go_sem] List.take_zero List.take_succ_cons List.drop_zero List.drop_succ_cons List.nil_append List.cons_append List.append_nil List.replicate_succ List.replicate_zero List.flatten_cons List.flatten_nil Nat.zero_add Nat.add_zero Nat.mul_one Nat.zero_mul Nat.one_mul Nat.mul_zero List.set_cons_zero List.set_cons_succ List.foldl_cons List.foldl_nil appendOk rowsOk inB sliceOk cutRows mtake mdrop List.length_append List.length_take List.length_drop if_true if_false or_false or_true true_or Bool.not_true Bool.not_false Bool.false_eq_true List.length_map Int.toNat_natCast Int.toNat_zero Int.toNat_one eq_self St.after St.put applyEff R0 T1 T2 T3 T4 T5 T6 T7 T8 T9 T10 T11 T12 T13 T14 T15 T16 T17 T18 T19 T20 T21 T22 T23 T24 T25 T26 T27 T28 T29 T30 T31 T32 T33 T34 T35 T36 T37 T38 T39 T40 T41 T42 T43 T44 T45 T46 T47 T48 T49 T50 T51 T52 T53 T54 T55 T56 T57 T58 T59 T60 T61 T62 T63 T64 T65 T66 T67 T68 T69 T70 T71 T72 T73 T74 T75 T76 T77 T78 T79 T80 T81 T82 T83 T84 T85 T86 T87 T88 T89 T90 T91 T92 T93 T94 T95 T96 T97 T98 T99 T100 T101 T102 T103 T105 T106 T107 T108 T109 T110 T111 T112 T113 T114 T117 T118 T119 T120 T121 T122 T123 T124 T125 T126 T127 T130 T131 T132 T133 T134 ti1 ti2 ti3 ti4 ti5 ti6 ti7 ti8 ti9 ti10 ti11 ti12 ti13 ti14 ti15 ti16 ti17 ti18 ti19 ti20 ti21 ti22 ti23 ti24 ti25 ti26 ti27 ti28 ti29 ti30 ti31 ti32 ti33 ti34 ti35 ti36 ti37 ti38 ti39 ti40 ti41 ti42 ti43 ti44 ti45 ti46 ti47 ti48 ti49 ti50 ti51 ti52 ti53 ti54 ti55 ti56 ti57 ti58 ti59 ti60 ti61 ti62 ti63 ti64 ti65 ti66 ti67 ti68 ti69 ti70 ti71 ti72 ti73 ti74 ti75 ti76 ti77 ti78 ti79 ti80 ti81 ti82 ti83 ti84 ti85 ti86 ti87 ti88 ti89 ti90 ti91 ti92 ti93 ti94 ti95 ti96 ti97 ti98 ti99 ti100 ti101 ti102 ti103 ti105 ti106 ti107 ti108 ti109 ti110 ti111 ti112 ti113 ti114 ti117 ti118 ti119 ti120 ti121 ti122 ti123 ti124 ti125 ti126 ti127 ti130 ti131 ti132 ti133 ti134
section
set_option linter.unusedVariables false
set_option linter.unusedSimpArgs false
open Go.RowKit
attribute [local irreducible] AWp evOps evD
theorem f57_spec (l : List Nm) (hb0 : l.length ≤ 16777216) : SpecF Try.prog 57 [.d (nms l)] 25 2 (l.map fun n => [.lit (.int .i64 n.1), .lit (.int .i64 n.2)]) := by
  refine specF_of_awp (fn := Try.f57) Try.func57 (by kernel_rfl) rfl ?_
  intro w0 C0
  simp only [Try.ntmps57, litI, litB, litS, List.length_cons, List.length_nil, Nat.reduceAdd, Nat.reduceSub, List.replicate_succ, List.replicate_zero, List.cons_append, List.nil_append]
  repeat' first
    | refine awp_seq ?_
    | refine awp_block ?_
    | refine awp_skip ?_
    | (refine reg _ (by (simp only [List.map_cons, List.map_nil]; rfl)) rfl ?_; intro K hK)
    | (refine awp_cond _ (by rfl) ?_ ?_ <;> (intro hb; first | (cases hb; done) | (have ht : true = true := hb; clear ht hb) | (have ht : false = false := hb; clear ht hb) | (simp only [hb]) | skip))
    | (refine awp_exit ?_; simp only [thenA, blockA, reduceIte, RetQ, Nat.reduceEqDiff])
    | (refine awp_ret ?_; simp only [thenA, blockA, RetQ])
    | (refine ev_nil (hK _ ?_); clear hK K)
    | refine ev_step0 _ _ (by (simp only [go_sem]; rfl)) (by (first | trivial | decide | (simp only [inB, sliceOk, appendOk, rowsOk]; omega) | (simp [inB, sliceOk, appendOk, rowsOk]; omega))) _ (by (simp only [go_sem]; rfl)) ?_
    | (refine ev_step _ (by (simp only [go_sem]; rfl)) (by (first | trivial | decide | (simp only [inB, sliceOk, appendOk, rowsOk]; omega) | (simp [inB, sliceOk, appendOk, rowsOk]; omega))) _ (fun g u => by (simp only [go_sem]; rfl)) ?_; intro g u; (try clear u); (try clear g))
    | fail
  · have : l = [] := by simp at hb; exact hb.1
    subst this
    exact resF_nil T_ok rfl rfl (by simp)
  · exact resF_one T_ok rfl rfl rfl
theorem f82_spec (l : List Int) (hb0 : l.length ≤ 16777216) : SpecF Try.prog 82 [.d (ints l)] 3 1 (l.map fun n => [.lit (.int .i64 n)]) := by
  refine specF_of_awp (fn := Try.f82) Try.func82 (by kernel_rfl) rfl ?_
  intro w0 C0
  simp only [Try.ntmps82, litI, litB, litS, List.length_cons, List.length_nil, Nat.reduceAdd, Nat.reduceSub, List.replicate_succ, List.replicate_zero, List.cons_append, List.nil_append]
  repeat' first
    | refine awp_seq ?_
    | refine awp_block ?_
    | refine awp_skip ?_
    | (refine reg _ (by (simp only [List.map_cons, List.map_nil]; rfl)) rfl ?_; intro K hK)
    | (refine awp_cond _ (by rfl) ?_ ?_ <;> (intro hb; first | (cases hb; done) | (have ht : true = true := hb; clear ht hb) | (have ht : false = false := hb; clear ht hb) | (simp only [hb]) | skip))
    | (refine awp_exit ?_; simp only [thenA, blockA, reduceIte, RetQ, Nat.reduceEqDiff])
    | (refine awp_ret ?_; simp only [thenA, blockA, RetQ])
    | (refine ev_nil (hK _ ?_); clear hK K)
    | refine ev_step0 _ _ (by (simp only [go_sem]; rfl)) (by (first | trivial | decide | (simp only [inB, sliceOk, appendOk, rowsOk]; omega) | (simp [inB, sliceOk, appendOk, rowsOk]; omega))) _ (by (simp only [go_sem]; rfl)) ?_
    | (refine ev_step _ (by (simp only [go_sem]; rfl)) (by (first | trivial | decide | (simp only [inB, sliceOk, appendOk, rowsOk]; omega) | (simp [inB, sliceOk, appendOk, rowsOk]; omega))) _ (fun g u => by (simp only [go_sem]; rfl)) ?_; intro g u; (try clear u); (try clear g))
    | fail
  · have : l = [] := by simp at hb; exact hb.1
    subst this
    exact resF_nil T_ok rfl rfl (by simp)
  · exact resF_one T_ok rfl rfl rfl
abbrev zero6 : List Int := [0, 0, 0, 0, 0, 0]
theorem f44_spec : SpecF Try.prog 44 [] 3 1 (zero6.map fun n => [.lit (.int .i64 n)]) := by
  refine specF_of_awp (fn := Try.f44) Try.func44 (by kernel_rfl) rfl ?_
  intro w0 C0
  simp only [Try.ntmps44, litI, litB, litS, List.length_cons, List.length_nil, Nat.reduceAdd, Nat.reduceSub, List.replicate_succ, List.replicate_zero, List.cons_append, List.nil_append]
  repeat' first
    | refine awp_seq ?_
    | refine awp_block ?_
    | refine awp_skip ?_
    | (refine reg _ (by (simp only [List.map_cons, List.map_nil]; rfl)) rfl ?_; intro K hK)
    | (refine awp_cond _ (by rfl) ?_ ?_ <;> (intro hb; first | (cases hb; done) | (have ht : true = true := hb; clear ht hb) | (have ht : false = false := hb; clear ht hb) | (simp only [hb]) | skip))
    | (refine awp_exit ?_; simp only [thenA, blockA, reduceIte, RetQ, Nat.reduceEqDiff])
    | (refine awp_ret ?_; simp only [thenA, blockA, RetQ])
    | (refine ev_nil (hK _ ?_); clear hK K)
    | refine ev_step0 _ _ (by (simp only [go_sem]; rfl)) (by (first | trivial | decide | (simp only [inB, sliceOk, appendOk, rowsOk]; omega) | (simp [inB, sliceOk, appendOk, rowsOk]; omega))) _ (by (simp only [go_sem]; rfl)) ?_
    | (refine ev_step _ (by (simp only [go_sem]; rfl)) (by (first | trivial | decide | (simp only [inB, sliceOk, appendOk, rowsOk]; omega) | (simp [inB, sliceOk, appendOk, rowsOk]; omega))) _ (fun g u => by (simp only [go_sem]; rfl)) ?_; intro g u; (try clear u); (try clear g))
    | fail
  exact resF_one T_ok rfl rfl rfl
theorem f41_spec (a b : Int) : Spec Try.prog 41 [litI .i64 a, litI .i64 b] (.d (ints [a, b, 0, 0, 0, 0])) := by
  refine spec_of_awp (fn := Try.f41) Try.func41 (by kernel_rfl) rfl ?_
  intro w0 C0
  simp only [Try.ntmps41, litI, litB, litS, List.length_cons, List.length_nil, Nat.reduceAdd, Nat.reduceSub, List.replicate_succ, List.replicate_zero, List.cons_append, List.nil_append]
  repeat' first
    | refine awp_seq ?_
    | refine awp_block ?_
    | refine awp_skip ?_
    | (refine reg _ (by (simp only [List.map_cons, List.map_nil]; rfl)) rfl ?_; intro K hK)
    | (refine awp_cond _ (by rfl) ?_ ?_ <;> (intro hb; first | (cases hb; done) | (have ht : true = true := hb; clear ht hb) | (have ht : false = false := hb; clear ht hb) | (simp only [hb]) | skip))
    | (refine awp_exit ?_; simp only [thenA, blockA, reduceIte, RetQ, Nat.reduceEqDiff])
    | (refine awp_ret ?_; simp only [thenA, blockA, RetQ])
    | (refine ev_nil (hK _ ?_); clear hK K)
    | (refine ev_callF0 _ _ _ _ (by (simp only [go_sem]; rfl)) (by first | exact f44_spec ..) (by (simp only [go_sem])) (by simp) _ (fun u => by (simp only [go_sem]; rfl)) ?_; intro u)
    | refine ev_step0 _ _ (by (simp only [go_sem]; rfl)) (by (first | trivial | decide | (simp only [inB, sliceOk, appendOk, rowsOk]; omega) | (simp [inB, sliceOk, appendOk, rowsOk]; omega))) _ (by (simp only [go_sem]; rfl)) ?_
    | (refine ev_step _ (by (simp only [go_sem]; rfl)) (by (first | trivial | decide | (simp only [inB, sliceOk, appendOk, rowsOk]; omega) | (simp [inB, sliceOk, appendOk, rowsOk]; omega))) _ (fun g u => by (simp only [go_sem]; rfl)) ?_; intro g u; (try clear u); (try clear g))
    | fail
  all_goals (refine resR_one T_ok rfl _ (by (simp only [go_sem, resA]; rfl)) (by first | trivial | (simp only [go_sem, resA])) (by first | trivial | (simp only [go_sem])) ?_; simp only [go_sem])
  exact LeA.refl _
/-- The past of a commit, and the commit. -/
def ownL (past : List Int) (n : Nm) : List Int := past.set n.1.toNat n.2
/-- A commit without operations. -/
abbrev cmt (n : Nm) (past : List Int) : List AV := [litI .i64 n.1, litI .i64 n.2, .d (ints past), litI .i64 0, .d (.lit (.slice none 0 0))]
theorem f43_spec (n : Nm) (past : List Int) (hb0 : past.length ≤ 16777216) (hn : 0 ≤ n.1 ∧ n.1 < past.length) : Spec Try.prog 43 [.agg (cmt n past)] (.d (ints (ownL past n))) := by
  refine spec_of_awp (fn := Try.f43) Try.func43 (by kernel_rfl) rfl ?_
  intro w0 C0
  simp only [Try.ntmps43, litI, litB, litS, List.length_cons, List.length_nil, Nat.reduceAdd, Nat.reduceSub, List.replicate_succ, List.replicate_zero, List.cons_append, List.nil_append]
  repeat' first
    | refine awp_seq ?_
    | refine awp_block ?_
    | refine awp_skip ?_
    | (refine reg _ (by (simp only [List.map_cons, List.map_nil]; rfl)) rfl ?_; intro K hK)
    | (refine awp_cond _ (by rfl) ?_ ?_ <;> (intro hb; first | (cases hb; done) | (have ht : true = true := hb; clear ht hb) | (have ht : false = false := hb; clear ht hb) | (simp only [hb]) | skip))
    | (refine awp_exit ?_; simp only [thenA, blockA, reduceIte, RetQ, Nat.reduceEqDiff])
    | (refine awp_ret ?_; simp only [thenA, blockA, RetQ])
    | (refine ev_nil (hK _ ?_); clear hK K)
    | refine ev_step0 _ _ (by (simp only [go_sem]; rfl)) (by (first | trivial | decide | (simp only [inB, sliceOk, appendOk, rowsOk]; omega) | (simp [inB, sliceOk, appendOk, rowsOk]; omega))) _ (by (simp only [go_sem]; rfl)) ?_
    | (refine ev_step _ (by (simp only [go_sem]; rfl)) (by (first | trivial | decide | (simp only [inB, sliceOk, appendOk, rowsOk]; omega) | (simp [inB, sliceOk, appendOk, rowsOk]; omega))) _ (fun g u => by (simp only [go_sem]; rfl)) ?_; intro g u; (try clear u); (try clear g))
    | fail
  all_goals (refine resR_one T_ok rfl _ (by (simp only [go_sem, resA]; rfl)) (by first | trivial | (simp only [go_sem, resA])) (by first | trivial | (simp only [go_sem])) ?_; simp only [go_sem])
  refine LeA.s ?_
  rw [ints_at past (by omega)]
  simp [ownL, List.map_set]
end
section
set_option linter.unusedVariables false
set_option linter.unusedSimpArgs false
open Go.RowKit
attribute [local irreducible] AWp evOps evD
abbrev bytesD (b : List Int) : Dat := .sl 1 (b.map fun n => [.lit (.int .u8 n)])
theorem bytes_at (l : List Int) {i : Nat} (h : i < l.length) : (l.map fun n => [Dat.lit (.int .u8 n)]).getD i [] = [.lit (.int .u8 (l.getD i 0))] := by
  simp [List.getD_eq_getElem?_getD, h]
/-- A list, its first i put to what bytes say. -/
def limL (b : List Int) (i : Nat) : List Int := (List.range 6).map fun s => if s < i ∧ s < b.length then (b.getD s 0).tmod 6 else 0
theorem limL_len (b : List Int) (i : Nat) : (limL b i).length = 6 := by simp [limL]
theorem limL_succ (b : List Int) (i : Nat) (h1 : i < 6) (h2 : i < b.length) : (limL b i).set i ((b.getD i 0).tmod 6) = limL b (i + 1) := by
  apply List.ext_getElem
  · simp [limL]
  · intro k hk1 hk2
    simp only [limL, List.getElem_set, List.getElem_map, List.getElem_range]
    by_cases hk : i = k
    · subst hk; simp [h2]
    · have h3 : (k < i ∧ k < b.length) ↔ (k < i + 1 ∧ k < b.length) := by omega
      simp only [hk, if_false, h3]
theorem limL_end (b : List Int) (i : Nat) (h : ¬ (i < 6 ∧ i < b.length)) (hi : i ≤ 6) : limL b i = limL b 6 := by
  unfold limL
  apply List.map_congr_left
  intro k hk
  rw [List.mem_range] at hk
  have h3 : (k < i ∧ k < b.length) ↔ (k < 6 ∧ k < b.length) := by omega
  simp only [h3]
theorem f37_spec (b : List Int) (hb : ∀ x ∈ b, 0 ≤ x ∧ x < 256) : Spec Try.prog 37 [.d (bytesD b)] (.d (ints (limL b 6))) := by
  refine spec_of_awp (fn := Try.f37) Try.func37 (by kernel_rfl) rfl ?_
  intro w0 C0
  simp only [Try.ntmps37, litI, litB, litS, List.length_cons, List.length_nil, Nat.reduceAdd, Nat.reduceSub, List.replicate_succ, List.replicate_zero, List.cons_append, List.nil_append]
  repeat' first
    | refine awp_seq ?_
    | refine awp_block ?_
    | refine awp_skip ?_
    | (refine reg _ (by (simp only [List.map_cons, List.map_nil]; rfl)) rfl ?_; intro K hK)
    | (refine awp_cond _ (by rfl) ?_ ?_ <;> (intro hb; first | (cases hb; done) | (have ht : true = true := hb; clear ht hb) | (have ht : false = false := hb; clear ht hb) | (simp only [hb]) | skip))
    | (refine awp_exit ?_; simp only [thenA, blockA, reduceIte, RetQ, Nat.reduceEqDiff])
    | (refine awp_ret ?_; simp only [thenA, blockA, RetQ])
    | (refine ev_nil (hK _ ?_); clear hK K)
    | refine ev_guardU _ (by (simp only [go_sem]; rfl)) (by (simp only [go_sem]; rfl)) _ (by (simp only [go_sem]; rfl)) ?_
    | (refine ev_guardT _ _ (by (simp only [go_sem]; rfl)) (by (simp only [go_sem]; rfl)) ?_ ?_ <;> (intro hb; first | (cases hb; done) | (have ht : true = true := hb; clear ht hb) | (have ht : false = false := hb; clear ht hb) | (simp only [hb]) | skip))
    | (refine ev_guardF _ _ (by (simp only [go_sem]; rfl)) (by (simp only [go_sem]; rfl)) ?_ ?_ <;> (intro hb; first | (cases hb; done) | (have ht : true = true := hb; clear ht hb) | (have ht : false = false := hb; clear ht hb) | (simp only [hb]) | skip))
    | (refine ev_callF0 _ _ _ _ (by (simp only [go_sem]; rfl)) (by first | exact f44_spec ..) (by (simp only [go_sem])) (by simp) _ (fun u => by (simp only [go_sem]; rfl)) ?_; intro u)
    | refine ev_step0 _ _ (by (simp only [go_sem]; rfl)) (by (first | trivial | decide | (simp only [inB, sliceOk, appendOk, rowsOk]; omega) | (simp [inB, sliceOk, appendOk, rowsOk]; omega))) _ (by (simp only [go_sem]; rfl)) ?_
    | (refine ev_step _ (by (simp only [go_sem]; rfl)) (by (first | trivial | decide | (simp only [inB, sliceOk, appendOk, rowsOk]; omega) | (simp [inB, sliceOk, appendOk, rowsOk]; omega))) _ (fun g u => by (simp only [go_sem]; rfl)) ?_; intro g u; (try clear u); (try clear g))
    | fail
  refine awp_loopI (fun i : Nat => i ≤ 6) (fun i => 6 - i) (fun i => ⟨[.d (bytesD b), .any, .d (.lit (.slice none 0 0)), .own 5 u, litI .i64 i, .any, .any, .any, .any, .any, .any, .any, .any, .any, .any, .any, .any, .any, .any, .any, .any, .any, .any, .any, .any, .any, .any, .any], [.no, .no, .no, .no, .no, .row u 3 1 ((limL b i).map fun n => [.lit (.int .i64 n)]), .no, .no, .no, .no, .no, .no, .no, .no, .no, .no, .no, .no, .no, .no, .no, .no, .no, .no, .no, .no, .no, .no]⟩) 0 (by omega) ?_ ?_
  · have h0 : limL b 0 = zero6 := by simp [limL, List.range_succ]
    simp only [h0]
    refine Wk.mk ?_ ?_
    all_goals (repeat' first | exact trivial | exact LeA.refl _ | exact LeA.any _ | exact LeO.refl _ | exact LeO.no _ | exact LeA.nil _ | (refine LeA.i ?_; (first | rfl | (push_cast; rfl) | (rw [wrap_id (by omega)]; push_cast; omega) | (simp [wrap_id]; omega))) | refine ⟨?_, ?_⟩)
  rintro i hi
  simp only [litI, litB]
  have hlen := limL_len b i
  by_cases hlt : i < 6 ∧ i < b.length
  · have h1 : decide ((i : Int) < ((6 : Nat) : Int)) = true := by simp; omega
    have h2 : decide ((i : Int) < (b.length : Int)) = true := by simp; omega
    have hx := bytes_at b hlt.2
    repeat' first
      | refine awp_seq ?_
      | refine awp_block ?_
      | refine awp_skip ?_
      | (refine reg _ (by (simp only [List.map_cons, List.map_nil]; rfl)) rfl ?_; intro K hK)
      | (refine awp_cond _ (by rfl) ?_ ?_ <;> (intro hb; first | (cases hb; done) | (have ht : true = true := hb; clear ht hb) | (have ht : false = false := hb; clear ht hb) | (simp only [hb]) | skip))
      | (refine awp_exit ?_; simp only [thenA, blockA, reduceIte, RetQ, Nat.reduceEqDiff])
      | (refine awp_ret ?_; simp only [thenA, blockA, RetQ])
      | (refine ev_nil (hK _ ?_); clear hK K)
      | refine ev_guardU _ (by (simp only [go_sem, hlen, h1, h2, hx]; rfl)) (by (simp only [go_sem, hlen, h1, h2, hx]; rfl)) _ (by (simp only [go_sem, hlen, h1, h2, hx]; rfl)) ?_
      | (refine ev_guardT _ _ (by (simp only [go_sem, hlen, h1, h2, hx]; rfl)) (by (simp only [go_sem, hlen, h1, h2, hx]; rfl)) ?_ ?_ <;> (intro hb; first | (cases hb; done) | (have ht : true = true := hb; clear ht hb) | (have ht : false = false := hb; clear ht hb) | (simp only [hb]) | skip))
      | (refine ev_guardF _ _ (by (simp only [go_sem, hlen, h1, h2, hx]; rfl)) (by (simp only [go_sem, hlen, h1, h2, hx]; rfl)) ?_ ?_ <;> (intro hb; first | (cases hb; done) | (have ht : true = true := hb; clear ht hb) | (have ht : false = false := hb; clear ht hb) | (simp only [hb]) | skip))
      | refine ev_step0 _ _ (by (simp only [go_sem, hlen, h1, h2, hx]; rfl)) (by (first | trivial | decide | (simp only [inB, sliceOk, appendOk, rowsOk]; omega) | (simp [inB, sliceOk, appendOk, rowsOk]; omega))) _ (by (simp only [go_sem, hlen, h1, h2, hx]; rfl)) ?_
      | (refine ev_step _ (by (simp only [go_sem, hlen, h1, h2, hx]; rfl)) (by (first | trivial | decide | (simp only [inB, sliceOk, appendOk, rowsOk]; omega) | (simp [inB, sliceOk, appendOk, rowsOk]; omega))) _ (fun g u => by (simp only [go_sem, hlen, h1, h2, hx]; rfl)) ?_; intro g u; (try clear u); (try clear g))
      | fail
    refine Exists.intro (i + 1) ⟨by omega, by omega, ?_⟩
    have hmem : b.getD i 0 ∈ b := by rw [List.getD_eq_getElem?_getD, List.getElem?_eq_getElem hlt.2]; exact List.getElem_mem hlt.2
    have hr := hb _ hmem
    have hw : IntKind.i64.wrap ((b.getD i 0).tmod 6) = (b.getD i 0).tmod 6 := wrap_id (by
      rw [Int.tmod_eq_emod_of_nonneg hr.1]; omega)
    have ho : (((limL b i).map fun n => [Dat.lit (.int .i64 n)]).set i (Dat.lit (.int .i64 (IntKind.i64.wrap ((b.getD i 0).tmod 6))) :: List.drop 1 (((limL b i).map fun n => [Dat.lit (.int .i64 n)]).getD i []))) = (limL b (i + 1)).map fun n => [Dat.lit (.int .i64 n)] := by
      rw [ints_at (limL b i) (by omega), hw, ← limL_succ b i hlt.1 hlt.2, List.map_set]
      rfl
    rw [ho]
    refine Wk.mk ?_ ?_
    all_goals (repeat' first | exact trivial | exact LeA.refl _ | exact LeA.any _ | exact LeO.refl _ | exact LeO.no _ | exact LeA.nil _ | (refine LeA.i ?_; (first | rfl | (push_cast; rfl) | (rw [wrap_id (by omega)]; push_cast; omega) | (simp [wrap_id]; omega))) | refine ⟨?_, ?_⟩)
  by_cases hlt6 : i < 6
  · have h1 : decide ((i : Int) < ((6 : Nat) : Int)) = true := by simp; omega
    have h2 : decide ((i : Int) < (b.length : Int)) = false := by simp; omega
    repeat' first
      | refine awp_seq ?_
      | refine awp_block ?_
      | refine awp_skip ?_
      | (refine reg _ (by (simp only [List.map_cons, List.map_nil]; rfl)) rfl ?_; intro K hK)
      | (refine awp_cond _ (by rfl) ?_ ?_ <;> (intro hb; first | (cases hb; done) | (have ht : true = true := hb; clear ht hb) | (have ht : false = false := hb; clear ht hb) | (simp only [hb]) | skip))
      | (refine awp_exit ?_; simp only [thenA, blockA, reduceIte, RetQ, Nat.reduceEqDiff])
      | (refine awp_ret ?_; simp only [thenA, blockA, RetQ])
      | (refine ev_nil (hK _ ?_); clear hK K)
      | refine ev_guardU _ (by (simp only [go_sem, hlen, h1, h2]; rfl)) (by (simp only [go_sem, hlen, h1, h2]; rfl)) _ (by (simp only [go_sem, hlen, h1, h2]; rfl)) ?_
      | (refine ev_guardT _ _ (by (simp only [go_sem, hlen, h1, h2]; rfl)) (by (simp only [go_sem, hlen, h1, h2]; rfl)) ?_ ?_ <;> (intro hb; first | (cases hb; done) | (have ht : true = true := hb; clear ht hb) | (have ht : false = false := hb; clear ht hb) | (simp only [hb]) | skip))
      | (refine ev_guardF _ _ (by (simp only [go_sem, hlen, h1, h2]; rfl)) (by (simp only [go_sem, hlen, h1, h2]; rfl)) ?_ ?_ <;> (intro hb; first | (cases hb; done) | (have ht : true = true := hb; clear ht hb) | (have ht : false = false := hb; clear ht hb) | (simp only [hb]) | skip))
      | refine ev_step0 _ _ (by (simp only [go_sem, hlen, h1, h2]; rfl)) (by (first | trivial | decide | (simp only [inB, sliceOk, appendOk, rowsOk]; omega) | (simp [inB, sliceOk, appendOk, rowsOk]; omega))) _ (by (simp only [go_sem, hlen, h1, h2]; rfl)) ?_
      | (refine ev_step _ (by (simp only [go_sem, hlen, h1, h2]; rfl)) (by (first | trivial | decide | (simp only [inB, sliceOk, appendOk, rowsOk]; omega) | (simp [inB, sliceOk, appendOk, rowsOk]; omega))) _ (fun g u => by (simp only [go_sem, hlen, h1, h2]; rfl)) ?_; intro g u; (try clear u); (try clear g))
      | fail
    all_goals (refine resR_one T_ok rfl _ (by (simp only [go_sem, resA]; rfl)) (by first | trivial | (simp only [go_sem, resA])) (by first | trivial | (simp only [go_sem])) ?_; simp only [go_sem])
    exact LeA.s (by rw [limL_end b i hlt hi])
  · have h1 : decide ((i : Int) < ((6 : Nat) : Int)) = false := by simp; omega
    repeat' first
      | refine awp_seq ?_
      | refine awp_block ?_
      | refine awp_skip ?_
      | (refine reg _ (by (simp only [List.map_cons, List.map_nil]; rfl)) rfl ?_; intro K hK)
      | (refine awp_cond _ (by rfl) ?_ ?_ <;> (intro hb; first | (cases hb; done) | (have ht : true = true := hb; clear ht hb) | (have ht : false = false := hb; clear ht hb) | (simp only [hb]) | skip))
      | (refine awp_exit ?_; simp only [thenA, blockA, reduceIte, RetQ, Nat.reduceEqDiff])
      | (refine awp_ret ?_; simp only [thenA, blockA, RetQ])
      | (refine ev_nil (hK _ ?_); clear hK K)
      | refine ev_guardU _ (by (simp only [go_sem, hlen, h1]; rfl)) (by (simp only [go_sem, hlen, h1]; rfl)) _ (by (simp only [go_sem, hlen, h1]; rfl)) ?_
      | (refine ev_guardT _ _ (by (simp only [go_sem, hlen, h1]; rfl)) (by (simp only [go_sem, hlen, h1]; rfl)) ?_ ?_ <;> (intro hb; first | (cases hb; done) | (have ht : true = true := hb; clear ht hb) | (have ht : false = false := hb; clear ht hb) | (simp only [hb]) | skip))
      | (refine ev_guardF _ _ (by (simp only [go_sem, hlen, h1]; rfl)) (by (simp only [go_sem, hlen, h1]; rfl)) ?_ ?_ <;> (intro hb; first | (cases hb; done) | (have ht : true = true := hb; clear ht hb) | (have ht : false = false := hb; clear ht hb) | (simp only [hb]) | skip))
      | refine ev_step0 _ _ (by (simp only [go_sem, hlen, h1]; rfl)) (by (first | trivial | decide | (simp only [inB, sliceOk, appendOk, rowsOk]; omega) | (simp [inB, sliceOk, appendOk, rowsOk]; omega))) _ (by (simp only [go_sem, hlen, h1]; rfl)) ?_
      | (refine ev_step _ (by (simp only [go_sem, hlen, h1]; rfl)) (by (first | trivial | decide | (simp only [inB, sliceOk, appendOk, rowsOk]; omega) | (simp [inB, sliceOk, appendOk, rowsOk]; omega))) _ (fun g u => by (simp only [go_sem, hlen, h1]; rfl)) ?_; intro g u; (try clear u); (try clear g))
      | fail
    all_goals (refine resR_one T_ok rfl _ (by (simp only [go_sem, resA]; rfl)) (by first | trivial | (simp only [go_sem, resA])) (by first | trivial | (simp only [go_sem])) ?_; simp only [go_sem])
    exact LeA.s (by rw [limL_end b i hlt hi])
end
section
set_option linter.unusedVariables false
set_option linter.unusedSimpArgs false
open Go.RowKit
attribute [local irreducible] AWp evOps evD
theorem f62_spec : Spec Try.prog 62 [] (.d (ints (List.replicate 6 999))) := by
  refine spec_of_awp (fn := Try.f62) Try.func62 (by kernel_rfl) rfl ?_
  intro w0 C0
  simp only [Try.ntmps62, litI, litB, litS, List.length_cons, List.length_nil, Nat.reduceAdd, Nat.reduceSub, List.replicate_succ, List.replicate_zero, List.cons_append, List.nil_append]
  repeat' first
    | refine awp_seq ?_
    | refine awp_block ?_
    | refine awp_skip ?_
    | (refine reg _ (by (simp only [List.map_cons, List.map_nil]; rfl)) rfl ?_; intro K hK)
    | (refine awp_cond _ (by rfl) ?_ ?_ <;> (intro hb; first | (cases hb; done) | (have ht : true = true := hb; clear ht hb) | (have ht : false = false := hb; clear ht hb) | (simp only [hb]) | skip))
    | (refine awp_exit ?_; simp only [thenA, blockA, reduceIte, RetQ, Nat.reduceEqDiff])
    | (refine awp_ret ?_; simp only [thenA, blockA, RetQ])
    | (refine ev_nil (hK _ ?_); clear hK K)
    | refine ev_step0 _ _ (by (simp only [go_sem]; rfl)) (by (first | trivial | decide | (simp only [inB, sliceOk, appendOk, rowsOk]; omega) | (simp [inB, sliceOk, appendOk, rowsOk]; omega))) _ (by (simp only [go_sem]; rfl)) ?_
    | (refine ev_step _ (by (simp only [go_sem]; rfl)) (by (first | trivial | decide | (simp only [inB, sliceOk, appendOk, rowsOk]; omega) | (simp [inB, sliceOk, appendOk, rowsOk]; omega))) _ (fun g u => by (simp only [go_sem]; rfl)) ?_; intro g u; (try clear u); (try clear g))
    | fail
  refine awp_loopI (fun i : Nat × Value => i.1 ≤ 6) (fun i => 6 - i.1) (fun i => ⟨[.d (.lit (.slice none 0 0)), .own 3 i.2, litI .i64 i.1, .any, .any, .any, .any, .any, .any, .any, .any, .any], [.no, .no, .no, .row i.2 3 1 ((List.replicate i.1 (999 : Int)).map fun n => [.lit (.int .i64 n)]), .no, .no, .no, .no, .no, .no, .no, .no]⟩) (0, u) (by simp) ?_ ?_
  · refine Wk.mk ?_ ?_
    all_goals (repeat' first | exact trivial | exact LeA.refl _ | exact LeA.any _ | exact LeO.refl _ | exact LeO.no _ | exact LeA.nil _ | (refine LeA.i ?_; (first | rfl | (push_cast; rfl) | (rw [wrap_id (by omega)]; push_cast; omega) | (simp [wrap_id]; omega))) | refine ⟨?_, ?_⟩)
  rintro ⟨i, v⟩ hi
  simp only [litI, litB] at hi ⊢
  by_cases hlt : i < 6
  · have h1 : decide ((i : Int) < 6) = true := by simp; omega
    have hlen : (List.replicate i (999 : Int)).length = i := by simp
    repeat' first
      | refine awp_seq ?_
      | refine awp_block ?_
      | refine awp_skip ?_
      | (refine reg _ (by (simp only [List.map_cons, List.map_nil]; rfl)) rfl ?_; intro K hK)
      | (refine awp_cond _ (by rfl) ?_ ?_ <;> (intro hb; first | (cases hb; done) | (have ht : true = true := hb; clear ht hb) | (have ht : false = false := hb; clear ht hb) | (simp only [hb]) | skip))
      | (refine awp_exit ?_; simp only [thenA, blockA, reduceIte, RetQ, Nat.reduceEqDiff])
      | (refine awp_ret ?_; simp only [thenA, blockA, RetQ])
      | (refine ev_nil (hK _ ?_); clear hK K)
      | refine ev_step0 _ _ (by (simp only [go_sem, h1, hlen]; rfl)) (by (first | trivial | decide | (simp only [inB, sliceOk, appendOk, rowsOk]; omega) | (simp [inB, sliceOk, appendOk, rowsOk]; omega))) _ (by (simp only [go_sem, h1, hlen]; rfl)) ?_
      | (refine ev_step _ (by (simp only [go_sem, h1, hlen]; rfl)) (by (first | trivial | decide | (simp only [inB, sliceOk, appendOk, rowsOk]; omega) | (simp [inB, sliceOk, appendOk, rowsOk]; omega))) _ (fun g u => by (simp only [go_sem, h1, hlen]; rfl)) ?_; intro g u; (try clear u); (try clear g))
      | fail
    refine Exists.intro (i + 1, u) ⟨by simp; omega, by simp; omega, ?_⟩
    have ho : ((List.replicate i (999 : Int)).map fun n => [Dat.lit (.int .i64 n)]) ++ [[Dat.lit (.int .i64 999)]] = (List.replicate (i + 1) (999 : Int)).map fun n => [Dat.lit (.int .i64 n)] := by
      rw [List.replicate_succ']; simp
    simp only [ho]
    refine Wk.mk ?_ ?_
    all_goals (repeat' first | exact trivial | exact LeA.refl _ | exact LeA.any _ | exact LeO.refl _ | exact LeO.no _ | exact LeA.nil _ | (refine LeA.i ?_; (first | rfl | (push_cast; rfl) | (rw [wrap_id (by omega)]; push_cast; omega) | (simp [wrap_id]; omega))) | refine ⟨?_, ?_⟩)
  · have h1 : decide ((i : Int) < 6) = false := by simp; omega
    have : i = 6 := by omega
    repeat' first
      | refine awp_seq ?_
      | refine awp_block ?_
      | refine awp_skip ?_
      | (refine reg _ (by (simp only [List.map_cons, List.map_nil]; rfl)) rfl ?_; intro K hK)
      | (refine awp_cond _ (by rfl) ?_ ?_ <;> (intro hb; first | (cases hb; done) | (have ht : true = true := hb; clear ht hb) | (have ht : false = false := hb; clear ht hb) | (simp only [hb]) | skip))
      | (refine awp_exit ?_; simp only [thenA, blockA, reduceIte, RetQ, Nat.reduceEqDiff])
      | (refine awp_ret ?_; simp only [thenA, blockA, RetQ])
      | (refine ev_nil (hK _ ?_); clear hK K)
      | refine ev_step0 _ _ (by (simp only [go_sem, h1]; rfl)) (by (first | trivial | decide | (simp only [inB, sliceOk, appendOk, rowsOk]; omega) | (simp [inB, sliceOk, appendOk, rowsOk]; omega))) _ (by (simp only [go_sem, h1]; rfl)) ?_
      | (refine ev_step _ (by (simp only [go_sem, h1]; rfl)) (by (first | trivial | decide | (simp only [inB, sliceOk, appendOk, rowsOk]; omega) | (simp [inB, sliceOk, appendOk, rowsOk]; omega))) _ (fun g u => by (simp only [go_sem, h1]; rfl)) ?_; intro g u; (try clear u); (try clear g))
      | fail
    all_goals (refine resR_one T_ok rfl _ (by (simp only [go_sem, resA]; rfl)) (by first | trivial | (simp only [go_sem, resA])) (by first | trivial | (simp only [go_sem])) ?_; simp only [go_sem])
    exact LeA.s (by rw [this]; rfl)
def cutsOk (a b : List Int) : Bool := cutV a && cutV b
def joinL (a b : List Int) : List Int := if cutsOk a b = true then List.zipWith max a b else []
def joinE (a b : List Int) : Int := if cutsOk a b = true then 0 else 200
theorem zip_take (a b : List Int) {i : Nat} (h1 : i < a.length) (h2 : i < b.length) : (List.zipWith max a b).take (i + 1) = (List.zipWith max a b).take i ++ [max (a.getD i 0) (b.getD i 0)] := by
  have h : i < (List.zipWith max a b).length := by simp; omega
  rw [List.take_succ_eq_append_getElem h]
  simp [List.getD_eq_getElem?_getD, h1, h2]
theorem join_bad {a b : List Int} (h : cutsOk a b = false) : LeA (.agg [.d (.lit (.slice none 0 0)), .d (.lit (.int .i64 200))]) (.agg [.d (ints (joinL a b)), litI .i64 (joinE a b)]) := by
  refine LeA.agg ⟨?_, ?_, trivial⟩
  · have : joinL a b = [] := by simp [joinL, h]
    rw [this]; exact LeA.nil 1
  · exact LeA.i (by simp [joinE, h])
theorem f38_spec (a b : List Int) : Spec Try.prog 38 [.d (ints a), .d (ints b)] (.agg [.d (ints (joinL a b)), litI .i64 (joinE a b)]) := by
  refine spec_of_awp (fn := Try.f38) Try.func38 (by kernel_rfl) rfl ?_
  intro w0 C0
  simp only [Try.ntmps38, litI, litB, litS, List.length_cons, List.length_nil, Nat.reduceAdd, Nat.reduceSub, List.replicate_succ, List.replicate_zero, List.cons_append, List.nil_append]
  repeat' first
    | refine awp_seq ?_
    | refine awp_block ?_
    | refine awp_skip ?_
    | (refine reg _ (by (simp only [List.map_cons, List.map_nil]; rfl)) rfl ?_; intro K hK)
    | (refine awp_cond _ (by rfl) ?_ ?_ <;> (intro hb; first | (cases hb; done) | (have ht : true = true := hb; clear ht hb) | (have ht : false = false := hb; clear ht hb) | (simp only [hb]) | skip))
    | (refine awp_exit ?_; simp only [thenA, blockA, reduceIte, RetQ, Nat.reduceEqDiff])
    | (refine awp_ret ?_; simp only [thenA, blockA, RetQ])
    | (refine ev_nil (hK _ ?_); clear hK K)
    | refine ev_guardU _ (by (simp only [go_sem]; rfl)) (by (simp only [go_sem]; rfl)) _ (by (simp only [go_sem]; rfl)) ?_
    | (refine ev_guardT _ _ (by (simp only [go_sem]; rfl)) (by (simp only [go_sem]; rfl)) ?_ ?_ <;> (intro hb; first | (cases hb; done) | (have ht : true = true := hb; clear ht hb) | (have ht : false = false := hb; clear ht hb) | (simp only [hb]) | skip))
    | (refine ev_guardF _ _ (by (simp only [go_sem]; rfl)) (by (simp only [go_sem]; rfl)) ?_ ?_ <;> (intro hb; first | (cases hb; done) | (have ht : true = true := hb; clear ht hb) | (have ht : false = false := hb; clear ht hb) | (simp only [hb]) | skip))
    | refine ev_call0 _ _ (by (simp only [go_sem]; rfl)) (by first | exact f53_spec ..) (by (simp only [go_sem])) _ (by (simp only [go_sem]; rfl)) ?_
    | refine ev_callC _ _ _ _ (by (simp only [go_sem]; rfl)) (by (simp only [go_sem]; rfl)) (by first | exact f53_spec ..) (by (simp only [go_sem])) _ (by (simp only [go_sem]; rfl)) ?_
    | refine ev_step0 _ _ (by (simp only [go_sem]; rfl)) (by (first | trivial | decide | (simp only [inB, sliceOk, appendOk, rowsOk]; omega) | (simp [inB, sliceOk, appendOk, rowsOk]; omega))) _ (by (simp only [go_sem]; rfl)) ?_
    | (refine ev_step _ (by (simp only [go_sem]; rfl)) (by (first | trivial | decide | (simp only [inB, sliceOk, appendOk, rowsOk]; omega) | (simp [inB, sliceOk, appendOk, rowsOk]; omega))) _ (fun g u => by (simp only [go_sem]; rfl)) ?_; intro g u; (try clear u); (try clear g))
    | fail
  · all_goals (refine resR_one T_ok rfl _ (by (simp only [go_sem, resA]; rfl)) (by first | trivial | (simp only [go_sem, resA])) (by first | trivial | (simp only [go_sem])) ?_; simp only [go_sem])
    exact join_bad (by simp_all [cutsOk])
  rotate_left
  · all_goals (refine resR_one T_ok rfl _ (by (simp only [go_sem, resA]; rfl)) (by first | trivial | (simp only [go_sem, resA])) (by first | trivial | (simp only [go_sem])) ?_; simp only [go_sem])
    exact join_bad (by simp_all [cutsOk])
  have hok : cutsOk a b = true := by simp_all [cutsOk]
  have ha : a.length = 6 := by simp [cutsOk, cutV] at hok; omega
  have hb6 : b.length = 6 := by simp [cutsOk, cutV] at hok; omega
  refine awp_loopI (fun i : Nat × Value => i.1 ≤ a.length) (fun i => a.length - i.1) (fun i => ⟨[.d (ints a), .d (ints b), .any, .any, .ptr 4 g 0, .own 16 i.2, litI .i64 i.1, .any, .any, .any, .any, .any, .any, .any, .any, .any, .any, .any, .any, .any, .any, .any, .any, .any, .any, .any, .any, .any, .any, .any, .any, .any, .any, .any, .any, .any, .any], [.no, .no, .no, .no, .box g [.d (.lit (.slice none 0 0)), litI .i64 0], .no, .no, .no, .no, .no, .no, .no, .no, .no, .no, .no, .row i.2 3 1 (((List.zipWith max a b).take i.1).map fun n => [.lit (.int .i64 n)]), .no, .no, .no, .no, .no, .no, .no, .no, .no, .no, .no, .no, .no, .no, .no, .no, .no, .no, .no, .no]⟩) (0, u) (by simp) ?_ ?_
  · refine Wk.mk ?_ ?_
    all_goals (repeat' first | exact trivial | exact LeA.refl _ | exact LeA.any _ | exact LeO.refl _ | exact LeO.no _ | exact LeA.nil _ | (refine LeA.i ?_; (first | rfl | (push_cast; rfl) | (rw [wrap_id (by omega)]; push_cast; omega) | (simp [wrap_id]; omega))) | refine ⟨?_, ?_⟩)
  rintro ⟨i, v⟩ hi
  simp only [litI, litB] at hi ⊢
  by_cases hlt : i < a.length
  rotate_left
  have hdec : decide ((i : Int) < (a.length : Int)) = false := by simp; omega
  · repeat' first
      | refine awp_seq ?_
      | refine awp_block ?_
      | refine awp_skip ?_
      | (refine reg _ (by (simp only [List.map_cons, List.map_nil]; rfl)) rfl ?_; intro K hK)
      | (refine awp_cond _ (by rfl) ?_ ?_ <;> (intro hb; first | (cases hb; done) | (have ht : true = true := hb; clear ht hb) | (have ht : false = false := hb; clear ht hb) | (simp only [hb]) | skip))
      | (refine awp_exit ?_; simp only [thenA, blockA, reduceIte, RetQ, Nat.reduceEqDiff])
      | (refine awp_ret ?_; simp only [thenA, blockA, RetQ])
      | (refine ev_nil (hK _ ?_); clear hK K)
      | refine ev_guardU _ (by (simp only [go_sem, hdec]; rfl)) (by (simp only [go_sem, hdec]; rfl)) _ (by (simp only [go_sem, hdec]; rfl)) ?_
      | (refine ev_guardT _ _ (by (simp only [go_sem, hdec]; rfl)) (by (simp only [go_sem, hdec]; rfl)) ?_ ?_ <;> (intro hb; first | (cases hb; done) | (have ht : true = true := hb; clear ht hb) | (have ht : false = false := hb; clear ht hb) | (simp only [hb]) | skip))
      | (refine ev_guardF _ _ (by (simp only [go_sem, hdec]; rfl)) (by (simp only [go_sem, hdec]; rfl)) ?_ ?_ <;> (intro hb; first | (cases hb; done) | (have ht : true = true := hb; clear ht hb) | (have ht : false = false := hb; clear ht hb) | (simp only [hb]) | skip))
      | refine ev_step0 _ _ (by (simp only [go_sem, hdec]; rfl)) (by (first | trivial | decide | (simp only [inB, sliceOk, appendOk, rowsOk]; omega) | (simp [inB, sliceOk, appendOk, rowsOk]; omega))) _ (by (simp only [go_sem, hdec]; rfl)) ?_
      | (refine ev_step _ (by (simp only [go_sem, hdec]; rfl)) (by (first | trivial | decide | (simp only [inB, sliceOk, appendOk, rowsOk]; omega) | (simp [inB, sliceOk, appendOk, rowsOk]; omega))) _ (fun g u => by (simp only [go_sem, hdec]; rfl)) ?_; intro g u; (try clear u); (try clear g))
      | fail
    all_goals (refine resR_one T_ok rfl _ (by (simp only [go_sem, resA]; rfl)) (by first | trivial | (simp only [go_sem, resA])) (by first | trivial | (simp only [go_sem])) ?_; simp only [go_sem])
    refine LeA.agg ⟨LeA.s ?_, LeA.i (by simp [joinE, hok]), trivial⟩
    rw [List.take_of_length_le (by simp; omega)]
    simp [joinL, hok]
  have hdec : decide ((i : Int) < (a.length : Int)) = true := by simp; omega
  have hltb : i < b.length := by omega
  have hx := ints_at a hlt
  have hy := ints_at b hltb
  have hz := zip_take a b hlt hltb
  have hlen : ((List.zipWith max a b).take i).length = i := by simp; omega
  generalize a.getD i 0 = x at *
  generalize b.getD i 0 = y at *
  generalize (List.zipWith max a b).take i = zl at *
  repeat' first
    | refine awp_seq ?_
    | refine awp_block ?_
    | refine awp_skip ?_
    | (refine reg _ (by (simp only [List.map_cons, List.map_nil]; rfl)) rfl ?_; intro K hK)
    | (refine awp_cond _ (by rfl) ?_ ?_ <;> (intro hb; first | (cases hb; done) | (have ht : true = true := hb; clear ht hb) | (have ht : false = false := hb; clear ht hb) | (simp only [hb]) | skip))
    | (refine awp_exit ?_; simp only [thenA, blockA, reduceIte, RetQ, Nat.reduceEqDiff])
    | (refine awp_ret ?_; simp only [thenA, blockA, RetQ])
    | (refine ev_nil (hK _ ?_); clear hK K)
    | refine ev_guardU _ (by (simp only [go_sem, hdec, hx, hy]; rfl)) (by (simp only [go_sem, hdec, hx, hy]; rfl)) _ (by (simp only [go_sem, hdec, hx, hy]; rfl)) ?_
    | (refine ev_guardT _ _ (by (simp only [go_sem, hdec, hx, hy]; rfl)) (by (simp only [go_sem, hdec, hx, hy]; rfl)) ?_ ?_ <;> (intro hb; first | (cases hb; done) | (have ht : true = true := hb; clear ht hb) | (have ht : false = false := hb; clear ht hb) | (simp only [hb]) | skip))
    | (refine ev_guardF _ _ (by (simp only [go_sem, hdec, hx, hy]; rfl)) (by (simp only [go_sem, hdec, hx, hy]; rfl)) ?_ ?_ <;> (intro hb; first | (cases hb; done) | (have ht : true = true := hb; clear ht hb) | (have ht : false = false := hb; clear ht hb) | (simp only [hb]) | skip))
    | (apply regD; (case hd => (simp only [List.map_cons, List.map_nil]; rfl)); (case hok => rfl); (case' h => (intro K hK; (repeat' first
        | (apply evd_nil; refine (hK _ ?_); clear hK K)
        | (apply evd_guardU0; (case hj => (simp only [go_sem, hdec, hx, hy]; try rfl)); (case hu => (simp only [go_sem, hdec, hx, hy])); (case hσ => (simp only [go_sem, hdec, hx, hy]; try rfl)))
        | (apply evd_skipT0; (case hj => (simp only [go_sem, hdec, hx, hy]; try rfl)); (case hb => (simp only [go_sem, hdec, hx, hy]; try rfl)); (case hσ => (simp only [go_sem, hdec, hx, hy]; try rfl)))
        | (apply evd_skipF0; (case hj => (simp only [go_sem, hdec, hx, hy]; try rfl)); (case hb => (simp only [go_sem, hdec, hx, hy]; try rfl)); (case hσ => (simp only [go_sem, hdec, hx, hy]; try rfl)))
        | (apply evd_guardU; (case hj => (simp only [go_sem, hdec, hx, hy]; try rfl)); (case hu => (simp only [go_sem, hdec, hx, hy])); (case hσ => (simp only [go_sem, hdec, hx, hy]; try rfl)))
        | (apply evd_skipT; (case hj => (simp only [go_sem, hdec, hx, hy]; try rfl)); (case hb => (simp only [go_sem, hdec, hx, hy]; try rfl)); (case hσ => (simp only [go_sem, hdec, hx, hy]; try rfl)))
        | (apply evd_skipF; (case hj => (simp only [go_sem, hdec, hx, hy]; try rfl)); (case hb => (simp only [go_sem, hdec, hx, hy]; try rfl)); (case hσ => (simp only [go_sem, hdec, hx, hy]; try rfl)))
        | (apply evd_guardT; (case hj => (simp only [go_sem, hdec, hx, hy]; try rfl)); (case hb => (simp only [go_sem, hdec, hx, hy]; try rfl)); (case' h2 => (intro hb; first | (cases hb; done) | (simp only [hb]) | skip)); (case' h1 => (intro hb; first | (cases hb; done) | (simp only [hb]) | skip)))
        | (apply evd_guardF; (case hj => (simp only [go_sem, hdec, hx, hy]; try rfl)); (case hb => (simp only [go_sem, hdec, hx, hy]; try rfl)); (case' h2 => (intro hb; first | (cases hb; done) | (simp only [hb]) | skip)); (case' h1 => (intro hb; first | (cases hb; done) | (simp only [hb]) | skip)))
        | (apply evd_step0; (case hr => (simp only [go_sem, hdec, hx, hy]; try rfl)); (case hi => (simp only [go_sem, hdec, hx, hy]; try rfl)); (case hc => (first | trivial | decide | (simp only [inB, sliceOk, appendOk, rowsOk]; omega) | (simp [inB, sliceOk, appendOk, rowsOk]; omega))); (case hσ => (simp only [go_sem, hdec, hx, hy]; try rfl)))
        | (apply evd_step; (case hr => (simp only [go_sem, hdec, hx, hy]; try rfl)); (case hi => (simp only [go_sem, hdec, hx, hy]; try rfl)); (case hc => (first | trivial | decide | (simp only [inB, sliceOk, appendOk, rowsOk]; omega) | (simp [inB, sliceOk, appendOk, rowsOk]; omega))); (case hw => (intro g u; simp only [go_sem, hdec, hx, hy]; try rfl)); (case hσ => (intro g u; simp only [go_sem, hdec, hx, hy]; try rfl)); (case' hk => (intro g u; (try clear u); (try clear g))))
        | fail))); (case hB => kernel_rfl))
    | refine ev_step0 _ _ (by (simp only [go_sem, hdec, hx, hy]; rfl)) (by (first | trivial | decide | (simp only [inB, sliceOk, appendOk, rowsOk]; omega) | (simp [inB, sliceOk, appendOk, rowsOk]; omega))) _ (by (simp only [go_sem, hdec, hx, hy]; rfl)) ?_
    | (refine ev_step _ (by (simp only [go_sem, hdec, hx, hy]; rfl)) (by (first | trivial | decide | (simp only [inB, sliceOk, appendOk, rowsOk]; omega) | (simp [inB, sliceOk, appendOk, rowsOk]; omega))) _ (fun g u => by (simp only [go_sem, hdec, hx, hy]; rfl)) ?_; intro g u; (try clear u); (try clear g))
    | fail
  refine Exists.intro (i + 1, u) ⟨by simp; omega, by simp; omega, ?_⟩
  have hm : (if y > x then y else x) = max x y := by rw [Int.max_def]; split <;> split <;> omega
  simp only [hz, hm, List.map_append, List.map_cons, List.map_nil]
  refine Wk.mk ?_ ?_
  all_goals (repeat' first | exact trivial | exact LeA.refl _ | exact LeA.any _ | exact LeO.refl _ | exact LeO.no _ | exact LeA.nil _ | (refine LeA.i ?_; (first | rfl | (push_cast; rfl) | (rw [wrap_id (by omega)]; push_cast; omega) | (simp [wrap_id]; omega))) | refine ⟨?_, ?_⟩)
end
section
set_option linter.unusedVariables false
set_option linter.unusedSimpArgs false
open Go.RowKit
attribute [local irreducible] AWp evOps evD
def befo (l : List Nm) (i : Nat) : Nm := if i = 0 then (-1, 0) else l.getD (i - 1) (0, 0)
theorem f17_spec (l : List Nm) : Spec Try.prog 17 [.d (nms l)] (litB (sortedN (-1, 0) l)) := by
  refine spec_of_awp (fn := Try.f17) Try.func17 (by kernel_rfl) rfl ?_
  intro w0 C0
  simp only [Try.ntmps17, litI, litB, litS, List.length_cons, List.length_nil, Nat.reduceAdd, Nat.reduceSub, List.replicate_succ, List.replicate_zero, List.cons_append, List.nil_append]
  refine awp_len 0 rfl fun hl => ?_
  simp only [List.length_map] at hl
  repeat' first
    | refine awp_seq ?_
    | refine awp_block ?_
    | refine awp_skip ?_
    | (refine reg _ (by (simp only [List.map_cons, List.map_nil]; rfl)) rfl ?_; intro K hK)
    | (refine awp_cond _ (by rfl) ?_ ?_ <;> (intro hb; first | (cases hb; done) | (have ht : true = true := hb; clear ht hb) | (have ht : false = false := hb; clear ht hb) | (simp only [hb]) | skip))
    | (refine awp_exit ?_; simp only [thenA, blockA, reduceIte, RetQ, Nat.reduceEqDiff])
    | (refine awp_ret ?_; simp only [thenA, blockA, RetQ])
    | (refine ev_nil (hK _ ?_); clear hK K)
    | refine ev_guardU _ (by (simp only [go_sem]; rfl)) (by (simp only [go_sem]; rfl)) _ (by (simp only [go_sem]; rfl)) ?_
    | (refine ev_guardT _ _ (by (simp only [go_sem]; rfl)) (by (simp only [go_sem]; rfl)) ?_ ?_ <;> (intro hb; first | (cases hb; done) | (have ht : true = true := hb; clear ht hb) | (have ht : false = false := hb; clear ht hb) | (simp only [hb]) | skip))
    | (refine ev_guardF _ _ (by (simp only [go_sem]; rfl)) (by (simp only [go_sem]; rfl)) ?_ ?_ <;> (intro hb; first | (cases hb; done) | (have ht : true = true := hb; clear ht hb) | (have ht : false = false := hb; clear ht hb) | (simp only [hb]) | skip))
    | refine ev_step0 _ _ (by (simp only [go_sem]; rfl)) (by (first | trivial | decide | (simp only [inB, sliceOk, appendOk, rowsOk]; omega) | (simp [inB, sliceOk, appendOk, rowsOk]; omega))) _ (by (simp only [go_sem]; rfl)) ?_
    | (refine ev_step _ (by (simp only [go_sem]; rfl)) (by (first | trivial | decide | (simp only [inB, sliceOk, appendOk, rowsOk]; omega) | (simp [inB, sliceOk, appendOk, rowsOk]; omega))) _ (fun g u => by (simp only [go_sem]; rfl)) ?_; intro g u; (try clear u); (try clear g))
    | fail
  refine awp_loopI (fun i : Nat => i ≤ l.length ∧ sortedN (-1, 0) l = sortedN (befo l i) (l.drop i)) (fun i => l.length - i) (fun i => ⟨[.d (nms l), .any, litB false, litI .i64 i, .any, .any, .any, .any, .any, .any, .any, .any, .any, .any, .any, .any, .any, .any, .any, .any, .any, .any, .any, .any, .any, .any, .any, .any, .any, .any, .any, .any, .any], [.no, .no, .no, .no, .no, .no, .no, .no, .no, .no, .no, .no, .no, .no, .no, .no, .no, .no, .no, .no, .no, .no, .no, .no, .no, .no, .no, .no, .no, .no, .no, .no, .no]⟩) 0 ⟨by simp, rfl⟩ ?_ ?_
  · refine Wk.mk ?_ ?_
    all_goals (repeat' first | exact trivial | exact LeA.refl _ | exact LeA.any _ | exact LeO.refl _ | exact LeO.no _ | exact LeA.nil _ | (refine LeA.i ?_; (first | rfl | (push_cast; rfl) | (rw [wrap_id (by omega)]; push_cast; omega) | (simp [wrap_id]; omega))) | refine ⟨?_, ?_⟩)
  rintro i ⟨hi, hfi⟩
  simp only [litI, litB]
  by_cases hlt : i < l.length
  rotate_left
  have hdec : decide ((i : Int) < (l.length : Int)) = false := by simp; omega
  · repeat' first
      | refine awp_seq ?_
      | refine awp_block ?_
      | refine awp_skip ?_
      | (refine reg _ (by (simp only [List.map_cons, List.map_nil]; rfl)) rfl ?_; intro K hK)
      | (refine awp_cond _ (by rfl) ?_ ?_ <;> (intro hb; first | (cases hb; done) | (have ht : true = true := hb; clear ht hb) | (have ht : false = false := hb; clear ht hb) | (simp only [hb]) | skip))
      | (refine awp_exit ?_; simp only [thenA, blockA, reduceIte, RetQ, Nat.reduceEqDiff])
      | (refine awp_ret ?_; simp only [thenA, blockA, RetQ])
      | (refine ev_nil (hK _ ?_); clear hK K)
      | refine ev_guardU _ (by (simp only [go_sem, hdec]; rfl)) (by (simp only [go_sem, hdec]; rfl)) _ (by (simp only [go_sem, hdec]; rfl)) ?_
      | (refine ev_guardT _ _ (by (simp only [go_sem, hdec]; rfl)) (by (simp only [go_sem, hdec]; rfl)) ?_ ?_ <;> (intro hb; first | (cases hb; done) | (have ht : true = true := hb; clear ht hb) | (have ht : false = false := hb; clear ht hb) | (simp only [hb]) | skip))
      | (refine ev_guardF _ _ (by (simp only [go_sem, hdec]; rfl)) (by (simp only [go_sem, hdec]; rfl)) ?_ ?_ <;> (intro hb; first | (cases hb; done) | (have ht : true = true := hb; clear ht hb) | (have ht : false = false := hb; clear ht hb) | (simp only [hb]) | skip))
      | refine ev_step0 _ _ (by (simp only [go_sem, hdec]; rfl)) (by (first | trivial | decide | (simp only [inB, sliceOk, appendOk, rowsOk]; omega) | (simp [inB, sliceOk, appendOk, rowsOk]; omega))) _ (by (simp only [go_sem, hdec]; rfl)) ?_
      | (refine ev_step _ (by (simp only [go_sem, hdec]; rfl)) (by (first | trivial | decide | (simp only [inB, sliceOk, appendOk, rowsOk]; omega) | (simp [inB, sliceOk, appendOk, rowsOk]; omega))) _ (fun g u => by (simp only [go_sem, hdec]; rfl)) ?_; intro g u; (try clear u); (try clear g))
      | fail
    all_goals (refine resR_one T_ok rfl _ (by (simp only [go_sem, resA]; rfl)) (by first | trivial | (simp only [go_sem, resA])) (by first | trivial | (simp only [go_sem])) ?_; simp only [go_sem])
    refine LeA.b ?_
    rw [hfi, List.drop_eq_nil_of_le (by omega)]; rfl
  have hdec : decide ((i : Int) < (l.length : Int)) = true := by simp; omega
  have hx := nms_at l hlt
  have hnx : befo l (i + 1) = l.getD i (0, 0) := by simp [befo]
  rw [drop_at l (0, 0) hlt] at hfi
  rcases Nat.eq_zero_or_pos i with h0 | h0
  · have hz : decide ((i : Int) > 0) = false := by simp; omega
    have hp : befo l i = (-1, 0) := by simp [befo, h0]
    rw [hp] at hfi
    generalize l.getD i (0, 0) = x at *
    have hls : named x.1 x.2 = true → less (-1) 0 x.1 x.2 = true := fun h => by simp [named] at h; simp [less]; omega
    repeat' first
      | refine awp_seq ?_
      | refine awp_block ?_
      | refine awp_skip ?_
      | (refine reg _ (by (simp only [List.map_cons, List.map_nil]; rfl)) rfl ?_; intro K hK)
      | (refine awp_cond _ (by rfl) ?_ ?_ <;> (intro hb; first | (cases hb; done) | (have ht : true = true := hb; clear ht hb) | (have ht : false = false := hb; clear ht hb) | (simp only [hb]) | skip))
      | (refine awp_exit ?_; simp only [thenA, blockA, reduceIte, RetQ, Nat.reduceEqDiff])
      | (refine awp_ret ?_; simp only [thenA, blockA, RetQ])
      | (refine ev_nil (hK _ ?_); clear hK K)
      | refine ev_guardU _ (by (simp only [go_sem, hdec, hx, hz]; rfl)) (by (simp only [go_sem, hdec, hx, hz]; rfl)) _ (by (simp only [go_sem, hdec, hx, hz]; rfl)) ?_
      | (refine ev_guardT _ _ (by (simp only [go_sem, hdec, hx, hz]; rfl)) (by (simp only [go_sem, hdec, hx, hz]; rfl)) ?_ ?_ <;> (intro hb; first | (cases hb; done) | (have ht : true = true := hb; clear ht hb) | (have ht : false = false := hb; clear ht hb) | (simp only [hb]) | skip))
      | (refine ev_guardF _ _ (by (simp only [go_sem, hdec, hx, hz]; rfl)) (by (simp only [go_sem, hdec, hx, hz]; rfl)) ?_ ?_ <;> (intro hb; first | (cases hb; done) | (have ht : true = true := hb; clear ht hb) | (have ht : false = false := hb; clear ht hb) | (simp only [hb]) | skip))
      | refine ev_call0 _ _ (by (simp only [go_sem, hdec, hx, hz]; rfl)) (by first | exact f36_spec .. | exact f48_spec ..) (by (simp only [go_sem, hdec, hx, hz])) _ (by (simp only [go_sem, hdec, hx, hz]; rfl)) ?_
      | refine ev_callC _ _ _ _ (by (simp only [go_sem, hdec, hx, hz]; rfl)) (by (simp only [go_sem, hdec, hx, hz]; rfl)) (by first | exact f36_spec .. | exact f48_spec ..) (by (simp only [go_sem, hdec, hx, hz])) _ (by (simp only [go_sem, hdec, hx, hz]; rfl)) ?_
      | (apply regD; (case hd => (simp only [List.map_cons, List.map_nil]; rfl)); (case hok => rfl); (case' h => (intro K hK; (repeat' first
        | (apply evd_nil; refine (hK _ ?_); clear hK K)
        | (apply evd_guardU0; (case hj => (simp only [go_sem, hdec, hx, hz]; try rfl)); (case hu => (simp only [go_sem, hdec, hx, hz])); (case hσ => (simp only [go_sem, hdec, hx, hz]; try rfl)))
        | (apply evd_skipT0; (case hj => (simp only [go_sem, hdec, hx, hz]; try rfl)); (case hb => (simp only [go_sem, hdec, hx, hz]; try rfl)); (case hσ => (simp only [go_sem, hdec, hx, hz]; try rfl)))
        | (apply evd_skipF0; (case hj => (simp only [go_sem, hdec, hx, hz]; try rfl)); (case hb => (simp only [go_sem, hdec, hx, hz]; try rfl)); (case hσ => (simp only [go_sem, hdec, hx, hz]; try rfl)))
        | (apply evd_guardU; (case hj => (simp only [go_sem, hdec, hx, hz]; try rfl)); (case hu => (simp only [go_sem, hdec, hx, hz])); (case hσ => (simp only [go_sem, hdec, hx, hz]; try rfl)))
        | (apply evd_skipT; (case hj => (simp only [go_sem, hdec, hx, hz]; try rfl)); (case hb => (simp only [go_sem, hdec, hx, hz]; try rfl)); (case hσ => (simp only [go_sem, hdec, hx, hz]; try rfl)))
        | (apply evd_skipF; (case hj => (simp only [go_sem, hdec, hx, hz]; try rfl)); (case hb => (simp only [go_sem, hdec, hx, hz]; try rfl)); (case hσ => (simp only [go_sem, hdec, hx, hz]; try rfl)))
        | (apply evd_guardT; (case hj => (simp only [go_sem, hdec, hx, hz]; try rfl)); (case hb => (simp only [go_sem, hdec, hx, hz]; try rfl)); (case' h2 => (intro hb; first | (cases hb; done) | (simp only [hb]) | skip)); (case' h1 => (intro hb; first | (cases hb; done) | (simp only [hb]) | skip)))
        | (apply evd_guardF; (case hj => (simp only [go_sem, hdec, hx, hz]; try rfl)); (case hb => (simp only [go_sem, hdec, hx, hz]; try rfl)); (case' h2 => (intro hb; first | (cases hb; done) | (simp only [hb]) | skip)); (case' h1 => (intro hb; first | (cases hb; done) | (simp only [hb]) | skip)))
        | (apply evd_call0; (case hi => (simp only [go_sem, hdec, hx, hz]; try rfl)); (case hys => (simp only [go_sem, hdec, hx, hz]; try rfl)); (case hs => first | exact f36_spec .. | exact f48_spec ..); (case hok => (simp only [go_sem, hdec, hx, hz])); (case hw => (simp only [go_sem, hdec, hx, hz]; try rfl)); (case hσ => (simp only [go_sem, hdec, hx, hz]; try rfl)))
        | (apply evd_callC; (case hf => (simp only [go_sem, hdec, hx, hz]; try rfl)); (case hi => (simp only [go_sem, hdec, hx, hz]; try rfl)); (case hys => (simp only [go_sem, hdec, hx, hz]; try rfl)); (case hs => first | exact f36_spec .. | exact f48_spec ..); (case hok => (simp only [go_sem, hdec, hx, hz])); (case hw => (simp only [go_sem, hdec, hx, hz]; try rfl)); (case hσ => (simp only [go_sem, hdec, hx, hz]; try rfl)))
        | (apply evd_step0; (case hr => (simp only [go_sem, hdec, hx, hz]; try rfl)); (case hi => (simp only [go_sem, hdec, hx, hz]; try rfl)); (case hc => (first | trivial | decide | (simp only [inB, sliceOk, appendOk, rowsOk]; omega) | (simp [inB, sliceOk, appendOk, rowsOk]; omega))); (case hσ => (simp only [go_sem, hdec, hx, hz]; try rfl)))
        | (apply evd_step; (case hr => (simp only [go_sem, hdec, hx, hz]; try rfl)); (case hi => (simp only [go_sem, hdec, hx, hz]; try rfl)); (case hc => (first | trivial | decide | (simp only [inB, sliceOk, appendOk, rowsOk]; omega) | (simp [inB, sliceOk, appendOk, rowsOk]; omega))); (case hw => (intro g u; simp only [go_sem, hdec, hx, hz]; try rfl)); (case hσ => (intro g u; simp only [go_sem, hdec, hx, hz]; try rfl)); (case' hk => (intro g u; (try clear u); (try clear g))))
        | fail))); (case hB => kernel_rfl))
      | refine ev_step0 _ _ (by (simp only [go_sem, hdec, hx, hz]; rfl)) (by (first | trivial | decide | (simp only [inB, sliceOk, appendOk, rowsOk]; omega) | (simp [inB, sliceOk, appendOk, rowsOk]; omega))) _ (by (simp only [go_sem, hdec, hx, hz]; rfl)) ?_
      | (refine ev_step _ (by (simp only [go_sem, hdec, hx, hz]; rfl)) (by (first | trivial | decide | (simp only [inB, sliceOk, appendOk, rowsOk]; omega) | (simp [inB, sliceOk, appendOk, rowsOk]; omega))) _ (fun g u => by (simp only [go_sem, hdec, hx, hz]; rfl)) ?_; intro g u; (try clear u); (try clear g))
      | fail
    all_goals first
      | (refine Exists.intro (i + 1) ⟨?_, by omega, ?_⟩; (· refine ⟨by omega, ?_⟩; rw [hfi, hnx]; simp_all [sortedN]); (refine Wk.mk ?_ ?_ <;> (repeat' first | exact trivial | exact LeA.refl _ | exact LeA.any _ | exact LeO.refl _ | exact LeO.no _ | exact LeA.nil _ | (refine LeA.i ?_; (first | rfl | (push_cast; rfl) | (rw [wrap_id (by omega)]; push_cast; omega) | (simp [wrap_id]; omega))) | refine ⟨?_, ?_⟩)))
      | (refine resR_one T_ok rfl _ (by (simp only [go_sem, resA]; rfl)) (by first | trivial | (simp only [go_sem, resA])) (by first | trivial | (simp only [go_sem])) ?_; simp only [go_sem]; refine LeA.b ?_; rw [hfi]; simp_all [sortedN])
  · have hz : decide ((i : Int) > 0) = true := by simp; omega
    have hw : IntKind.i64.wrap ((i : Int) - 1) = ((i - 1 : Nat) : Int) := by rw [wrap_id (by omega)]; omega
    have hx2 := nms_at l (i := i - 1) (by omega)
    have hp : befo l i = l.getD (i - 1) (0, 0) := by simp [befo]; omega
    rw [hp] at hfi
    generalize l.getD i (0, 0) = x at *
    generalize l.getD (i - 1) (0, 0) = p at *
    repeat' first
      | refine awp_seq ?_
      | refine awp_block ?_
      | refine awp_skip ?_
      | (refine reg _ (by (simp only [List.map_cons, List.map_nil]; rfl)) rfl ?_; intro K hK)
      | (refine awp_cond _ (by rfl) ?_ ?_ <;> (intro hb; first | (cases hb; done) | (have ht : true = true := hb; clear ht hb) | (have ht : false = false := hb; clear ht hb) | (simp only [hb]) | skip))
      | (refine awp_exit ?_; simp only [thenA, blockA, reduceIte, RetQ, Nat.reduceEqDiff])
      | (refine awp_ret ?_; simp only [thenA, blockA, RetQ])
      | (refine ev_nil (hK _ ?_); clear hK K)
      | refine ev_guardU _ (by (simp only [go_sem, hdec, hx, hx2, hz, hw]; rfl)) (by (simp only [go_sem, hdec, hx, hx2, hz, hw]; rfl)) _ (by (simp only [go_sem, hdec, hx, hx2, hz, hw]; rfl)) ?_
      | (refine ev_guardT _ _ (by (simp only [go_sem, hdec, hx, hx2, hz, hw]; rfl)) (by (simp only [go_sem, hdec, hx, hx2, hz, hw]; rfl)) ?_ ?_ <;> (intro hb; first | (cases hb; done) | (have ht : true = true := hb; clear ht hb) | (have ht : false = false := hb; clear ht hb) | (simp only [hb]) | skip))
      | (refine ev_guardF _ _ (by (simp only [go_sem, hdec, hx, hx2, hz, hw]; rfl)) (by (simp only [go_sem, hdec, hx, hx2, hz, hw]; rfl)) ?_ ?_ <;> (intro hb; first | (cases hb; done) | (have ht : true = true := hb; clear ht hb) | (have ht : false = false := hb; clear ht hb) | (simp only [hb]) | skip))
      | refine ev_call0 _ _ (by (simp only [go_sem, hdec, hx, hx2, hz, hw]; rfl)) (by first | exact f36_spec .. | exact f48_spec ..) (by (simp only [go_sem, hdec, hx, hx2, hz, hw])) _ (by (simp only [go_sem, hdec, hx, hx2, hz, hw]; rfl)) ?_
      | refine ev_callC _ _ _ _ (by (simp only [go_sem, hdec, hx, hx2, hz, hw]; rfl)) (by (simp only [go_sem, hdec, hx, hx2, hz, hw]; rfl)) (by first | exact f36_spec .. | exact f48_spec ..) (by (simp only [go_sem, hdec, hx, hx2, hz, hw])) _ (by (simp only [go_sem, hdec, hx, hx2, hz, hw]; rfl)) ?_
      | (apply regD; (case hd => (simp only [List.map_cons, List.map_nil]; rfl)); (case hok => rfl); (case' h => (intro K hK; (repeat' first
        | (apply evd_nil; refine (hK _ ?_); clear hK K)
        | (apply evd_guardU0; (case hj => (simp only [go_sem, hdec, hx, hx2, hz, hw]; try rfl)); (case hu => (simp only [go_sem, hdec, hx, hx2, hz, hw])); (case hσ => (simp only [go_sem, hdec, hx, hx2, hz, hw]; try rfl)))
        | (apply evd_skipT0; (case hj => (simp only [go_sem, hdec, hx, hx2, hz, hw]; try rfl)); (case hb => (simp only [go_sem, hdec, hx, hx2, hz, hw]; try rfl)); (case hσ => (simp only [go_sem, hdec, hx, hx2, hz, hw]; try rfl)))
        | (apply evd_skipF0; (case hj => (simp only [go_sem, hdec, hx, hx2, hz, hw]; try rfl)); (case hb => (simp only [go_sem, hdec, hx, hx2, hz, hw]; try rfl)); (case hσ => (simp only [go_sem, hdec, hx, hx2, hz, hw]; try rfl)))
        | (apply evd_guardU; (case hj => (simp only [go_sem, hdec, hx, hx2, hz, hw]; try rfl)); (case hu => (simp only [go_sem, hdec, hx, hx2, hz, hw])); (case hσ => (simp only [go_sem, hdec, hx, hx2, hz, hw]; try rfl)))
        | (apply evd_skipT; (case hj => (simp only [go_sem, hdec, hx, hx2, hz, hw]; try rfl)); (case hb => (simp only [go_sem, hdec, hx, hx2, hz, hw]; try rfl)); (case hσ => (simp only [go_sem, hdec, hx, hx2, hz, hw]; try rfl)))
        | (apply evd_skipF; (case hj => (simp only [go_sem, hdec, hx, hx2, hz, hw]; try rfl)); (case hb => (simp only [go_sem, hdec, hx, hx2, hz, hw]; try rfl)); (case hσ => (simp only [go_sem, hdec, hx, hx2, hz, hw]; try rfl)))
        | (apply evd_guardT; (case hj => (simp only [go_sem, hdec, hx, hx2, hz, hw]; try rfl)); (case hb => (simp only [go_sem, hdec, hx, hx2, hz, hw]; try rfl)); (case' h2 => (intro hb; first | (cases hb; done) | (simp only [hb]) | skip)); (case' h1 => (intro hb; first | (cases hb; done) | (simp only [hb]) | skip)))
        | (apply evd_guardF; (case hj => (simp only [go_sem, hdec, hx, hx2, hz, hw]; try rfl)); (case hb => (simp only [go_sem, hdec, hx, hx2, hz, hw]; try rfl)); (case' h2 => (intro hb; first | (cases hb; done) | (simp only [hb]) | skip)); (case' h1 => (intro hb; first | (cases hb; done) | (simp only [hb]) | skip)))
        | (apply evd_call0; (case hi => (simp only [go_sem, hdec, hx, hx2, hz, hw]; try rfl)); (case hys => (simp only [go_sem, hdec, hx, hx2, hz, hw]; try rfl)); (case hs => first | exact f36_spec .. | exact f48_spec ..); (case hok => (simp only [go_sem, hdec, hx, hx2, hz, hw])); (case hw => (simp only [go_sem, hdec, hx, hx2, hz, hw]; try rfl)); (case hσ => (simp only [go_sem, hdec, hx, hx2, hz, hw]; try rfl)))
        | (apply evd_callC; (case hf => (simp only [go_sem, hdec, hx, hx2, hz, hw]; try rfl)); (case hi => (simp only [go_sem, hdec, hx, hx2, hz, hw]; try rfl)); (case hys => (simp only [go_sem, hdec, hx, hx2, hz, hw]; try rfl)); (case hs => first | exact f36_spec .. | exact f48_spec ..); (case hok => (simp only [go_sem, hdec, hx, hx2, hz, hw])); (case hw => (simp only [go_sem, hdec, hx, hx2, hz, hw]; try rfl)); (case hσ => (simp only [go_sem, hdec, hx, hx2, hz, hw]; try rfl)))
        | (apply evd_step0; (case hr => (simp only [go_sem, hdec, hx, hx2, hz, hw]; try rfl)); (case hi => (simp only [go_sem, hdec, hx, hx2, hz, hw]; try rfl)); (case hc => (first | trivial | decide | (simp only [inB, sliceOk, appendOk, rowsOk]; omega) | (simp [inB, sliceOk, appendOk, rowsOk]; omega))); (case hσ => (simp only [go_sem, hdec, hx, hx2, hz, hw]; try rfl)))
        | (apply evd_step; (case hr => (simp only [go_sem, hdec, hx, hx2, hz, hw]; try rfl)); (case hi => (simp only [go_sem, hdec, hx, hx2, hz, hw]; try rfl)); (case hc => (first | trivial | decide | (simp only [inB, sliceOk, appendOk, rowsOk]; omega) | (simp [inB, sliceOk, appendOk, rowsOk]; omega))); (case hw => (intro g u; simp only [go_sem, hdec, hx, hx2, hz, hw]; try rfl)); (case hσ => (intro g u; simp only [go_sem, hdec, hx, hx2, hz, hw]; try rfl)); (case' hk => (intro g u; (try clear u); (try clear g))))
        | fail))); (case hB => kernel_rfl))
      | refine ev_step0 _ _ (by (simp only [go_sem, hdec, hx, hx2, hz, hw]; rfl)) (by (first | trivial | decide | (simp only [inB, sliceOk, appendOk, rowsOk]; omega) | (simp [inB, sliceOk, appendOk, rowsOk]; omega))) _ (by (simp only [go_sem, hdec, hx, hx2, hz, hw]; rfl)) ?_
      | (refine ev_step _ (by (simp only [go_sem, hdec, hx, hx2, hz, hw]; rfl)) (by (first | trivial | decide | (simp only [inB, sliceOk, appendOk, rowsOk]; omega) | (simp [inB, sliceOk, appendOk, rowsOk]; omega))) _ (fun g u => by (simp only [go_sem, hdec, hx, hx2, hz, hw]; rfl)) ?_; intro g u; (try clear u); (try clear g))
      | fail
    all_goals first
      | (refine Exists.intro (i + 1) ⟨?_, by omega, ?_⟩; (· refine ⟨by omega, ?_⟩; rw [hfi, hnx]; simp_all [sortedN]); (refine Wk.mk ?_ ?_ <;> (repeat' first | exact trivial | exact LeA.refl _ | exact LeA.any _ | exact LeO.refl _ | exact LeO.no _ | exact LeA.nil _ | (refine LeA.i ?_; (first | rfl | (push_cast; rfl) | (rw [wrap_id (by omega)]; push_cast; omega) | (simp [wrap_id]; omega))) | refine ⟨?_, ?_⟩)))
      | (refine resR_one T_ok rfl _ (by (simp only [go_sem, resA]; rfl)) (by first | trivial | (simp only [go_sem, resA])) (by first | trivial | (simp only [go_sem])) ?_; simp only [go_sem]; refine LeA.b ?_; rw [hfi]; simp_all [sortedN])
theorem f23_spec (tags : List Nm) (seen : List Int) : Spec Try.prog 23 [.agg (rep tags seen)] (litB (repOk tags seen)) := by
  refine spec_of_awp (fn := Try.f23) Try.func23 (by kernel_rfl) rfl ?_
  intro w0 C0
  simp only [Try.ntmps23, litI, litB, litS, List.length_cons, List.length_nil, Nat.reduceAdd, Nat.reduceSub, List.replicate_succ, List.replicate_zero, List.cons_append, List.nil_append]
  repeat' first
    | refine awp_seq ?_
    | refine awp_block ?_
    | refine awp_skip ?_
    | (refine reg _ (by (simp only [List.map_cons, List.map_nil]; rfl)) rfl ?_; intro K hK)
    | (refine awp_cond _ (by rfl) ?_ ?_ <;> (intro hb; first | (cases hb; done) | (have ht : true = true := hb; clear ht hb) | (have ht : false = false := hb; clear ht hb) | (simp only [hb]) | skip))
    | (refine awp_exit ?_; simp only [thenA, blockA, reduceIte, RetQ, Nat.reduceEqDiff])
    | (refine awp_ret ?_; simp only [thenA, blockA, RetQ])
    | (refine ev_nil (hK _ ?_); clear hK K)
    | refine ev_guardU _ (by (simp only [go_sem]; rfl)) (by (simp only [go_sem]; rfl)) _ (by (simp only [go_sem]; rfl)) ?_
    | (refine ev_guardT _ _ (by (simp only [go_sem]; rfl)) (by (simp only [go_sem]; rfl)) ?_ ?_ <;> (intro hb; first | (cases hb; done) | (have ht : true = true := hb; clear ht hb) | (have ht : false = false := hb; clear ht hb) | (simp only [hb]) | skip))
    | (refine ev_guardF _ _ (by (simp only [go_sem]; rfl)) (by (simp only [go_sem]; rfl)) ?_ ?_ <;> (intro hb; first | (cases hb; done) | (have ht : true = true := hb; clear ht hb) | (have ht : false = false := hb; clear ht hb) | (simp only [hb]) | skip))
    | refine ev_step0 _ _ (by (simp only [go_sem]; rfl)) (by (first | trivial | decide | (simp only [inB, sliceOk, appendOk, rowsOk]; omega) | (simp [inB, sliceOk, appendOk, rowsOk]; omega))) _ (by (simp only [go_sem]; rfl)) ?_
    | (refine ev_step _ (by (simp only [go_sem]; rfl)) (by (first | trivial | decide | (simp only [inB, sliceOk, appendOk, rowsOk]; omega) | (simp [inB, sliceOk, appendOk, rowsOk]; omega))) _ (fun g u => by (simp only [go_sem]; rfl)) ?_; intro g u; (try clear u); (try clear g))
    | fail
  refine awp_pre (p := tags.length ≤ 9223372036854775807) (fun a w hs => by
    obtain ⟨v, _, hv⟩ := hs.t.get 0 _ rfl
    obtain ⟨vs, _, hv⟩ := has_agg hv
    obtain ⟨v', _, hv'⟩ := hv.get 0 _ rfl
    simpa using has_len hv') fun hl => ?_
  refine awp_loopI (fun i : Nat => i ≤ tags.length ∧ (tags.take i).all (fun n => inCut seen n.1 n.2) = true) (fun i => tags.length - i) (fun i => ⟨[.any, .ptr 1 g 0, litB false, litI .i64 i, .any, .any, .any, .any, .any, .any, .any, .any, .any, .any, .any, .any, .any, .any, .any, .any, .any, .any, .any, .any, .any, .any, .any, .any], [.no, .box g (rep tags seen), .no, .no, .no, .no, .no, .no, .no, .no, .no, .no, .no, .no, .no, .no, .no, .no, .no, .no, .no, .no, .no, .no, .no, .no, .no, .no]⟩) 0 ⟨by simp, rfl⟩ ?_ ?_
  · refine Wk.mk ?_ ?_
    all_goals (repeat' first | exact trivial | exact LeA.refl _ | exact LeA.any _ | exact LeO.refl _ | exact LeO.no _ | exact LeA.nil _ | (refine LeA.i ?_; (first | rfl | (push_cast; rfl) | (rw [wrap_id (by omega)]; push_cast; omega) | (simp [wrap_id]; omega))) | refine ⟨?_, ?_⟩)
  rintro i ⟨hi, hfi⟩
  simp only [litI, litB]
  by_cases hlt : i < tags.length
  rotate_left
  have hdec : decide ((i : Int) < (tags.length : Int)) = false := by simp; omega
  · repeat' first
      | refine awp_seq ?_
      | refine awp_block ?_
      | refine awp_skip ?_
      | (refine reg _ (by (simp only [List.map_cons, List.map_nil]; rfl)) rfl ?_; intro K hK)
      | (refine awp_cond _ (by rfl) ?_ ?_ <;> (intro hb; first | (cases hb; done) | (have ht : true = true := hb; clear ht hb) | (have ht : false = false := hb; clear ht hb) | (simp only [hb]) | skip))
      | (refine awp_exit ?_; simp only [thenA, blockA, reduceIte, RetQ, Nat.reduceEqDiff])
      | (refine awp_ret ?_; simp only [thenA, blockA, RetQ])
      | (refine ev_nil (hK _ ?_); clear hK K)
      | refine ev_guardU _ (by (simp only [go_sem, hdec]; rfl)) (by (simp only [go_sem, hdec]; rfl)) _ (by (simp only [go_sem, hdec]; rfl)) ?_
      | (refine ev_guardT _ _ (by (simp only [go_sem, hdec]; rfl)) (by (simp only [go_sem, hdec]; rfl)) ?_ ?_ <;> (intro hb; first | (cases hb; done) | (have ht : true = true := hb; clear ht hb) | (have ht : false = false := hb; clear ht hb) | (simp only [hb]) | skip))
      | (refine ev_guardF _ _ (by (simp only [go_sem, hdec]; rfl)) (by (simp only [go_sem, hdec]; rfl)) ?_ ?_ <;> (intro hb; first | (cases hb; done) | (have ht : true = true := hb; clear ht hb) | (have ht : false = false := hb; clear ht hb) | (simp only [hb]) | skip))
      | refine ev_call0 _ _ (by (simp only [go_sem, hdec]; rfl)) (by first | exact f17_spec .. | exact f53_spec ..) (by (simp only [go_sem, hdec])) _ (by (simp only [go_sem, hdec]; rfl)) ?_
      | refine ev_callC _ _ _ _ (by (simp only [go_sem, hdec]; rfl)) (by (simp only [go_sem, hdec]; rfl)) (by first | exact f17_spec .. | exact f53_spec ..) (by (simp only [go_sem, hdec])) _ (by (simp only [go_sem, hdec]; rfl)) ?_
      | refine ev_step0 _ _ (by (simp only [go_sem, hdec]; rfl)) (by (first | trivial | decide | (simp only [inB, sliceOk, appendOk, rowsOk]; omega) | (simp [inB, sliceOk, appendOk, rowsOk]; omega))) _ (by (simp only [go_sem, hdec]; rfl)) ?_
      | (refine ev_step _ (by (simp only [go_sem, hdec]; rfl)) (by (first | trivial | decide | (simp only [inB, sliceOk, appendOk, rowsOk]; omega) | (simp [inB, sliceOk, appendOk, rowsOk]; omega))) _ (fun g u => by (simp only [go_sem, hdec]; rfl)) ?_; intro g u; (try clear u); (try clear g))
      | fail
    all_goals (refine resR_one T_ok rfl _ (by (simp only [go_sem, resA]; rfl)) (by first | trivial | (simp only [go_sem, resA])) (by first | trivial | (simp only [go_sem])) ?_; simp only [go_sem])
    all_goals (rw [List.take_of_length_le (by omega)] at hfi; refine LeA.b ?_; simp_all [repOk])
  have hdec : decide ((i : Int) < (tags.length : Int)) = true := by simp; omega
  have hx := nms_at tags hlt
  have hab1 : tags.take (i + 1) = tags.take i ++ [tags.getD i (0, 0)] := by rw [List.take_succ_eq_append_getElem hlt]; simp [List.getD_eq_getElem?_getD, hlt]
  have hmem : tags.getD i (0, 0) ∈ tags := by rw [List.getD_eq_getElem?_getD, List.getElem?_eq_getElem hlt]; exact List.getElem_mem hlt
  have hno : inCut seen (tags.getD i (0, 0)).1 (tags.getD i (0, 0)).2 = false → repOk tags seen = false := fun h => by
    simp only [repOk, Bool.and_eq_false_iff]
    exact .inr (List.all_eq_false.2 ⟨_, hmem, by rw [h]; exact Bool.false_ne_true⟩)
  generalize tags.getD i (0, 0) = x at *
  repeat' first
    | refine awp_seq ?_
    | refine awp_block ?_
    | refine awp_skip ?_
    | (refine reg _ (by (simp only [List.map_cons, List.map_nil]; rfl)) rfl ?_; intro K hK)
    | (refine awp_cond _ (by rfl) ?_ ?_ <;> (intro hb; first | (cases hb; done) | (have ht : true = true := hb; clear ht hb) | (have ht : false = false := hb; clear ht hb) | (simp only [hb]) | skip))
    | (refine awp_exit ?_; simp only [thenA, blockA, reduceIte, RetQ, Nat.reduceEqDiff])
    | (refine awp_ret ?_; simp only [thenA, blockA, RetQ])
    | (refine ev_nil (hK _ ?_); clear hK K)
    | refine ev_guardU _ (by (simp only [go_sem, hdec, hx]; rfl)) (by (simp only [go_sem, hdec, hx]; rfl)) _ (by (simp only [go_sem, hdec, hx]; rfl)) ?_
    | (refine ev_guardT _ _ (by (simp only [go_sem, hdec, hx]; rfl)) (by (simp only [go_sem, hdec, hx]; rfl)) ?_ ?_ <;> (intro hb; first | (cases hb; done) | (have ht : true = true := hb; clear ht hb) | (have ht : false = false := hb; clear ht hb) | (simp only [hb]) | skip))
    | (refine ev_guardF _ _ (by (simp only [go_sem, hdec, hx]; rfl)) (by (simp only [go_sem, hdec, hx]; rfl)) ?_ ?_ <;> (intro hb; first | (cases hb; done) | (have ht : true = true := hb; clear ht hb) | (have ht : false = false := hb; clear ht hb) | (simp only [hb]) | skip))
    | refine ev_call0 _ _ (by (simp only [go_sem, hdec, hx]; rfl)) (by first | exact f33_spec ..) (by (simp only [go_sem, hdec, hx])) _ (by (simp only [go_sem, hdec, hx]; rfl)) ?_
    | refine ev_callC _ _ _ _ (by (simp only [go_sem, hdec, hx]; rfl)) (by (simp only [go_sem, hdec, hx]; rfl)) (by first | exact f33_spec ..) (by (simp only [go_sem, hdec, hx])) _ (by (simp only [go_sem, hdec, hx]; rfl)) ?_
    | (apply regD; (case hd => (simp only [List.map_cons, List.map_nil]; rfl)); (case hok => rfl); (case' h => (intro K hK; (repeat' first
        | (apply evd_nil; refine (hK _ ?_); clear hK K)
        | (apply evd_guardU0; (case hj => (simp only [go_sem, hdec, hx]; try rfl)); (case hu => (simp only [go_sem, hdec, hx])); (case hσ => (simp only [go_sem, hdec, hx]; try rfl)))
        | (apply evd_skipT0; (case hj => (simp only [go_sem, hdec, hx]; try rfl)); (case hb => (simp only [go_sem, hdec, hx]; try rfl)); (case hσ => (simp only [go_sem, hdec, hx]; try rfl)))
        | (apply evd_skipF0; (case hj => (simp only [go_sem, hdec, hx]; try rfl)); (case hb => (simp only [go_sem, hdec, hx]; try rfl)); (case hσ => (simp only [go_sem, hdec, hx]; try rfl)))
        | (apply evd_guardU; (case hj => (simp only [go_sem, hdec, hx]; try rfl)); (case hu => (simp only [go_sem, hdec, hx])); (case hσ => (simp only [go_sem, hdec, hx]; try rfl)))
        | (apply evd_skipT; (case hj => (simp only [go_sem, hdec, hx]; try rfl)); (case hb => (simp only [go_sem, hdec, hx]; try rfl)); (case hσ => (simp only [go_sem, hdec, hx]; try rfl)))
        | (apply evd_skipF; (case hj => (simp only [go_sem, hdec, hx]; try rfl)); (case hb => (simp only [go_sem, hdec, hx]; try rfl)); (case hσ => (simp only [go_sem, hdec, hx]; try rfl)))
        | (apply evd_guardT; (case hj => (simp only [go_sem, hdec, hx]; try rfl)); (case hb => (simp only [go_sem, hdec, hx]; try rfl)); (case' h2 => (intro hb; first | (cases hb; done) | (simp only [hb]) | skip)); (case' h1 => (intro hb; first | (cases hb; done) | (simp only [hb]) | skip)))
        | (apply evd_guardF; (case hj => (simp only [go_sem, hdec, hx]; try rfl)); (case hb => (simp only [go_sem, hdec, hx]; try rfl)); (case' h2 => (intro hb; first | (cases hb; done) | (simp only [hb]) | skip)); (case' h1 => (intro hb; first | (cases hb; done) | (simp only [hb]) | skip)))
        | (apply evd_call0; (case hi => (simp only [go_sem, hdec, hx]; try rfl)); (case hys => (simp only [go_sem, hdec, hx]; try rfl)); (case hs => first | exact f33_spec ..); (case hok => (simp only [go_sem, hdec, hx])); (case hw => (simp only [go_sem, hdec, hx]; try rfl)); (case hσ => (simp only [go_sem, hdec, hx]; try rfl)))
        | (apply evd_callC; (case hf => (simp only [go_sem, hdec, hx]; try rfl)); (case hi => (simp only [go_sem, hdec, hx]; try rfl)); (case hys => (simp only [go_sem, hdec, hx]; try rfl)); (case hs => first | exact f33_spec ..); (case hok => (simp only [go_sem, hdec, hx])); (case hw => (simp only [go_sem, hdec, hx]; try rfl)); (case hσ => (simp only [go_sem, hdec, hx]; try rfl)))
        | (apply evd_step0; (case hr => (simp only [go_sem, hdec, hx]; try rfl)); (case hi => (simp only [go_sem, hdec, hx]; try rfl)); (case hc => (first | trivial | decide | (simp only [inB, sliceOk, appendOk, rowsOk]; omega) | (simp [inB, sliceOk, appendOk, rowsOk]; omega))); (case hσ => (simp only [go_sem, hdec, hx]; try rfl)))
        | (apply evd_step; (case hr => (simp only [go_sem, hdec, hx]; try rfl)); (case hi => (simp only [go_sem, hdec, hx]; try rfl)); (case hc => (first | trivial | decide | (simp only [inB, sliceOk, appendOk, rowsOk]; omega) | (simp [inB, sliceOk, appendOk, rowsOk]; omega))); (case hw => (intro g u; simp only [go_sem, hdec, hx]; try rfl)); (case hσ => (intro g u; simp only [go_sem, hdec, hx]; try rfl)); (case' hk => (intro g u; (try clear u); (try clear g))))
        | fail))); (case hB => kernel_rfl))
    | refine ev_step0 _ _ (by (simp only [go_sem, hdec, hx]; rfl)) (by (first | trivial | decide | (simp only [inB, sliceOk, appendOk, rowsOk]; omega) | (simp [inB, sliceOk, appendOk, rowsOk]; omega))) _ (by (simp only [go_sem, hdec, hx]; rfl)) ?_
    | (refine ev_step _ (by (simp only [go_sem, hdec, hx]; rfl)) (by (first | trivial | decide | (simp only [inB, sliceOk, appendOk, rowsOk]; omega) | (simp [inB, sliceOk, appendOk, rowsOk]; omega))) _ (fun g u => by (simp only [go_sem, hdec, hx]; rfl)) ?_; intro g u; (try clear u); (try clear g))
    | fail
  all_goals first
    | (refine Exists.intro (i + 1) ⟨?_, by omega, ?_⟩; (· refine ⟨by omega, ?_⟩; rw [hab1]; simp_all); (refine Wk.mk ?_ ?_ <;> (repeat' first | exact trivial | exact LeA.refl _ | exact LeA.any _ | exact LeO.refl _ | exact LeO.no _ | exact LeA.nil _ | (refine LeA.i ?_; (first | rfl | (push_cast; rfl) | (rw [wrap_id (by omega)]; push_cast; omega) | (simp [wrap_id]; omega))) | refine ⟨?_, ?_⟩)))
    | (refine resR_one T_ok rfl _ (by (simp only [go_sem, resA]; rfl)) (by first | trivial | (simp only [go_sem, resA])) (by first | trivial | (simp only [go_sem])) ?_; simp only [go_sem]; refine LeA.b ?_; symm; refine hno ?_; simp_all)
end
section
set_option linter.unusedVariables false
set_option linter.unusedSimpArgs false
open Go.RowKit
attribute [local irreducible] AWp evOps evD
abbrev Cm := Nm × List Int
abbrev cms (l : List Cm) : Dat := .sl 5 (l.map fun c => [.lit (.int .i64 c.1.1), .lit (.int .i64 c.1.2), ints c.2, .lit (.int .i64 0), .lit (.slice none 0 0)])
theorem cms_at (l : List Cm) {i : Nat} (h : i < l.length) : (l.map fun c => [Dat.lit (.int .i64 c.1.1), .lit (.int .i64 c.1.2), ints c.2, .lit (.int .i64 0), .lit (.slice none 0 0)]).getD i [] = [.lit (.int .i64 (l.getD i ((0, 0), [])).1.1), .lit (.int .i64 (l.getD i ((0, 0), [])).1.2), ints (l.getD i ((0, 0), [])).2, .lit (.int .i64 0), .lit (.slice none 0 0)] := by
  simp [List.getD_eq_getElem?_getD, h]
def findC (n : Nm) : List Cm → Nat → Int
  | [], _ => -1
  | c :: l, k => if nmEq c.1 n = true then k else findC n l (k + 1)
theorem f79_spec (l : List Cm) (n : Nm) : Spec Try.prog 79 [.d (cms l), .agg (nm n.1 n.2)] (litI .i64 (findC n l 0)) := by
  refine spec_of_awp (fn := Try.f79) Try.func79 (by kernel_rfl) rfl ?_
  intro w0 C0
  simp only [Try.ntmps79, litI, litB, litS, List.length_cons, List.length_nil, Nat.reduceAdd, Nat.reduceSub, List.replicate_succ, List.replicate_zero, List.cons_append, List.nil_append]
  refine awp_len 0 rfl fun hl => ?_
  simp only [List.length_map] at hl
  repeat' first
    | refine awp_seq ?_
    | refine awp_block ?_
    | refine awp_skip ?_
    | (refine reg _ (by (simp only [List.map_cons, List.map_nil]; rfl)) rfl ?_; intro K hK)
    | (refine awp_cond _ (by rfl) ?_ ?_ <;> (intro hb; first | (cases hb; done) | (have ht : true = true := hb; clear ht hb) | (have ht : false = false := hb; clear ht hb) | (simp only [hb]) | skip))
    | (refine awp_exit ?_; simp only [thenA, blockA, reduceIte, RetQ, Nat.reduceEqDiff])
    | (refine awp_ret ?_; simp only [thenA, blockA, RetQ])
    | (refine ev_nil (hK _ ?_); clear hK K)
    | refine ev_step0 _ _ (by (simp only [go_sem]; rfl)) (by (first | trivial | decide | (simp only [inB, sliceOk, appendOk, rowsOk]; omega) | (simp [inB, sliceOk, appendOk, rowsOk]; omega))) _ (by (simp only [go_sem]; rfl)) ?_
    | (refine ev_step _ (by (simp only [go_sem]; rfl)) (by (first | trivial | decide | (simp only [inB, sliceOk, appendOk, rowsOk]; omega) | (simp [inB, sliceOk, appendOk, rowsOk]; omega))) _ (fun g u => by (simp only [go_sem]; rfl)) ?_; intro g u; (try clear u); (try clear g))
    | fail
  refine awp_loopI (fun i => i ≤ l.length ∧ findC n l 0 = findC n (l.drop i) i) (fun i => l.length - i) (fun i => ⟨[.d (cms l), .any, .any, .ptr 3 g 0, litI .i64 0, litI .i64 i, .any, .any, .any, .any, .any, .any, .any, .any, .any, .any, .any, .any, .any, .any], [.no, .no, .no, .box g (nm n.1 n.2), .no, .no, .no, .no, .no, .no, .no, .no, .no, .no, .no, .no, .no, .no, .no, .no]⟩) 0 ⟨by omega, rfl⟩ ?_ ?_
  · refine Wk.mk ?_ ?_
    all_goals (repeat' first | exact trivial | exact LeA.refl _ | exact LeA.any _ | exact LeO.refl _ | exact LeO.no _ | exact LeA.nil _ | (refine LeA.i ?_; (first | rfl | (push_cast; rfl) | (rw [wrap_id (by omega)]; push_cast; omega) | (simp [wrap_id]; omega))) | refine ⟨?_, ?_⟩)
  rintro i ⟨hi, hfi⟩
  simp only [litI, litB]
  by_cases hlt : i < l.length
  rotate_left
  have hdec : decide ((i : Int) < (l.length : Int)) = false := by simp; omega
  · repeat' first
      | refine awp_seq ?_
      | refine awp_block ?_
      | refine awp_skip ?_
      | (refine reg _ (by (simp only [List.map_cons, List.map_nil]; rfl)) rfl ?_; intro K hK)
      | (refine awp_cond _ (by rfl) ?_ ?_ <;> (intro hb; first | (cases hb; done) | (have ht : true = true := hb; clear ht hb) | (have ht : false = false := hb; clear ht hb) | (simp only [hb]) | skip))
      | (refine awp_exit ?_; simp only [thenA, blockA, reduceIte, RetQ, Nat.reduceEqDiff])
      | (refine awp_ret ?_; simp only [thenA, blockA, RetQ])
      | (refine ev_nil (hK _ ?_); clear hK K)
      | refine ev_step0 _ _ (by (simp only [go_sem, hdec]; rfl)) (by (first | trivial | decide | (simp only [inB, sliceOk, appendOk, rowsOk]; omega) | (simp [inB, sliceOk, appendOk, rowsOk]; omega))) _ (by (simp only [go_sem, hdec]; rfl)) ?_
      | (refine ev_step _ (by (simp only [go_sem, hdec]; rfl)) (by (first | trivial | decide | (simp only [inB, sliceOk, appendOk, rowsOk]; omega) | (simp [inB, sliceOk, appendOk, rowsOk]; omega))) _ (fun g u => by (simp only [go_sem, hdec]; rfl)) ?_; intro g u; (try clear u); (try clear g))
      | fail
    all_goals (refine resR_one T_ok rfl _ (by (simp only [go_sem, resA]; rfl)) (by first | trivial | (simp only [go_sem, resA])) (by first | trivial | (simp only [go_sem])) ?_; simp only [go_sem])
    refine LeA.i ?_
    rw [hfi, List.drop_eq_nil_of_le (by omega)]; rfl
  have hdec : decide ((i : Int) < (l.length : Int)) = true := by simp; omega
  have hx := cms_at l hlt
  rw [drop_at l ((0, 0), []) hlt] at hfi
  generalize l.getD i ((0, 0), []) = x at *
  repeat' first
    | refine awp_seq ?_
    | refine awp_block ?_
    | refine awp_skip ?_
    | (refine reg _ (by (simp only [List.map_cons, List.map_nil]; rfl)) rfl ?_; intro K hK)
    | (refine awp_cond _ (by rfl) ?_ ?_ <;> (intro hb; first | (cases hb; done) | (have ht : true = true := hb; clear ht hb) | (have ht : false = false := hb; clear ht hb) | (simp only [hb]) | skip))
    | (refine awp_exit ?_; simp only [thenA, blockA, reduceIte, RetQ, Nat.reduceEqDiff])
    | (refine awp_ret ?_; simp only [thenA, blockA, RetQ])
    | (refine ev_nil (hK _ ?_); clear hK K)
    | (apply regD; (case hd => (simp only [List.map_cons, List.map_nil]; rfl)); (case hok => rfl); (case' h => (intro K hK; (repeat' first
        | (apply evd_nil; refine (hK _ ?_); clear hK K)
        | (apply evd_step0; (case hr => (simp only [go_sem, hdec, hx]; try rfl)); (case hi => (simp only [go_sem, hdec, hx]; try rfl)); (case hc => (first | trivial | decide | (simp only [inB, sliceOk, appendOk, rowsOk]; omega) | (simp [inB, sliceOk, appendOk, rowsOk]; omega))); (case hσ => (simp only [go_sem, hdec, hx]; try rfl)))
        | (apply evd_step; (case hr => (simp only [go_sem, hdec, hx]; try rfl)); (case hi => (simp only [go_sem, hdec, hx]; try rfl)); (case hc => (first | trivial | decide | (simp only [inB, sliceOk, appendOk, rowsOk]; omega) | (simp [inB, sliceOk, appendOk, rowsOk]; omega))); (case hw => (intro g u; simp only [go_sem, hdec, hx]; try rfl)); (case hσ => (intro g u; simp only [go_sem, hdec, hx]; try rfl)); (case' hk => (intro g u; (try clear u); (try clear g))))
        | fail))); (case hB => kernel_rfl))
    | refine ev_step0 _ _ (by (simp only [go_sem, hdec, hx]; rfl)) (by (first | trivial | decide | (simp only [inB, sliceOk, appendOk, rowsOk]; omega) | (simp [inB, sliceOk, appendOk, rowsOk]; omega))) _ (by (simp only [go_sem, hdec, hx]; rfl)) ?_
    | (refine ev_step _ (by (simp only [go_sem, hdec, hx]; rfl)) (by (first | trivial | decide | (simp only [inB, sliceOk, appendOk, rowsOk]; omega) | (simp [inB, sliceOk, appendOk, rowsOk]; omega))) _ (fun g u => by (simp only [go_sem, hdec, hx]; rfl)) ?_; intro g u; (try clear u); (try clear g))
    | fail
  all_goals first
    | (refine Exists.intro (i + 1) ⟨?_, by omega, ?_⟩; (· refine ⟨by omega, ?_⟩; rw [hfi]; simp_all [findC, nmEq]); (refine Wk.mk ?_ ?_ <;> (repeat' first | exact trivial | exact LeA.refl _ | exact LeA.any _ | exact LeO.refl _ | exact LeO.no _ | exact LeA.nil _ | (refine LeA.i ?_; (first | rfl | (push_cast; rfl) | (rw [wrap_id (by omega)]; push_cast; omega) | (simp [wrap_id]; omega))) | refine ⟨?_, ?_⟩)))
    | (refine resR_one T_ok rfl _ (by (simp only [go_sem, resA]; rfl)) (by first | trivial | (simp only [go_sem, resA])) (by first | trivial | (simp only [go_sem])) ?_; simp only [go_sem]; refine LeA.i ?_; rw [hfi]; simp_all [findC, nmEq])
def wfC (n : Nm) (past : List Int) : Bool := named n.1 n.2 && cutV past && (past.getD n.1.toNat 0 == n.2 - 1)
theorem f80_spec (n : Nm) (past : List Int) : Spec Try.prog 80 [.agg (cmt n past)] (litB (wfC n past)) := by
  refine spec_of_awp (fn := Try.f80) Try.func80 (by kernel_rfl) rfl ?_
  intro w0 C0
  simp only [Try.ntmps80, litI, litB, litS, List.length_cons, List.length_nil, Nat.reduceAdd, Nat.reduceSub, List.replicate_succ, List.replicate_zero, List.cons_append, List.nil_append]
  repeat' first
    | refine awp_seq ?_
    | refine awp_block ?_
    | refine awp_skip ?_
    | (refine reg _ (by (simp only [List.map_cons, List.map_nil]; rfl)) rfl ?_; intro K hK)
    | (refine awp_cond _ (by rfl) ?_ ?_ <;> (intro hb; first | (cases hb; done) | (have ht : true = true := hb; clear ht hb) | (have ht : false = false := hb; clear ht hb) | (simp only [hb]) | skip))
    | (refine awp_exit ?_; simp only [thenA, blockA, reduceIte, RetQ, Nat.reduceEqDiff])
    | (refine awp_ret ?_; simp only [thenA, blockA, RetQ])
    | (refine ev_nil (hK _ ?_); clear hK K)
    | refine ev_guardU _ (by (simp (disch := (first | omega | (simp [cutV] at *; omega))) only [go_sem, ints_at]; rfl)) (by (simp (disch := (first | omega | (simp [cutV] at *; omega))) only [go_sem, ints_at]; rfl)) _ (by (simp (disch := (first | omega | (simp [cutV] at *; omega))) only [go_sem, ints_at]; rfl)) ?_
    | (refine ev_guardT _ _ (by (simp (disch := (first | omega | (simp [cutV] at *; omega))) only [go_sem, ints_at]; rfl)) (by (simp (disch := (first | omega | (simp [cutV] at *; omega))) only [go_sem, ints_at]; rfl)) ?_ ?_ <;> (intro hb; first | (cases hb; done) | (have ht : true = true := hb; clear ht hb) | (have ht : false = false := hb; clear ht hb) | (simp only [hb]) | skip))
    | (refine ev_guardF _ _ (by (simp (disch := (first | omega | (simp [cutV] at *; omega))) only [go_sem, ints_at]; rfl)) (by (simp (disch := (first | omega | (simp [cutV] at *; omega))) only [go_sem, ints_at]; rfl)) ?_ ?_ <;> (intro hb; first | (cases hb; done) | (have ht : true = true := hb; clear ht hb) | (have ht : false = false := hb; clear ht hb) | (simp only [hb]) | skip))
    | refine ev_call0 _ _ (by (simp (disch := (first | omega | (simp [cutV] at *; omega))) only [go_sem, ints_at]; rfl)) (by first | exact f53_spec ..) (by (simp (disch := (first | omega | (simp [cutV] at *; omega))) only [go_sem, ints_at])) _ (by (simp (disch := (first | omega | (simp [cutV] at *; omega))) only [go_sem, ints_at]; rfl)) ?_
    | refine ev_callC _ _ _ _ (by (simp (disch := (first | omega | (simp [cutV] at *; omega))) only [go_sem, ints_at]; rfl)) (by (simp (disch := (first | omega | (simp [cutV] at *; omega))) only [go_sem, ints_at]; rfl)) (by first | exact f53_spec ..) (by (simp (disch := (first | omega | (simp [cutV] at *; omega))) only [go_sem, ints_at])) _ (by (simp (disch := (first | omega | (simp [cutV] at *; omega))) only [go_sem, ints_at]; rfl)) ?_
    | (apply regD; (case hd => (simp only [List.map_cons, List.map_nil]; rfl)); (case hok => rfl); (case' h => (intro K hK; (repeat' first
        | (apply evd_nil; refine (hK _ ?_); clear hK K)
        | (apply evd_guardU0; (case hj => (simp (disch := (first | omega | (simp [cutV] at *; omega))) only [go_sem, ints_at]; try rfl)); (case hu => (simp (disch := (first | omega | (simp [cutV] at *; omega))) only [go_sem, ints_at])); (case hσ => (simp (disch := (first | omega | (simp [cutV] at *; omega))) only [go_sem, ints_at]; try rfl)))
        | (apply evd_skipT0; (case hj => (simp (disch := (first | omega | (simp [cutV] at *; omega))) only [go_sem, ints_at]; try rfl)); (case hb => (simp (disch := (first | omega | (simp [cutV] at *; omega))) only [go_sem, ints_at]; try rfl)); (case hσ => (simp (disch := (first | omega | (simp [cutV] at *; omega))) only [go_sem, ints_at]; try rfl)))
        | (apply evd_skipF0; (case hj => (simp (disch := (first | omega | (simp [cutV] at *; omega))) only [go_sem, ints_at]; try rfl)); (case hb => (simp (disch := (first | omega | (simp [cutV] at *; omega))) only [go_sem, ints_at]; try rfl)); (case hσ => (simp (disch := (first | omega | (simp [cutV] at *; omega))) only [go_sem, ints_at]; try rfl)))
        | (apply evd_guardU; (case hj => (simp (disch := (first | omega | (simp [cutV] at *; omega))) only [go_sem, ints_at]; try rfl)); (case hu => (simp (disch := (first | omega | (simp [cutV] at *; omega))) only [go_sem, ints_at])); (case hσ => (simp (disch := (first | omega | (simp [cutV] at *; omega))) only [go_sem, ints_at]; try rfl)))
        | (apply evd_skipT; (case hj => (simp (disch := (first | omega | (simp [cutV] at *; omega))) only [go_sem, ints_at]; try rfl)); (case hb => (simp (disch := (first | omega | (simp [cutV] at *; omega))) only [go_sem, ints_at]; try rfl)); (case hσ => (simp (disch := (first | omega | (simp [cutV] at *; omega))) only [go_sem, ints_at]; try rfl)))
        | (apply evd_skipF; (case hj => (simp (disch := (first | omega | (simp [cutV] at *; omega))) only [go_sem, ints_at]; try rfl)); (case hb => (simp (disch := (first | omega | (simp [cutV] at *; omega))) only [go_sem, ints_at]; try rfl)); (case hσ => (simp (disch := (first | omega | (simp [cutV] at *; omega))) only [go_sem, ints_at]; try rfl)))
        | (apply evd_guardT; (case hj => (simp (disch := (first | omega | (simp [cutV] at *; omega))) only [go_sem, ints_at]; try rfl)); (case hb => (simp (disch := (first | omega | (simp [cutV] at *; omega))) only [go_sem, ints_at]; try rfl)); (case' h2 => (intro hb; first | (cases hb; done) | (simp only [hb]) | skip)); (case' h1 => (intro hb; first | (cases hb; done) | (simp only [hb]) | skip)))
        | (apply evd_guardF; (case hj => (simp (disch := (first | omega | (simp [cutV] at *; omega))) only [go_sem, ints_at]; try rfl)); (case hb => (simp (disch := (first | omega | (simp [cutV] at *; omega))) only [go_sem, ints_at]; try rfl)); (case' h2 => (intro hb; first | (cases hb; done) | (simp only [hb]) | skip)); (case' h1 => (intro hb; first | (cases hb; done) | (simp only [hb]) | skip)))
        | (apply evd_call0; (case hi => (simp (disch := (first | omega | (simp [cutV] at *; omega))) only [go_sem, ints_at]; try rfl)); (case hys => (simp (disch := (first | omega | (simp [cutV] at *; omega))) only [go_sem, ints_at]; try rfl)); (case hs => first | exact f53_spec ..); (case hok => (simp (disch := (first | omega | (simp [cutV] at *; omega))) only [go_sem, ints_at])); (case hw => (simp (disch := (first | omega | (simp [cutV] at *; omega))) only [go_sem, ints_at]; try rfl)); (case hσ => (simp (disch := (first | omega | (simp [cutV] at *; omega))) only [go_sem, ints_at]; try rfl)))
        | (apply evd_callC; (case hf => (simp (disch := (first | omega | (simp [cutV] at *; omega))) only [go_sem, ints_at]; try rfl)); (case hi => (simp (disch := (first | omega | (simp [cutV] at *; omega))) only [go_sem, ints_at]; try rfl)); (case hys => (simp (disch := (first | omega | (simp [cutV] at *; omega))) only [go_sem, ints_at]; try rfl)); (case hs => first | exact f53_spec ..); (case hok => (simp (disch := (first | omega | (simp [cutV] at *; omega))) only [go_sem, ints_at])); (case hw => (simp (disch := (first | omega | (simp [cutV] at *; omega))) only [go_sem, ints_at]; try rfl)); (case hσ => (simp (disch := (first | omega | (simp [cutV] at *; omega))) only [go_sem, ints_at]; try rfl)))
        | (apply evd_step0; (case hr => (simp (disch := (first | omega | (simp [cutV] at *; omega))) only [go_sem, ints_at]; try rfl)); (case hi => (simp (disch := (first | omega | (simp [cutV] at *; omega))) only [go_sem, ints_at]; try rfl)); (case hc => (first | trivial | decide | (simp only [inB, sliceOk, appendOk, rowsOk]; omega) | (simp [inB, sliceOk, appendOk, rowsOk]; omega) | ((simp [inB,cutV] at *; omega)))); (case hσ => (simp (disch := (first | omega | (simp [cutV] at *; omega))) only [go_sem, ints_at]; try rfl)))
        | (apply evd_step; (case hr => (simp (disch := (first | omega | (simp [cutV] at *; omega))) only [go_sem, ints_at]; try rfl)); (case hi => (simp (disch := (first | omega | (simp [cutV] at *; omega))) only [go_sem, ints_at]; try rfl)); (case hc => (first | trivial | decide | (simp only [inB, sliceOk, appendOk, rowsOk]; omega) | (simp [inB, sliceOk, appendOk, rowsOk]; omega) | ((simp [inB,cutV] at *; omega)))); (case hw => (intro g u; simp (disch := (first | omega | (simp [cutV] at *; omega))) only [go_sem, ints_at]; try rfl)); (case hσ => (intro g u; simp (disch := (first | omega | (simp [cutV] at *; omega))) only [go_sem, ints_at]; try rfl)); (case' hk => (intro g u; (try clear u); (try clear g))))
        | fail))); (case hB => kernel_rfl))
    | refine ev_step0 _ _ (by (simp (disch := (first | omega | (simp [cutV] at *; omega))) only [go_sem, ints_at]; rfl)) (by (first | trivial | decide | (simp only [inB, sliceOk, appendOk, rowsOk]; omega) | (simp [inB, sliceOk, appendOk, rowsOk]; omega) | ((simp [inB,cutV] at *; omega)))) _ (by (simp (disch := (first | omega | (simp [cutV] at *; omega))) only [go_sem, ints_at]; rfl)) ?_
    | (refine ev_step _ (by (simp (disch := (first | omega | (simp [cutV] at *; omega))) only [go_sem, ints_at]; rfl)) (by (first | trivial | decide | (simp only [inB, sliceOk, appendOk, rowsOk]; omega) | (simp [inB, sliceOk, appendOk, rowsOk]; omega) | ((simp [inB,cutV] at *; omega)))) _ (fun g u => by (simp (disch := (first | omega | (simp [cutV] at *; omega))) only [go_sem, ints_at]; rfl)) ?_; intro g u; (try clear u); (try clear g))
    | fail
  all_goals (refine resR_one T_ok rfl _ (by (simp only [go_sem, resA]; rfl)) (by first | trivial | (simp only [go_sem, resA])) (by first | trivial | (simp only [go_sem])) ?_; simp only [go_sem])
  all_goals
    have hw : 1 ≤ n.2 → n.2 ≤ 999 → IntKind.i64.wrap (n.2 - 1) = n.2 - 1 := fun h1 h2 => wrap_id (by omega)
    refine LeA.b ?_
    simp_all [wfC, named]
    try (first | omega | grind)
end
section
set_option linter.unusedVariables false
set_option linter.unusedSimpArgs false
open Go.RowKit
attribute [local irreducible] AWp evOps evD
def leqL (a b : List Int) : Bool := cutsOk a b && (List.range 6).all fun i => decide (a.getD i 0 ≤ b.getD i 0)
theorem f81_spec (a b : List Int) : Spec Try.prog 81 [.d (ints a), .d (ints b)] (litB (leqL a b)) := by
  refine spec_of_awp (fn := Try.f81) Try.func81 (by kernel_rfl) rfl ?_
  intro w0 C0
  simp only [Try.ntmps81, litI, litB, litS, List.length_cons, List.length_nil, Nat.reduceAdd, Nat.reduceSub, List.replicate_succ, List.replicate_zero, List.cons_append, List.nil_append]
  repeat' first
    | refine awp_seq ?_
    | refine awp_block ?_
    | refine awp_skip ?_
    | (refine reg _ (by (simp only [List.map_cons, List.map_nil]; rfl)) rfl ?_; intro K hK)
    | (refine awp_cond _ (by rfl) ?_ ?_ <;> (intro hb; first | (cases hb; done) | (have ht : true = true := hb; clear ht hb) | (have ht : false = false := hb; clear ht hb) | (simp only [hb]) | skip))
    | (refine awp_exit ?_; simp only [thenA, blockA, reduceIte, RetQ, Nat.reduceEqDiff])
    | (refine awp_ret ?_; simp only [thenA, blockA, RetQ])
    | (refine ev_nil (hK _ ?_); clear hK K)
    | refine ev_guardU _ (by (simp only [go_sem]; rfl)) (by (simp only [go_sem]; rfl)) _ (by (simp only [go_sem]; rfl)) ?_
    | (refine ev_guardT _ _ (by (simp only [go_sem]; rfl)) (by (simp only [go_sem]; rfl)) ?_ ?_ <;> (intro hb; first | (cases hb; done) | (have ht : true = true := hb; clear ht hb) | (have ht : false = false := hb; clear ht hb) | (simp only [hb]) | skip))
    | (refine ev_guardF _ _ (by (simp only [go_sem]; rfl)) (by (simp only [go_sem]; rfl)) ?_ ?_ <;> (intro hb; first | (cases hb; done) | (have ht : true = true := hb; clear ht hb) | (have ht : false = false := hb; clear ht hb) | (simp only [hb]) | skip))
    | refine ev_call0 _ _ (by (simp only [go_sem]; rfl)) (by first | exact f53_spec ..) (by (simp only [go_sem])) _ (by (simp only [go_sem]; rfl)) ?_
    | refine ev_callC _ _ _ _ (by (simp only [go_sem]; rfl)) (by (simp only [go_sem]; rfl)) (by first | exact f53_spec ..) (by (simp only [go_sem])) _ (by (simp only [go_sem]; rfl)) ?_
    | refine ev_step0 _ _ (by (simp only [go_sem]; rfl)) (by (first | trivial | decide | (simp only [inB, sliceOk, appendOk, rowsOk]; omega) | (simp [inB, sliceOk, appendOk, rowsOk]; omega))) _ (by (simp only [go_sem]; rfl)) ?_
    | (refine ev_step _ (by (simp only [go_sem]; rfl)) (by (first | trivial | decide | (simp only [inB, sliceOk, appendOk, rowsOk]; omega) | (simp [inB, sliceOk, appendOk, rowsOk]; omega))) _ (fun g u => by (simp only [go_sem]; rfl)) ?_; intro g u; (try clear u); (try clear g))
    | fail
  · all_goals (refine resR_one T_ok rfl _ (by (simp only [go_sem, resA]; rfl)) (by first | trivial | (simp only [go_sem, resA])) (by first | trivial | (simp only [go_sem])) ?_; simp only [go_sem])
    exact LeA.b (by simp_all [leqL, cutsOk])
  rotate_left
  · all_goals (refine resR_one T_ok rfl _ (by (simp only [go_sem, resA]; rfl)) (by first | trivial | (simp only [go_sem, resA])) (by first | trivial | (simp only [go_sem])) ?_; simp only [go_sem])
    exact LeA.b (by simp_all [leqL, cutsOk])
  have hok : cutsOk a b = true := by simp_all [cutsOk]
  have ha : a.length = 6 := by simp [cutsOk, cutV] at hok; omega
  have hb6 : b.length = 6 := by simp [cutsOk, cutV] at hok; omega
  refine awp_loopI (fun i : Nat => i ≤ a.length ∧ ∀ k, k < i → a.getD k 0 ≤ b.getD k 0) (fun i => a.length - i) (fun i => ⟨[.d (ints a), .d (ints b), .any, .any, litB false, litI .i64 i, .any, .any, .any, .any, .any, .any, .any, .any, .any, .any, .any, .any, .any, .any, .any, .any, .any, .any, .any, .any, .any, .any, .any], [.no, .no, .no, .no, .no, .no, .no, .no, .no, .no, .no, .no, .no, .no, .no, .no, .no, .no, .no, .no, .no, .no, .no, .no, .no, .no, .no, .no, .no]⟩) 0 ⟨by simp, by omega⟩ ?_ ?_
  · refine Wk.mk ?_ ?_
    all_goals (repeat' first | exact trivial | exact LeA.refl _ | exact LeA.any _ | exact LeO.refl _ | exact LeO.no _ | exact LeA.nil _ | (refine LeA.i ?_; (first | rfl | (push_cast; rfl) | (rw [wrap_id (by omega)]; push_cast; omega) | (simp [wrap_id]; omega))) | refine ⟨?_, ?_⟩)
  rintro i ⟨hi, hfi⟩
  simp only [litI, litB]
  by_cases hlt : i < a.length
  rotate_left
  have hdec : decide ((i : Int) < (a.length : Int)) = false := by simp; omega
  · repeat' first
      | refine awp_seq ?_
      | refine awp_block ?_
      | refine awp_skip ?_
      | (refine reg _ (by (simp only [List.map_cons, List.map_nil]; rfl)) rfl ?_; intro K hK)
      | (refine awp_cond _ (by rfl) ?_ ?_ <;> (intro hb; first | (cases hb; done) | (have ht : true = true := hb; clear ht hb) | (have ht : false = false := hb; clear ht hb) | (simp only [hb]) | skip))
      | (refine awp_exit ?_; simp only [thenA, blockA, reduceIte, RetQ, Nat.reduceEqDiff])
      | (refine awp_ret ?_; simp only [thenA, blockA, RetQ])
      | (refine ev_nil (hK _ ?_); clear hK K)
      | refine ev_guardU _ (by (simp only [go_sem, hdec]; rfl)) (by (simp only [go_sem, hdec]; rfl)) _ (by (simp only [go_sem, hdec]; rfl)) ?_
      | (refine ev_guardT _ _ (by (simp only [go_sem, hdec]; rfl)) (by (simp only [go_sem, hdec]; rfl)) ?_ ?_ <;> (intro hb; first | (cases hb; done) | (have ht : true = true := hb; clear ht hb) | (have ht : false = false := hb; clear ht hb) | (simp only [hb]) | skip))
      | (refine ev_guardF _ _ (by (simp only [go_sem, hdec]; rfl)) (by (simp only [go_sem, hdec]; rfl)) ?_ ?_ <;> (intro hb; first | (cases hb; done) | (have ht : true = true := hb; clear ht hb) | (have ht : false = false := hb; clear ht hb) | (simp only [hb]) | skip))
      | refine ev_step0 _ _ (by (simp only [go_sem, hdec]; rfl)) (by (first | trivial | decide | (simp only [inB, sliceOk, appendOk, rowsOk]; omega) | (simp [inB, sliceOk, appendOk, rowsOk]; omega))) _ (by (simp only [go_sem, hdec]; rfl)) ?_
      | (refine ev_step _ (by (simp only [go_sem, hdec]; rfl)) (by (first | trivial | decide | (simp only [inB, sliceOk, appendOk, rowsOk]; omega) | (simp [inB, sliceOk, appendOk, rowsOk]; omega))) _ (fun g u => by (simp only [go_sem, hdec]; rfl)) ?_; intro g u; (try clear u); (try clear g))
      | fail
    all_goals (refine resR_one T_ok rfl _ (by (simp only [go_sem, resA]; rfl)) (by first | trivial | (simp only [go_sem, resA])) (by first | trivial | (simp only [go_sem])) ?_; simp only [go_sem])
    refine LeA.b ?_
    symm
    simp only [leqL, hok, Bool.true_and, List.all_eq_true, List.mem_range, decide_eq_true_eq]
    intro k hk
    exact hfi k (by omega)
  have hdec : decide ((i : Int) < (a.length : Int)) = true := by simp; omega
  have hltb : i < b.length := by omega
  have hx := ints_at a hlt
  have hy := ints_at b hltb
  have hno : ¬ (a.getD i 0 ≤ b.getD i 0) → leqL a b = false := fun h => by
    rw [← Bool.not_eq_true]
    intro ht
    simp only [leqL, hok, Bool.true_and, List.all_eq_true, List.mem_range, decide_eq_true_eq] at ht
    exact h (ht i (by omega))
  have hst : a.getD i 0 ≤ b.getD i 0 → ∀ k, k < i + 1 → a.getD k 0 ≤ b.getD k 0 := fun h k hk => by
    rcases Nat.lt_or_ge k i with h1 | h1
    · exact hfi k h1
    · have : k = i := by omega
      subst this; exact h
  generalize a.getD i 0 = x at hx hno hst
  generalize b.getD i 0 = y at hy hno hst
  repeat' first
    | refine awp_seq ?_
    | refine awp_block ?_
    | refine awp_skip ?_
    | (refine reg _ (by (simp only [List.map_cons, List.map_nil]; rfl)) rfl ?_; intro K hK)
    | (refine awp_cond _ (by rfl) ?_ ?_ <;> (intro hb; first | (cases hb; done) | (have ht : true = true := hb; clear ht hb) | (have ht : false = false := hb; clear ht hb) | (simp only [hb]) | skip))
    | (refine awp_exit ?_; simp only [thenA, blockA, reduceIte, RetQ, Nat.reduceEqDiff])
    | (refine awp_ret ?_; simp only [thenA, blockA, RetQ])
    | (refine ev_nil (hK _ ?_); clear hK K)
    | refine ev_guardU _ (by (simp only [go_sem, hdec, hx, hy]; rfl)) (by (simp only [go_sem, hdec, hx, hy]; rfl)) _ (by (simp only [go_sem, hdec, hx, hy]; rfl)) ?_
    | (refine ev_guardT _ _ (by (simp only [go_sem, hdec, hx, hy]; rfl)) (by (simp only [go_sem, hdec, hx, hy]; rfl)) ?_ ?_ <;> (intro hb; first | (cases hb; done) | (have ht : true = true := hb; clear ht hb) | (have ht : false = false := hb; clear ht hb) | (simp only [hb]) | skip))
    | (refine ev_guardF _ _ (by (simp only [go_sem, hdec, hx, hy]; rfl)) (by (simp only [go_sem, hdec, hx, hy]; rfl)) ?_ ?_ <;> (intro hb; first | (cases hb; done) | (have ht : true = true := hb; clear ht hb) | (have ht : false = false := hb; clear ht hb) | (simp only [hb]) | skip))
    | (apply regD; (case hd => (simp only [List.map_cons, List.map_nil]; rfl)); (case hok => rfl); (case' h => (intro K hK; (repeat' first
        | (apply evd_nil; refine (hK _ ?_); clear hK K)
        | (apply evd_guardU0; (case hj => (simp only [go_sem, hdec, hx, hy]; try rfl)); (case hu => (simp only [go_sem, hdec, hx, hy])); (case hσ => (simp only [go_sem, hdec, hx, hy]; try rfl)))
        | (apply evd_skipT0; (case hj => (simp only [go_sem, hdec, hx, hy]; try rfl)); (case hb => (simp only [go_sem, hdec, hx, hy]; try rfl)); (case hσ => (simp only [go_sem, hdec, hx, hy]; try rfl)))
        | (apply evd_skipF0; (case hj => (simp only [go_sem, hdec, hx, hy]; try rfl)); (case hb => (simp only [go_sem, hdec, hx, hy]; try rfl)); (case hσ => (simp only [go_sem, hdec, hx, hy]; try rfl)))
        | (apply evd_guardU; (case hj => (simp only [go_sem, hdec, hx, hy]; try rfl)); (case hu => (simp only [go_sem, hdec, hx, hy])); (case hσ => (simp only [go_sem, hdec, hx, hy]; try rfl)))
        | (apply evd_skipT; (case hj => (simp only [go_sem, hdec, hx, hy]; try rfl)); (case hb => (simp only [go_sem, hdec, hx, hy]; try rfl)); (case hσ => (simp only [go_sem, hdec, hx, hy]; try rfl)))
        | (apply evd_skipF; (case hj => (simp only [go_sem, hdec, hx, hy]; try rfl)); (case hb => (simp only [go_sem, hdec, hx, hy]; try rfl)); (case hσ => (simp only [go_sem, hdec, hx, hy]; try rfl)))
        | (apply evd_guardT; (case hj => (simp only [go_sem, hdec, hx, hy]; try rfl)); (case hb => (simp only [go_sem, hdec, hx, hy]; try rfl)); (case' h2 => (intro hb; first | (cases hb; done) | (simp only [hb]) | skip)); (case' h1 => (intro hb; first | (cases hb; done) | (simp only [hb]) | skip)))
        | (apply evd_guardF; (case hj => (simp only [go_sem, hdec, hx, hy]; try rfl)); (case hb => (simp only [go_sem, hdec, hx, hy]; try rfl)); (case' h2 => (intro hb; first | (cases hb; done) | (simp only [hb]) | skip)); (case' h1 => (intro hb; first | (cases hb; done) | (simp only [hb]) | skip)))
        | (apply evd_step0; (case hr => (simp only [go_sem, hdec, hx, hy]; try rfl)); (case hi => (simp only [go_sem, hdec, hx, hy]; try rfl)); (case hc => (first | trivial | decide | (simp only [inB, sliceOk, appendOk, rowsOk]; omega) | (simp [inB, sliceOk, appendOk, rowsOk]; omega))); (case hσ => (simp only [go_sem, hdec, hx, hy]; try rfl)))
        | (apply evd_step; (case hr => (simp only [go_sem, hdec, hx, hy]; try rfl)); (case hi => (simp only [go_sem, hdec, hx, hy]; try rfl)); (case hc => (first | trivial | decide | (simp only [inB, sliceOk, appendOk, rowsOk]; omega) | (simp [inB, sliceOk, appendOk, rowsOk]; omega))); (case hw => (intro g u; simp only [go_sem, hdec, hx, hy]; try rfl)); (case hσ => (intro g u; simp only [go_sem, hdec, hx, hy]; try rfl)); (case' hk => (intro g u; (try clear u); (try clear g))))
        | fail))); (case hB => kernel_rfl))
    | refine ev_step0 _ _ (by (simp only [go_sem, hdec, hx, hy]; rfl)) (by (first | trivial | decide | (simp only [inB, sliceOk, appendOk, rowsOk]; omega) | (simp [inB, sliceOk, appendOk, rowsOk]; omega))) _ (by (simp only [go_sem, hdec, hx, hy]; rfl)) ?_
    | (refine ev_step _ (by (simp only [go_sem, hdec, hx, hy]; rfl)) (by (first | trivial | decide | (simp only [inB, sliceOk, appendOk, rowsOk]; omega) | (simp [inB, sliceOk, appendOk, rowsOk]; omega))) _ (fun g u => by (simp only [go_sem, hdec, hx, hy]; rfl)) ?_; intro g u; (try clear u); (try clear g))
    | fail
  all_goals first
    | (refine Exists.intro (i + 1) ⟨?_, by omega, ?_⟩; (· refine ⟨by omega, hst ?_⟩; simp_all); (refine Wk.mk ?_ ?_ <;> (repeat' first | exact trivial | exact LeA.refl _ | exact LeA.any _ | exact LeO.refl _ | exact LeO.no _ | exact LeA.nil _ | (refine LeA.i ?_; (first | rfl | (push_cast; rfl) | (rw [wrap_id (by omega)]; push_cast; omega) | (simp [wrap_id]; omega))) | refine ⟨?_, ?_⟩)))
    | (refine resR_one T_ok rfl _ (by (simp only [go_sem, resA]; rfl)) (by first | trivial | (simp only [go_sem, resA])) (by first | trivial | (simp only [go_sem])) ?_; simp only [go_sem]; refine LeA.b ?_; symm; refine hno ?_; simp_all)
end
section
set_option linter.unusedVariables false
set_option linter.unusedSimpArgs false
open Go.RowKit
attribute [local irreducible] AWp evOps evD
def okC (h : List Cm) (c : List Int) (s q : Int) : Bool := match h.find? (fun x => nmEq x.1 (s, q)) with
  | none => false
  | some x => wfC x.1 x.2 && leqL x.2 c
theorem findC_spec (n : Nm) (l : List Cm) (k : Nat) : (findC n l k = -1 ∧ l.find? (fun x => nmEq x.1 n) = none) ∨ ∃ i, i < l.length ∧ findC n l k = ((k + i : Nat) : Int) ∧ l.find? (fun x => nmEq x.1 n) = some (l.getD i ((0, 0), [])) := by
  induction l generalizing k with
  | nil => exact .inl ⟨rfl, rfl⟩
  | cons c l ih =>
    simp only [findC, List.find?_cons]
    by_cases h : nmEq c.1 n = true
    · exact .inr ⟨0, by simp, by simp [h], by simp [h]⟩
    · simp only [h]
      rcases ih (k + 1) with ⟨h1, h2⟩ | ⟨i, h1, h2, h3⟩
      · exact .inl ⟨by simpa using h1, h2⟩
      · refine .inr ⟨i + 1, by simp; omega, ?_, ?_⟩
        · simp only [Bool.false_eq_true, if_false]; rw [h2]; congr 1; omega
        · simp only [h3]; simp
def fitFrom (h : List Cm) (c : List Int) (s : Int) : Nat → Nat → Nat
  | 0, _ => 0
  | f + 1, k => if okC h c s (k + 1 : Nat) = true then 1 + fitFrom h c s f (k + 1) else 0
def fitV (h : List Cm) (c : List Int) (s : Int) : Int := fitFrom h c s (c.getD s.toNat 0).toNat 0
set_option maxHeartbeats 4000000 in
theorem f73_spec (h : List Cm) (c : List Int) (s : Int) (hs : 0 ≤ s ∧ s < 6) (hc : cutV c = true) : Spec Try.prog 73 [.d (cms h), .d (ints c), litI .i64 s] (litI .i64 (fitV h c s)) := by
  have hc6 : c.length = 6 := by simp [cutV] at hc; omega
  have hlts : s.toNat < c.length := by omega
  have hxs := ints_at c hlts
  have hm : 0 ≤ c.getD s.toNat 0 ∧ c.getD s.toNat 0 ≤ 999 := by
    have hmem : c.getD s.toNat 0 ∈ c := by rw [List.getD_eq_getElem?_getD, List.getElem?_eq_getElem hlts]; exact List.getElem_mem hlts
    have := (List.all_eq_true.1 (Bool.and_eq_true _ _ ▸ hc).2) _ hmem
    simpa [cutOk] using this
  unfold fitV
  generalize c.getD s.toNat 0 = m at *
  refine spec_of_awp (fn := Try.f73) Try.func73 (by kernel_rfl) rfl ?_
  intro w0 C0
  simp only [Try.ntmps73, litI, litB, litS, List.length_cons, List.length_nil, Nat.reduceAdd, Nat.reduceSub, List.replicate_succ, List.replicate_zero, List.cons_append, List.nil_append]
  refine awp_len 0 rfl fun hl => ?_
  simp only [List.length_map] at hl
  repeat' first
    | refine awp_seq ?_
    | refine awp_block ?_
    | refine awp_skip ?_
    | (refine reg _ (by (simp only [List.map_cons, List.map_nil]; rfl)) rfl ?_; intro K hK)
    | (refine awp_cond _ (by rfl) ?_ ?_ <;> (intro hb; first | (cases hb; done) | (have ht : true = true := hb; clear ht hb) | (have ht : false = false := hb; clear ht hb) | (simp only [hb]) | skip))
    | (refine awp_exit ?_; simp only [thenA, blockA, reduceIte, RetQ, Nat.reduceEqDiff])
    | (refine awp_ret ?_; simp only [thenA, blockA, RetQ])
    | (refine ev_nil (hK _ ?_); clear hK K)
    | refine ev_guardU _ (by (simp only [go_sem]; rfl)) (by (simp only [go_sem]; rfl)) _ (by (simp only [go_sem]; rfl)) ?_
    | (refine ev_guardT _ _ (by (simp only [go_sem]; rfl)) (by (simp only [go_sem]; rfl)) ?_ ?_ <;> (intro hb; first | (cases hb; done) | (have ht : true = true := hb; clear ht hb) | (have ht : false = false := hb; clear ht hb) | (simp only [hb]) | skip))
    | (refine ev_guardF _ _ (by (simp only [go_sem]; rfl)) (by (simp only [go_sem]; rfl)) ?_ ?_ <;> (intro hb; first | (cases hb; done) | (have ht : true = true := hb; clear ht hb) | (have ht : false = false := hb; clear ht hb) | (simp only [hb]) | skip))
    | refine ev_step0 _ _ (by (simp only [go_sem]; rfl)) (by (first | trivial | decide | (simp only [inB, sliceOk, appendOk, rowsOk]; omega) | (simp [inB, sliceOk, appendOk, rowsOk]; omega))) _ (by (simp only [go_sem]; rfl)) ?_
    | (refine ev_step _ (by (simp only [go_sem]; rfl)) (by (first | trivial | decide | (simp only [inB, sliceOk, appendOk, rowsOk]; omega) | (simp [inB, sliceOk, appendOk, rowsOk]; omega))) _ (fun g u => by (simp only [go_sem]; rfl)) ?_; intro g u; (try clear u); (try clear g))
    | fail
  refine awp_loopI (fun k : Nat => k ≤ m.toNat ∧ fitFrom h c s m.toNat 0 = k + fitFrom h c s (m.toNat - k) k) (fun k => m.toNat - k) (fun k => ⟨[.d (cms h), .d (ints c), litI .i64 s, .any, .any, .any, litI .i64 0, litI .i64 ((k + 1 : Nat) : Int), .any, .any, .any, .any, .any, .any, .any, .any, .any, .any, .any, .any, .any, .any, .any, .any, .any, .any, .any, .any, .any, .any, .any, .any, .any, .any, .any, .any, .any, .any, .any, .any, .any, .any, .any, .any, .any, .any, .any, .any], [.no, .no, .no, .no, .no, .no, .no, .no, .no, .no, .no, .no, .no, .no, .no, .no, .no, .no, .no, .no, .no, .no, .no, .no, .no, .no, .no, .no, .no, .no, .no, .no, .no, .no, .no, .no, .no, .no, .no, .no, .no, .no, .no, .no, .no, .no, .no, .no]⟩) 0 ⟨by omega, by simp⟩ ?_ ?_
  · refine Wk.mk ?_ ?_
    all_goals (repeat' first | exact trivial | exact LeA.refl _ | exact LeA.any _ | exact LeO.refl _ | exact LeO.no _ | exact LeA.nil _ | (refine LeA.i ?_; (first | rfl | (push_cast; rfl) | (rw [wrap_id (by omega)]; push_cast; omega) | (simp [wrap_id]; omega))) | refine ⟨?_, ?_⟩)
  rintro k ⟨hk, hfk⟩
  simp only [litI, litB]
  by_cases hlt : k < m.toNat
  · have h1 : decide ((((k + 1 : Nat) : Int)) ≤ m) = true := by simp; omega
    have hst : m.toNat - k = (m.toNat - (k + 1)) + 1 := by omega
    rw [hst] at hfk
    simp only [fitFrom] at hfk
    rcases findC_spec (s, ((k + 1 : Nat) : Int)) h 0 with ⟨g1, g2⟩ | ⟨i, gi, g1, g2⟩
    · have hok : okC h c s ((k + 1 : Nat) : Int) = false := by simp only [okC]; rw [g2]
      have hf := f79_spec h (s, ((k + 1 : Nat) : Int))
      rw [g1] at hf
      have hneg : decide ((-1 : Int) < 0) = true := rfl
      repeat' first
        | refine awp_seq ?_
        | refine awp_block ?_
        | refine awp_skip ?_
        | (refine reg _ (by (simp only [List.map_cons, List.map_nil]; rfl)) rfl ?_; intro K hK)
        | (refine awp_cond _ (by rfl) ?_ ?_ <;> (intro hb; first | (cases hb; done) | (have ht : true = true := hb; clear ht hb) | (have ht : false = false := hb; clear ht hb) | (simp only [hb]) | skip))
        | (refine awp_exit ?_; simp only [thenA, blockA, reduceIte, RetQ, Nat.reduceEqDiff])
        | (refine awp_ret ?_; simp only [thenA, blockA, RetQ])
        | (refine ev_nil (hK _ ?_); clear hK K)
        | refine ev_guardU _ (by (simp only [go_sem, hxs, h1, hneg]; rfl)) (by (simp only [go_sem, hxs, h1, hneg]; rfl)) _ (by (simp only [go_sem, hxs, h1, hneg]; rfl)) ?_
        | (refine ev_guardT _ _ (by (simp only [go_sem, hxs, h1, hneg]; rfl)) (by (simp only [go_sem, hxs, h1, hneg]; rfl)) ?_ ?_ <;> (intro hb; first | (cases hb; done) | (have ht : true = true := hb; clear ht hb) | (have ht : false = false := hb; clear ht hb) | (simp only [hb]) | skip))
        | (refine ev_guardF _ _ (by (simp only [go_sem, hxs, h1, hneg]; rfl)) (by (simp only [go_sem, hxs, h1, hneg]; rfl)) ?_ ?_ <;> (intro hb; first | (cases hb; done) | (have ht : true = true := hb; clear ht hb) | (have ht : false = false := hb; clear ht hb) | (simp only [hb]) | skip))
        | refine ev_call0 _ _ (by (simp only [go_sem, hxs, h1, hneg]; rfl)) (by first | exact hf ..) (by (simp only [go_sem, hxs, h1, hneg])) _ (by (simp only [go_sem, hxs, h1, hneg]; rfl)) ?_
        | refine ev_callC _ _ _ _ (by (simp only [go_sem, hxs, h1, hneg]; rfl)) (by (simp only [go_sem, hxs, h1, hneg]; rfl)) (by first | exact hf ..) (by (simp only [go_sem, hxs, h1, hneg])) _ (by (simp only [go_sem, hxs, h1, hneg]; rfl)) ?_
        | refine ev_step0 _ _ (by (simp only [go_sem, hxs, h1, hneg]; rfl)) (by (first | trivial | decide | (simp only [inB, sliceOk, appendOk, rowsOk]; omega) | (simp [inB, sliceOk, appendOk, rowsOk]; omega))) _ (by (simp only [go_sem, hxs, h1, hneg]; rfl)) ?_
        | (refine ev_step _ (by (simp only [go_sem, hxs, h1, hneg]; rfl)) (by (first | trivial | decide | (simp only [inB, sliceOk, appendOk, rowsOk]; omega) | (simp [inB, sliceOk, appendOk, rowsOk]; omega))) _ (fun g u => by (simp only [go_sem, hxs, h1, hneg]; rfl)) ?_; intro g u; (try clear u); (try clear g))
        | fail
      all_goals (refine resR_one T_ok rfl _ (by (simp only [go_sem, resA]; rfl)) (by first | trivial | (simp only [go_sem, resA])) (by first | trivial | (simp only [go_sem])) ?_; simp only [go_sem])
      refine LeA.i ?_
      rw [hfk, hok, wrap_id (by omega)]
      simp
    · have hok : okC h c s ((k + 1 : Nat) : Int) = (wfC (h.getD i ((0, 0), [])).1 (h.getD i ((0, 0), [])).2 && leqL (h.getD i ((0, 0), [])).2 c) := by simp only [okC]; rw [g2]
      have hf := f79_spec h (s, ((k + 1 : Nat) : Int))
      rw [Nat.zero_add] at g1
      rw [g1] at hf
      have hneg : decide (((i : Nat) : Int) < 0) = false := by simp
      have hx := cms_at h gi
      generalize h.getD i ((0, 0), []) = x at *
      repeat' first
        | refine awp_seq ?_
        | refine awp_block ?_
        | refine awp_skip ?_
        | (refine reg _ (by (simp only [List.map_cons, List.map_nil]; rfl)) rfl ?_; intro K hK)
        | (refine awp_cond _ (by rfl) ?_ ?_ <;> (intro hb; first | (cases hb; done) | (have ht : true = true := hb; clear ht hb) | (have ht : false = false := hb; clear ht hb) | (simp only [hb]) | skip))
        | (refine awp_exit ?_; simp only [thenA, blockA, reduceIte, RetQ, Nat.reduceEqDiff])
        | (refine awp_ret ?_; simp only [thenA, blockA, RetQ])
        | (refine ev_nil (hK _ ?_); clear hK K)
        | refine ev_guardU _ (by (simp only [go_sem, hxs, h1, hneg, hx]; rfl)) (by (simp only [go_sem, hxs, h1, hneg, hx]; rfl)) _ (by (simp only [go_sem, hxs, h1, hneg, hx]; rfl)) ?_
        | (refine ev_guardT _ _ (by (simp only [go_sem, hxs, h1, hneg, hx]; rfl)) (by (simp only [go_sem, hxs, h1, hneg, hx]; rfl)) ?_ ?_ <;> (intro hb; first | (cases hb; done) | (have ht : true = true := hb; clear ht hb) | (have ht : false = false := hb; clear ht hb) | (simp only [hb]) | skip))
        | (refine ev_guardF _ _ (by (simp only [go_sem, hxs, h1, hneg, hx]; rfl)) (by (simp only [go_sem, hxs, h1, hneg, hx]; rfl)) ?_ ?_ <;> (intro hb; first | (cases hb; done) | (have ht : true = true := hb; clear ht hb) | (have ht : false = false := hb; clear ht hb) | (simp only [hb]) | skip))
        | refine ev_call0 _ _ (by (simp only [go_sem, hxs, h1, hneg, hx]; rfl)) (by first | exact hf .. | exact f80_spec .. | exact f81_spec ..) (by (simp only [go_sem, hxs, h1, hneg, hx])) _ (by (simp only [go_sem, hxs, h1, hneg, hx]; rfl)) ?_
        | refine ev_callC _ _ _ _ (by (simp only [go_sem, hxs, h1, hneg, hx]; rfl)) (by (simp only [go_sem, hxs, h1, hneg, hx]; rfl)) (by first | exact hf .. | exact f80_spec .. | exact f81_spec ..) (by (simp only [go_sem, hxs, h1, hneg, hx])) _ (by (simp only [go_sem, hxs, h1, hneg, hx]; rfl)) ?_
        | refine ev_step0 _ _ (by (simp only [go_sem, hxs, h1, hneg, hx]; rfl)) (by (first | trivial | decide | (simp only [inB, sliceOk, appendOk, rowsOk]; omega) | (simp [inB, sliceOk, appendOk, rowsOk]; omega))) _ (by (simp only [go_sem, hxs, h1, hneg, hx]; rfl)) ?_
        | (refine ev_step _ (by (simp only [go_sem, hxs, h1, hneg, hx]; rfl)) (by (first | trivial | decide | (simp only [inB, sliceOk, appendOk, rowsOk]; omega) | (simp [inB, sliceOk, appendOk, rowsOk]; omega))) _ (fun g u => by (simp only [go_sem, hxs, h1, hneg, hx]; rfl)) ?_; intro g u; (try clear u); (try clear g))
        | fail
      all_goals first
        | (refine Exists.intro (k + 1) ⟨?_, by omega, ?_⟩; (· refine ⟨by omega, ?_⟩; rw [hfk, hok]; simp_all; (try omega)); (refine Wk.mk ?_ ?_ <;> (repeat' first | exact trivial | exact LeA.refl _ | exact LeA.any _ | exact LeO.refl _ | exact LeO.no _ | exact LeA.nil _ | (refine LeA.i ?_; (first | rfl | (push_cast; rfl) | (rw [wrap_id (by omega)]; push_cast; omega) | (simp [wrap_id]; omega))) | refine ⟨?_, ?_⟩)))
        | (refine resR_one T_ok rfl _ (by (simp only [go_sem, resA]; rfl)) (by first | trivial | (simp only [go_sem, resA])) (by first | trivial | (simp only [go_sem])) ?_; simp only [go_sem]; refine LeA.i ?_; rw [hfk, hok, wrap_id (by omega)]; simp_all)
  · have h1 : decide ((((k + 1 : Nat) : Int)) ≤ m) = false := by simp; omega
    have hkm : k = m.toNat := by omega
    repeat' first
      | refine awp_seq ?_
      | refine awp_block ?_
      | refine awp_skip ?_
      | (refine reg _ (by (simp only [List.map_cons, List.map_nil]; rfl)) rfl ?_; intro K hK)
      | (refine awp_cond _ (by rfl) ?_ ?_ <;> (intro hb; first | (cases hb; done) | (have ht : true = true := hb; clear ht hb) | (have ht : false = false := hb; clear ht hb) | (simp only [hb]) | skip))
      | (refine awp_exit ?_; simp only [thenA, blockA, reduceIte, RetQ, Nat.reduceEqDiff])
      | (refine awp_ret ?_; simp only [thenA, blockA, RetQ])
      | (refine ev_nil (hK _ ?_); clear hK K)
      | refine ev_guardU _ (by (simp only [go_sem, hxs, h1]; rfl)) (by (simp only [go_sem, hxs, h1]; rfl)) _ (by (simp only [go_sem, hxs, h1]; rfl)) ?_
      | (refine ev_guardT _ _ (by (simp only [go_sem, hxs, h1]; rfl)) (by (simp only [go_sem, hxs, h1]; rfl)) ?_ ?_ <;> (intro hb; first | (cases hb; done) | (have ht : true = true := hb; clear ht hb) | (have ht : false = false := hb; clear ht hb) | (simp only [hb]) | skip))
      | (refine ev_guardF _ _ (by (simp only [go_sem, hxs, h1]; rfl)) (by (simp only [go_sem, hxs, h1]; rfl)) ?_ ?_ <;> (intro hb; first | (cases hb; done) | (have ht : true = true := hb; clear ht hb) | (have ht : false = false := hb; clear ht hb) | (simp only [hb]) | skip))
      | refine ev_step0 _ _ (by (simp only [go_sem, hxs, h1]; rfl)) (by (first | trivial | decide | (simp only [inB, sliceOk, appendOk, rowsOk]; omega) | (simp [inB, sliceOk, appendOk, rowsOk]; omega))) _ (by (simp only [go_sem, hxs, h1]; rfl)) ?_
      | (refine ev_step _ (by (simp only [go_sem, hxs, h1]; rfl)) (by (first | trivial | decide | (simp only [inB, sliceOk, appendOk, rowsOk]; omega) | (simp [inB, sliceOk, appendOk, rowsOk]; omega))) _ (fun g u => by (simp only [go_sem, hxs, h1]; rfl)) ?_; intro g u; (try clear u); (try clear g))
      | fail
    all_goals (refine resR_one T_ok rfl _ (by (simp only [go_sem, resA]; rfl)) (by first | trivial | (simp only [go_sem, resA])) (by first | trivial | (simp only [go_sem])) ?_; simp only [go_sem])
    refine LeA.i ?_
    rw [hfk, hkm]
    simp [fitFrom]
    omega
end
section
set_option linter.unusedVariables false
set_option linter.unusedSimpArgs false
open Go.RowKit
attribute [local irreducible] AWp evOps evD
def closedC (h : List Cm) (c : List Int) : Bool := cutV c && (List.range 6).all fun s => !decide (fitV h c s < c.getD s 0)
set_option maxHeartbeats 4000000 in
theorem f72_spec (h : List Cm) (c : List Int) : Spec Try.prog 72 [.d (cms h), .d (ints c)] (litB (closedC h c)) := by
  refine spec_of_awp (fn := Try.f72) Try.func72 (by kernel_rfl) rfl ?_
  intro w0 C0
  simp only [Try.ntmps72, litI, litB, litS, List.length_cons, List.length_nil, Nat.reduceAdd, Nat.reduceSub, List.replicate_succ, List.replicate_zero, List.cons_append, List.nil_append]
  repeat' first
    | refine awp_seq ?_
    | refine awp_block ?_
    | refine awp_skip ?_
    | (refine reg _ (by (simp only [List.map_cons, List.map_nil]; rfl)) rfl ?_; intro K hK)
    | (refine awp_cond _ (by rfl) ?_ ?_ <;> (intro hb; first | (cases hb; done) | (have ht : true = true := hb; clear ht hb) | (have ht : false = false := hb; clear ht hb) | (simp only [hb]) | skip))
    | (refine awp_exit ?_; simp only [thenA, blockA, reduceIte, RetQ, Nat.reduceEqDiff])
    | (refine awp_ret ?_; simp only [thenA, blockA, RetQ])
    | (refine ev_nil (hK _ ?_); clear hK K)
    | refine ev_call0 _ _ (by (simp only [go_sem]; rfl)) (by first | exact f53_spec ..) (by (simp only [go_sem])) _ (by (simp only [go_sem]; rfl)) ?_
    | refine ev_callC _ _ _ _ (by (simp only [go_sem]; rfl)) (by (simp only [go_sem]; rfl)) (by first | exact f53_spec ..) (by (simp only [go_sem])) _ (by (simp only [go_sem]; rfl)) ?_
    | refine ev_step0 _ _ (by (simp only [go_sem]; rfl)) (by (first | trivial | decide | (simp only [inB, sliceOk, appendOk, rowsOk]; omega) | (simp [inB, sliceOk, appendOk, rowsOk]; omega))) _ (by (simp only [go_sem]; rfl)) ?_
    | (refine ev_step _ (by (simp only [go_sem]; rfl)) (by (first | trivial | decide | (simp only [inB, sliceOk, appendOk, rowsOk]; omega) | (simp [inB, sliceOk, appendOk, rowsOk]; omega))) _ (fun g u => by (simp only [go_sem]; rfl)) ?_; intro g u; (try clear u); (try clear g))
    | fail
  · all_goals (refine resR_one T_ok rfl _ (by (simp only [go_sem, resA]; rfl)) (by first | trivial | (simp only [go_sem, resA])) (by first | trivial | (simp only [go_sem])) ?_; simp only [go_sem])
    exact LeA.b (by simp_all [closedC])
  have hok : cutV c = true := by simp_all
  have hc6 : c.length = 6 := by simp [cutV] at hok; omega
  refine awp_loopI (fun i : Nat => i ≤ c.length ∧ ∀ k, k < i → ¬ (fitV h c (k : Int) < c.getD k 0)) (fun i => c.length - i) (fun i => ⟨[.d (cms h), .d (ints c), .any, .any, litB false, litI .i64 i, .any, .any, .any, .any, .any, .any, .any, .any, .any, .any, .any, .any, .any, .any, .any, .any, .any, .any], [.no, .no, .no, .no, .no, .no, .no, .no, .no, .no, .no, .no, .no, .no, .no, .no, .no, .no, .no, .no, .no, .no, .no, .no]⟩) 0 ⟨by simp, by omega⟩ ?_ ?_
  · refine Wk.mk ?_ ?_
    all_goals (repeat' first | exact trivial | exact LeA.refl _ | exact LeA.any _ | exact LeO.refl _ | exact LeO.no _ | exact LeA.nil _ | (refine LeA.i ?_; (first | rfl | (push_cast; rfl) | (rw [wrap_id (by omega)]; push_cast; omega) | (simp [wrap_id]; omega))) | refine ⟨?_, ?_⟩)
  rintro i ⟨hi, hfi⟩
  simp only [litI, litB]
  by_cases hlt : i < c.length
  rotate_left
  have hdec : decide ((i : Int) < (c.length : Int)) = false := by simp; omega
  · repeat' first
      | refine awp_seq ?_
      | refine awp_block ?_
      | refine awp_skip ?_
      | (refine reg _ (by (simp only [List.map_cons, List.map_nil]; rfl)) rfl ?_; intro K hK)
      | (refine awp_cond _ (by rfl) ?_ ?_ <;> (intro hb; first | (cases hb; done) | (have ht : true = true := hb; clear ht hb) | (have ht : false = false := hb; clear ht hb) | (simp only [hb]) | skip))
      | (refine awp_exit ?_; simp only [thenA, blockA, reduceIte, RetQ, Nat.reduceEqDiff])
      | (refine awp_ret ?_; simp only [thenA, blockA, RetQ])
      | (refine ev_nil (hK _ ?_); clear hK K)
      | refine ev_step0 _ _ (by (simp only [go_sem, hdec]; rfl)) (by (first | trivial | decide | (simp only [inB, sliceOk, appendOk, rowsOk]; omega) | (simp [inB, sliceOk, appendOk, rowsOk]; omega))) _ (by (simp only [go_sem, hdec]; rfl)) ?_
      | (refine ev_step _ (by (simp only [go_sem, hdec]; rfl)) (by (first | trivial | decide | (simp only [inB, sliceOk, appendOk, rowsOk]; omega) | (simp [inB, sliceOk, appendOk, rowsOk]; omega))) _ (fun g u => by (simp only [go_sem, hdec]; rfl)) ?_; intro g u; (try clear u); (try clear g))
      | fail
    all_goals (refine resR_one T_ok rfl _ (by (simp only [go_sem, resA]; rfl)) (by first | trivial | (simp only [go_sem, resA])) (by first | trivial | (simp only [go_sem])) ?_; simp only [go_sem])
    refine LeA.b ?_
    symm
    simp only [closedC, hok, Bool.true_and, List.all_eq_true, List.mem_range, Bool.not_eq_true', decide_eq_false_iff_not]
    intro k hk
    exact hfi k (by omega)
  have hdec : decide ((i : Int) < (c.length : Int)) = true := by simp; omega
  have hx := ints_at c hlt
  have hf := f73_spec h c (i : Int) ⟨by omega, by omega⟩ hok
  have hno : fitV h c (i : Int) < c.getD i 0 → closedC h c = false := fun hh => by
    rw [← Bool.not_eq_true]
    intro ht
    simp only [closedC, hok, Bool.true_and, List.all_eq_true, List.mem_range, Bool.not_eq_true', decide_eq_false_iff_not] at ht
    exact ht i (by omega) hh
  have hst : ¬ (fitV h c (i : Int) < c.getD i 0) → ∀ k, k < i + 1 → ¬ (fitV h c (k : Int) < c.getD k 0) := fun hh k hk => by
    rcases Nat.lt_or_ge k i with h1 | h1
    · exact hfi k h1
    · have : k = i := by omega
      subst this; exact hh
  generalize c.getD i 0 = x at hx hno hst
  generalize fitV h c (i : Int) = y at hf hno hst
  repeat' first
    | refine awp_seq ?_
    | refine awp_block ?_
    | refine awp_skip ?_
    | (refine reg _ (by (simp only [List.map_cons, List.map_nil]; rfl)) rfl ?_; intro K hK)
    | (refine awp_cond _ (by rfl) ?_ ?_ <;> (intro hb; first | (cases hb; done) | (have ht : true = true := hb; clear ht hb) | (have ht : false = false := hb; clear ht hb) | (simp only [hb]) | skip))
    | (refine awp_exit ?_; simp only [thenA, blockA, reduceIte, RetQ, Nat.reduceEqDiff])
    | (refine awp_ret ?_; simp only [thenA, blockA, RetQ])
    | (refine ev_nil (hK _ ?_); clear hK K)
    | refine ev_call0 _ _ (by (simp only [go_sem, hdec, hx]; rfl)) (by first | exact hf ..) (by (simp only [go_sem, hdec, hx])) _ (by (simp only [go_sem, hdec, hx]; rfl)) ?_
    | refine ev_callC _ _ _ _ (by (simp only [go_sem, hdec, hx]; rfl)) (by (simp only [go_sem, hdec, hx]; rfl)) (by first | exact hf ..) (by (simp only [go_sem, hdec, hx])) _ (by (simp only [go_sem, hdec, hx]; rfl)) ?_
    | (apply regD; (case hd => (simp only [List.map_cons, List.map_nil]; rfl)); (case hok => rfl); (case' h => (intro K hK; (repeat' first
        | (apply evd_nil; refine (hK _ ?_); clear hK K)
        | (apply evd_call0; (case hi => (simp only [go_sem, hdec, hx]; try rfl)); (case hys => (simp only [go_sem, hdec, hx]; try rfl)); (case hs => first | exact hf ..); (case hok => (simp only [go_sem, hdec, hx])); (case hw => (simp only [go_sem, hdec, hx]; try rfl)); (case hσ => (simp only [go_sem, hdec, hx]; try rfl)))
        | (apply evd_callC; (case hf => (simp only [go_sem, hdec, hx]; try rfl)); (case hi => (simp only [go_sem, hdec, hx]; try rfl)); (case hys => (simp only [go_sem, hdec, hx]; try rfl)); (case hs => first | exact hf ..); (case hok => (simp only [go_sem, hdec, hx])); (case hw => (simp only [go_sem, hdec, hx]; try rfl)); (case hσ => (simp only [go_sem, hdec, hx]; try rfl)))
        | (apply evd_step0; (case hr => (simp only [go_sem, hdec, hx]; try rfl)); (case hi => (simp only [go_sem, hdec, hx]; try rfl)); (case hc => (first | trivial | decide | (simp only [inB, sliceOk, appendOk, rowsOk]; omega) | (simp [inB, sliceOk, appendOk, rowsOk]; omega))); (case hσ => (simp only [go_sem, hdec, hx]; try rfl)))
        | (apply evd_step; (case hr => (simp only [go_sem, hdec, hx]; try rfl)); (case hi => (simp only [go_sem, hdec, hx]; try rfl)); (case hc => (first | trivial | decide | (simp only [inB, sliceOk, appendOk, rowsOk]; omega) | (simp [inB, sliceOk, appendOk, rowsOk]; omega))); (case hw => (intro g u; simp only [go_sem, hdec, hx]; try rfl)); (case hσ => (intro g u; simp only [go_sem, hdec, hx]; try rfl)); (case' hk => (intro g u; (try clear u); (try clear g))))
        | fail))); (case hB => kernel_rfl))
    | refine ev_step0 _ _ (by (simp only [go_sem, hdec, hx]; rfl)) (by (first | trivial | decide | (simp only [inB, sliceOk, appendOk, rowsOk]; omega) | (simp [inB, sliceOk, appendOk, rowsOk]; omega))) _ (by (simp only [go_sem, hdec, hx]; rfl)) ?_
    | (refine ev_step _ (by (simp only [go_sem, hdec, hx]; rfl)) (by (first | trivial | decide | (simp only [inB, sliceOk, appendOk, rowsOk]; omega) | (simp [inB, sliceOk, appendOk, rowsOk]; omega))) _ (fun g u => by (simp only [go_sem, hdec, hx]; rfl)) ?_; intro g u; (try clear u); (try clear g))
    | fail
  all_goals first
    | (refine Exists.intro (i + 1) ⟨?_, by omega, ?_⟩; (· refine ⟨by omega, hst ?_⟩; simp_all); (refine Wk.mk ?_ ?_ <;> (repeat' first | exact trivial | exact LeA.refl _ | exact LeA.any _ | exact LeO.refl _ | exact LeO.no _ | exact LeA.nil _ | (refine LeA.i ?_; (first | rfl | (push_cast; rfl) | (rw [wrap_id (by omega)]; push_cast; omega) | (simp [wrap_id]; omega))) | refine ⟨?_, ?_⟩)))
    | (refine resR_one T_ok rfl _ (by (simp only [go_sem, resA]; rfl)) (by first | trivial | (simp only [go_sem, resA])) (by first | trivial | (simp only [go_sem])) ?_; simp only [go_sem]; refine LeA.b ?_; symm; refine hno ?_; simp_all)
end
section
set_option linter.unusedVariables false
set_option linter.unusedSimpArgs false
open Go.RowKit
attribute [local irreducible] AWp evOps evD
/-- A change: its name, its past, whether it puts. -/
abbrev Ch := Nm × List Int × Bool
abbrev chs (l : List Ch) : Dat := .sl 4 (l.map fun c => [.lit (.int .i64 c.1.1), .lit (.int .i64 c.1.2), ints c.2.1, .lit (.bool c.2.2)])
abbrev ch0 : Ch := ((0, 0), [], false)
theorem chs_at (l : List Ch) {i : Nat} (h : i < l.length) : (l.map fun c => [Dat.lit (.int .i64 c.1.1), .lit (.int .i64 c.1.2), ints c.2.1, .lit (.bool c.2.2)]).getD i [] = [.lit (.int .i64 (l.getD i ch0).1.1), .lit (.int .i64 (l.getD i ch0).1.2), ints (l.getD i ch0).2.1, .lit (.bool (l.getD i ch0).2.2)] := by
  simp [List.getD_eq_getElem?_getD, h]
theorem f58_spec (n : Nm) (past : List Int) : Spec Try.prog 58 [.agg (nm n.1 n.2), .el [ints past] 0] (litB (inCut past n.1 n.2)) := by
  refine spec_of_awp (fn := Try.f58) Try.func58 (by kernel_rfl) rfl ?_
  intro w0 C0
  simp only [Try.ntmps58, litI, litB, litS, List.length_cons, List.length_nil, Nat.reduceAdd, Nat.reduceSub, List.replicate_succ, List.replicate_zero, List.cons_append, List.nil_append]
  repeat' first
    | refine awp_seq ?_
    | refine awp_block ?_
    | refine awp_skip ?_
    | (refine reg _ (by (simp only [List.map_cons, List.map_nil]; rfl)) rfl ?_; intro K hK)
    | (refine awp_cond _ (by rfl) ?_ ?_ <;> (intro hb; first | (cases hb; done) | (have ht : true = true := hb; clear ht hb) | (have ht : false = false := hb; clear ht hb) | (simp only [hb]) | skip))
    | (refine awp_exit ?_; simp only [thenA, blockA, reduceIte, RetQ, Nat.reduceEqDiff])
    | (refine awp_ret ?_; simp only [thenA, blockA, RetQ])
    | (refine ev_nil (hK _ ?_); clear hK K)
    | refine ev_call0 _ _ (by (simp only [go_sem]; rfl)) (by first | exact f49_spec ..) (by (simp only [go_sem])) _ (by (simp only [go_sem]; rfl)) ?_
    | refine ev_callC _ _ _ _ (by (simp only [go_sem]; rfl)) (by (simp only [go_sem]; rfl)) (by first | exact f49_spec ..) (by (simp only [go_sem])) _ (by (simp only [go_sem]; rfl)) ?_
    | refine ev_step0 _ _ (by (simp only [go_sem]; rfl)) (by (first | trivial | decide | (simp only [inB, sliceOk, appendOk, rowsOk]; omega) | (simp [inB, sliceOk, appendOk, rowsOk]; omega))) _ (by (simp only [go_sem]; rfl)) ?_
    | (refine ev_step _ (by (simp only [go_sem]; rfl)) (by (first | trivial | decide | (simp only [inB, sliceOk, appendOk, rowsOk]; omega) | (simp [inB, sliceOk, appendOk, rowsOk]; omega))) _ (fun g u => by (simp only [go_sem]; rfl)) ?_; intro g u; (try clear u); (try clear g))
    | fail
  all_goals (refine resR_one T_ok rfl _ (by (simp only [go_sem, resA]; rfl)) (by first | trivial | (simp only [go_sem, resA])) (by first | trivial | (simp only [go_sem])) ?_; simp only [go_sem])
  exact LeA.refl _
def withinC (c : List Int) (l : List Ch) : List Ch := l.filter fun x => inCut c x.1.1 x.1.2
theorem withinC_len (c : List Int) (l : List Ch) : (withinC c l).length ≤ l.length := List.length_filter_le _ _
theorem f60_spec (l : List Ch) (c : List Int) (hb0 : l.length ≤ 16777216) : Spec Try.prog 60 [.d (chs l), .d (ints c)] (.d (chs (withinC c l))) := by
  refine spec_of_awp (fn := Try.f60) Try.func60 (by kernel_rfl) rfl ?_
  intro w0 C0
  simp only [Try.ntmps60, litI, litB, litS, List.length_cons, List.length_nil, Nat.reduceAdd, Nat.reduceSub, List.replicate_succ, List.replicate_zero, List.cons_append, List.nil_append]
  repeat' first
    | refine awp_seq ?_
    | refine awp_block ?_
    | refine awp_skip ?_
    | (refine reg _ (by (simp only [List.map_cons, List.map_nil]; rfl)) rfl ?_; intro K hK)
    | (refine awp_cond _ (by rfl) ?_ ?_ <;> (intro hb; first | (cases hb; done) | (have ht : true = true := hb; clear ht hb) | (have ht : false = false := hb; clear ht hb) | (simp only [hb]) | skip))
    | (refine awp_exit ?_; simp only [thenA, blockA, reduceIte, RetQ, Nat.reduceEqDiff])
    | (refine awp_ret ?_; simp only [thenA, blockA, RetQ])
    | (refine ev_nil (hK _ ?_); clear hK K)
    | refine ev_step0 _ _ (by (simp only [go_sem]; rfl)) (by (first | trivial | decide | (simp only [inB, sliceOk, appendOk, rowsOk]; omega) | (simp [inB, sliceOk, appendOk, rowsOk]; omega))) _ (by (simp only [go_sem]; rfl)) ?_
    | (refine ev_step _ (by (simp only [go_sem]; rfl)) (by (first | trivial | decide | (simp only [inB, sliceOk, appendOk, rowsOk]; omega) | (simp [inB, sliceOk, appendOk, rowsOk]; omega))) _ (fun g u => by (simp only [go_sem]; rfl)) ?_; intro g u; (try clear u); (try clear g))
    | fail
  refine awp_loopI (fun i : Nat × Value => i.1 ≤ l.length) (fun i => l.length - i.1) (fun i => ⟨[.d (chs l), .d (ints c), .any, .any, .d (.lit (.slice none 0 0)), .own 7 i.2, litI .i64 i.1, .any, .any, .any, .any, .any, .any, .any, .any, .any, .any, .any, .any, .any, .any, .any, .any, .any, .any, .any, .any, .any, .any], [.no, .no, .no, .no, .no, .no, .no, .row i.2 28 4 ((withinC c (l.take i.1)).map fun c => [.lit (.int .i64 c.1.1), .lit (.int .i64 c.1.2), ints c.2.1, .lit (.bool c.2.2)]), .no, .no, .no, .no, .no, .no, .no, .no, .no, .no, .no, .no, .no, .no, .no, .no, .no, .no, .no, .no, .no]⟩) (0, u) (by simp) ?_ ?_
  · refine Wk.mk ?_ ?_
    all_goals (repeat' first | exact trivial | exact LeA.refl _ | exact LeA.any _ | exact LeO.refl _ | exact LeO.no _ | exact LeA.nil _ | (refine LeA.i ?_; (first | rfl | (push_cast; rfl) | (rw [wrap_id (by omega)]; push_cast; omega) | (simp [wrap_id]; omega))) | refine ⟨?_, ?_⟩)
  rintro ⟨i, v⟩ hi
  simp only [litI, litB] at hi ⊢
  by_cases hlt : i < l.length
  rotate_left
  have hdec : decide ((i : Int) < (l.length : Int)) = false := by simp; omega
  · repeat' first
      | refine awp_seq ?_
      | refine awp_block ?_
      | refine awp_skip ?_
      | (refine reg _ (by (simp only [List.map_cons, List.map_nil]; rfl)) rfl ?_; intro K hK)
      | (refine awp_cond _ (by rfl) ?_ ?_ <;> (intro hb; first | (cases hb; done) | (have ht : true = true := hb; clear ht hb) | (have ht : false = false := hb; clear ht hb) | (simp only [hb]) | skip))
      | (refine awp_exit ?_; simp only [thenA, blockA, reduceIte, RetQ, Nat.reduceEqDiff])
      | (refine awp_ret ?_; simp only [thenA, blockA, RetQ])
      | (refine ev_nil (hK _ ?_); clear hK K)
      | refine ev_step0 _ _ (by (simp only [go_sem, hdec]; rfl)) (by (first | trivial | decide | (simp only [inB, sliceOk, appendOk, rowsOk]; omega) | (simp [inB, sliceOk, appendOk, rowsOk]; omega))) _ (by (simp only [go_sem, hdec]; rfl)) ?_
      | (refine ev_step _ (by (simp only [go_sem, hdec]; rfl)) (by (first | trivial | decide | (simp only [inB, sliceOk, appendOk, rowsOk]; omega) | (simp [inB, sliceOk, appendOk, rowsOk]; omega))) _ (fun g u => by (simp only [go_sem, hdec]; rfl)) ?_; intro g u; (try clear u); (try clear g))
      | fail
    all_goals (refine resR_one T_ok rfl _ (by (simp only [go_sem, resA]; rfl)) (by first | trivial | (simp only [go_sem, resA])) (by first | trivial | (simp only [go_sem])) ?_; simp only [go_sem])
    refine LeA.s ?_
    rw [List.take_of_length_le (by omega)]
  have hdec : decide ((i : Int) < (l.length : Int)) = true := by simp; omega
  have hx := chs_at l hlt
  have hab1 : l.take (i + 1) = l.take i ++ [l.getD i ch0] := by rw [List.take_succ_eq_append_getElem hlt]; simp [List.getD_eq_getElem?_getD, hlt]
  have hk := withinC_len c (l.take i)
  rw [List.length_take] at hk
  have hk1 : ∀ x : Ch, inCut c x.1.1 x.1.2 = true → withinC c (l.take i ++ [x]) = withinC c (l.take i) ++ [x] := fun x h => by simp [withinC, h]
  have hk2 : ∀ x : Ch, inCut c x.1.1 x.1.2 = false → withinC c (l.take i ++ [x]) = withinC c (l.take i) := fun x h => by simp [withinC, h]
  generalize l.getD i ch0 = x at *
  generalize hK : withinC c (l.take i) = kl at *
  repeat' first
    | refine awp_seq ?_
    | refine awp_block ?_
    | refine awp_skip ?_
    | (refine reg _ (by (simp only [List.map_cons, List.map_nil]; rfl)) rfl ?_; intro K hK)
    | (refine awp_cond _ (by rfl) ?_ ?_ <;> (intro hb; first | (cases hb; done) | (have ht : true = true := hb; clear ht hb) | (have ht : false = false := hb; clear ht hb) | (simp only [hb]) | skip))
    | (refine awp_exit ?_; simp only [thenA, blockA, reduceIte, RetQ, Nat.reduceEqDiff])
    | (refine awp_ret ?_; simp only [thenA, blockA, RetQ])
    | (refine ev_nil (hK _ ?_); clear hK K)
    | refine ev_call0 _ _ (by (simp only [go_sem, hdec, hx]; rfl)) (by first | exact f33_spec ..) (by (simp only [go_sem, hdec, hx])) _ (by (simp only [go_sem, hdec, hx]; rfl)) ?_
    | refine ev_callC _ _ _ _ (by (simp only [go_sem, hdec, hx]; rfl)) (by (simp only [go_sem, hdec, hx]; rfl)) (by first | exact f33_spec ..) (by (simp only [go_sem, hdec, hx])) _ (by (simp only [go_sem, hdec, hx]; rfl)) ?_
    | refine ev_step0 _ _ (by (simp only [go_sem, hdec, hx]; rfl)) (by (first | trivial | decide | (simp only [inB, sliceOk, appendOk, rowsOk]; omega) | (simp [inB, sliceOk, appendOk, rowsOk]; omega))) _ (by (simp only [go_sem, hdec, hx]; rfl)) ?_
    | (refine ev_step _ (by (simp only [go_sem, hdec, hx]; rfl)) (by (first | trivial | decide | (simp only [inB, sliceOk, appendOk, rowsOk]; omega) | (simp [inB, sliceOk, appendOk, rowsOk]; omega))) _ (fun g u => by (simp only [go_sem, hdec, hx]; rfl)) ?_; intro g u; (try clear u); (try clear g))
    | fail
  · have h1 := hk1 x (by simpa using hb)
    refine Exists.intro (i + 1, u) ⟨by simp; omega, by simp; omega, ?_⟩
    simp only [hab1, h1, List.map_append, List.map_cons, List.map_nil]
    refine Wk.mk ?_ ?_
    all_goals (repeat' first | exact trivial | exact LeA.refl _ | exact LeA.any _ | exact LeO.refl _ | exact LeO.no _ | exact LeA.nil _ | (refine LeA.i ?_; (first | rfl | (push_cast; rfl) | (rw [wrap_id (by omega)]; push_cast; omega) | (simp [wrap_id]; omega))) | refine ⟨?_, ?_⟩)
  · have h1 := hk2 x (by simpa using hb)
    refine Exists.intro (i + 1, v) ⟨by simp; omega, by simp; omega, ?_⟩
    simp only [hab1, h1]
    refine Wk.mk ?_ ?_
    all_goals (repeat' first | exact trivial | exact LeA.refl _ | exact LeA.any _ | exact LeO.refl _ | exact LeO.no _ | exact LeA.nil _ | (refine LeA.i ?_; (first | rfl | (push_cast; rfl) | (rw [wrap_id (by omega)]; push_cast; omega) | (simp [wrap_id]; omega))) | refine ⟨?_, ?_⟩)
end
section
set_option linter.unusedVariables false
set_option linter.unusedSimpArgs false
open Go.RowKit
attribute [local irreducible] AWp evOps evD
/-- Tags, a change, replicas. -/
structure Od where
  tags : List Nm
  c : Ch
  ta : List Nm
  sa : List Int
  tb : List Nm
  sb : List Int
abbrev odA (z : Od) : List AV := [.d (nms z.tags), litI .i64 z.c.1.1, litI .i64 z.c.1.2, .d (ints z.c.2.1), litB z.c.2.2, .d (nms z.ta), .d (ints z.sa), .d (nms z.tb), .d (ints z.sb)]
def smallO (z : Od) : Bool := decide (z.tags.length ≤ 60) && decide (z.c.2.1.length ≤ 20) && decide (z.ta.length ≤ 60) && decide (z.tb.length ≤ 60) && decide (z.sa.length ≤ 20) && decide (z.sb.length ≤ 20)
set_option maxHeartbeats 4000000 in
theorem f10_spec (z : Od) : Spec Try.prog 10 [.agg (odA z)] (litB (smallO z)) := by
  refine spec_of_awp (fn := Try.f10) Try.func10 (by kernel_rfl) rfl ?_
  intro w0 C0
  simp only [Try.ntmps10, litI, litB, litS, List.length_cons, List.length_nil, Nat.reduceAdd, Nat.reduceSub, List.replicate_succ, List.replicate_zero, List.cons_append, List.nil_append]
  repeat' first
    | refine awp_seq ?_
    | refine awp_block ?_
    | refine awp_skip ?_
    | (refine reg _ (by (simp only [List.map_cons, List.map_nil]; rfl)) rfl ?_; intro K hK)
    | (refine awp_cond _ (by rfl) ?_ ?_ <;> (intro hb; first | (cases hb; done) | (have ht : true = true := hb; clear ht hb) | (have ht : false = false := hb; clear ht hb) | (simp only [hb]) | skip))
    | (refine awp_exit ?_; simp only [thenA, blockA, reduceIte, RetQ, Nat.reduceEqDiff])
    | (refine awp_ret ?_; simp only [thenA, blockA, RetQ])
    | (refine ev_nil (hK _ ?_); clear hK K)
    | refine ev_guardU _ (by (simp only [go_sem]; rfl)) (by (simp only [go_sem]; rfl)) _ (by (simp only [go_sem]; rfl)) ?_
    | (refine ev_guardT _ _ (by (simp only [go_sem]; rfl)) (by (simp only [go_sem]; rfl)) ?_ ?_ <;> (intro hb; first | (cases hb; done) | (have ht : true = true := hb; clear ht hb) | (have ht : false = false := hb; clear ht hb) | (simp only [hb]) | skip))
    | (refine ev_guardF _ _ (by (simp only [go_sem]; rfl)) (by (simp only [go_sem]; rfl)) ?_ ?_ <;> (intro hb; first | (cases hb; done) | (have ht : true = true := hb; clear ht hb) | (have ht : false = false := hb; clear ht hb) | (simp only [hb]) | skip))
    | refine ev_step0 _ _ (by (simp only [go_sem]; rfl)) (by (first | trivial | decide | (simp only [inB, sliceOk, appendOk, rowsOk]; omega) | (simp [inB, sliceOk, appendOk, rowsOk]; omega))) _ (by (simp only [go_sem]; rfl)) ?_
    | (refine ev_step _ (by (simp only [go_sem]; rfl)) (by (first | trivial | decide | (simp only [inB, sliceOk, appendOk, rowsOk]; omega) | (simp [inB, sliceOk, appendOk, rowsOk]; omega))) _ (fun g u => by (simp only [go_sem]; rfl)) ?_; intro g u; (try clear u); (try clear g))
    | fail
  all_goals (refine resR_one T_ok rfl _ (by (simp only [go_sem, resA]; rfl)) (by first | trivial | (simp only [go_sem, resA])) (by first | trivial | (simp only [go_sem])) ?_; simp only [go_sem])
  all_goals (refine LeA.b ?_; simp_all [smallO]; try (first | omega | grind))
end
end Go.Proofs.Ytalbfikfbejnfaa.A
