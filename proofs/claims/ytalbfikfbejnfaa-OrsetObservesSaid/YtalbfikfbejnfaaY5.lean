/- An order of changes that bytes say: the walk. The law's examples. The law OrsetObserves: its walk. Data of the arguments' types. The law OrsetObserves. -/
import Derived.Test.YtalbfikfbejnfaaY4
import Derived.Test.YtalbfikfbejnfaaE4
import Derived.Test.YtalbfikfbejnfaaR2
namespace Go.Proofs.Ytalbfikfbejnfaa.A
attribute [local go_sem] Nat.reduceAdd Nat.reduceSub Nat.reduceMul Nat.reduceLT Nat.reduceLeDiff Nat.reduceEqDiff Nat.reduceBEq reduceIte reduceCtorEq e_step_none e_slotU e_slotB e_move e_assign e_pick e_unOp e_binOp e_alloc e_box e_build e_buildSlice e_load e_store e_fieldAddr e_field e_indexAddr e_index e_slice e_makeSlice e_makeFunc e_convert e_extract e_nilCheck e_len e_append e_max e_min e_call e_callV e_clo e_ev_tmp e_ev_int e_ev_bool e_ev_string e_ev_slice e_ev_nilFunc e_ev_nilIface e_ev_pointer e_ev_agg e_ev_func e_pickT e_pickF e_not e_neg e_add e_sub e_mul e_quo e_rem e_eql e_neq e_lss e_leq e_gtr e_geq e_beq e_bne e_sadd e_seql e_sneq e_b2_d e_b2_nil e_b2_nnil e_b2_agg e_lits_nil e_lits_cons e_litC e_eqR e_eqO_e e_eqO_n e_eqV4 e_eqV3 e_eqV2 e_eqV1 e_eqFs_nil e_eqFs_cons e_and2 e_eq1 e_eqL_i e_eqL_s e_eqL_b e_allocR e_boxR e_box_agg e_box_d e_box_own e_box_clo e_one_nil e_one_d e_one_own e_one_clo e_one_ptr e_cells_agg e_cells_d e_cells_own e_cells_clo e_cells_ptr e_ob_own e_ob_ptr e_ob_elo e_ob_d e_ob_el e_ob_agg e_load_box e_load_fzb e_load_el e_load_elo e_store_box e_storeB e_store_elo e_store_elo_agg e_storeE e_fa_ptr e_fa_el e_fa_elo e_faR e_fd e_fdR e_ia_d e_ia_row e_ia_fz e_ia_ptr e_ia_el e_ix_s e_ix_a e_len_s e_len_nil e_len_d e_len_row e_len_fz e_conv_i e_conv_s e_extr e_maxR e_minR e_nil_ptr e_nil_el e_nil_elo e_rows_nil e_rows_d e_rows_row e_rows_fz e_rok_nil e_rok_d e_rok_row e_rok_fz e_app_row e_appR e_app_nil e_appN e_make e_bnd_none e_bnd_some e_optmap_none e_optmap_some e_slR e_slRe e_sl_s e_sl_d e_sl_nil e_sl_row e_sl_fz e_fill_nil e_fill_cons e_fill1 e_placeS e_plS e_placeE e_buildO e_build1 e_build2 e_build3 e_bindD e_bs e_bsR e_allD_nil e_allD_cons e_allD1 e_chunk0 e_chunkS e_clP_nil e_clP_cons e_cl_d e_cl_any e_cl_el e_cl_agg e_cl_tup e_cl_clo e_cl_own e_clOwn_row e_clOwn_fz e_cl_ptr e_clPtr_box e_clBox e_clPtr_fzb e_clL_nil e_clL_cons e_ok_d e_ok_any e_ok_el e_ok_agg e_ok_tup e_ok_clo e_ok_own e_okOwn_row e_okOwn_fz e_ok_ptr e_okPtr_box e_okPtr_fzb e_okL_nil e_okL_cons e_ids_d e_ids_any e_ids_el e_ids_own e_ids_ptr e_ids_agg e_ids_tup e_ids_clo e_idsL_nil e_idsL_cons e_frz_nil e_frz_cons e_frz_row e_frz_fz e_frz_fzb e_frz_box e_frzB e_flat_lit e_flat_sl e_flat_agg e_flat_tup e_flat_any e_flat_clo e_flatL_nil e_flatL_cons e_objD e_setMany e_takeA e_zerosA e_gdL e_idsG e_idsOp e_callV' e_callF' e_o_move e_o_assign e_o_pick e_o_unOp e_o_binOp e_o_alloc e_o_box e_o_build e_o_buildSlice e_o_load e_o_store e_o_fieldAddr e_o_field e_o_indexAddr e_o_index e_o_slice0 e_o_slice1 e_o_slice2 e_o_slice3 e_o_makeSlice e_o_makeFunc e_o_convert e_o_extract e_o_nilCheck e_o_bcall e_o_vcall litI litB litS List.map_cons List.map_nil List.getD_cons_zero List.getD_cons_succ List.getD_nil List.getElem?_cons_zero List.getElem?_cons_succ List.getElem?_nil Option.getD_some Option.getD_none Option.map_some Option.map_none List.length_cons List.length_nil List.all_cons List.all_nil Bool.and_true Bool.true_and and_true true_and and_self
attribute [local go_sem] List.take_zero List.take_succ_cons List.drop_zero List.drop_succ_cons List.nil_append List.cons_append List.append_nil List.replicate_succ List.replicate_zero List.flatten_cons List.flatten_nil Nat.zero_add Nat.add_zero Nat.mul_one Nat.zero_mul Nat.one_mul Nat.mul_zero List.set_cons_zero List.set_cons_succ List.foldl_cons List.foldl_nil appendOk rowsOk inB sliceOk cutRows mtake mdrop List.length_append List.length_take List.length_drop if_true if_false or_false or_true true_or Bool.not_true Bool.not_false Bool.false_eq_true List.length_map Int.toNat_natCast Int.toNat_zero Int.toNat_one eq_self St.after St.put applyEff R0 T1 T2 T3 T4 T5 T6 T7 T8 T9 T10 T11 T12 T13 T14 T15 T16 T17 T18 T19 T20 T21 T22 T23 T24 T25 T26 T27 T28 T29 T30 T31 T32 T33 T34 T35 T36 T37 T38 T39 T40 T41 T42 T43 T44 T45 T46 T47 T48 T49 T50 T51 T52 T53 T54 T55 T56 T57 T58 T59 T60 T61 T62 T63 T64 T65 T66 T67 T68 T69 T70 T71 T72 T73 T74 T75 T76 T77 T78 T79 T80 T81 T82 T83 T84 T85 T86 T87 T88 T89 T90 T91 T92 T93 T94 T95 T96 T97 T98 T99 T100 T101 T102 T103 T105 T106 T107 T108 T109 T110 T111 T112 T113 T114 T117 T118 T119 T120 T121 T122 T123 T124 T125 T126 T127 T130 T131 T132 T133 T134 ti1 ti2 ti3 ti4 ti5 ti6 ti7 ti8 ti9 ti10 ti11 ti12 ti13 ti14 ti15 ti16 ti17 ti18 ti19 ti20 ti21 ti22 ti23 ti24 ti25 ti26 ti27 ti28 ti29 ti30 ti31 ti32 ti33 ti34 ti35 ti36 ti37 ti38 ti39 ti40 ti41 ti42 ti43 ti44 ti45 ti46 ti47 ti48 ti49 ti50 ti51 ti52 ti53 ti54 ti55 ti56 ti57 ti58 ti59 ti60 ti61 ti62 ti63 ti64 ti65 ti66 ti67 ti68 ti69 ti70 ti71 ti72 ti73 ti74 ti75 ti76 ti77 ti78 ti79 ti80 ti81 ti82 ti83 ti84 ti85 ti86 ti87 ti88 ti89 ti90 ti91 ti92 ti93 ti94 ti95 ti96 ti97 ti98 ti99 ti100 ti101 ti102 ti103 ti105 ti106 ti107 ti108 ti109 ti110 ti111 ti112 ti113 ti114 ti117 ti118 ti119 ti120 ti121 ti122 ti123 ti124 ti125 ti126 ti127 ti130 ti131 ti132 ti133 ti134
section
set_option linter.unusedVariables false
set_option linter.unusedSimpArgs false
open Go.RowKit
attribute [local irreducible] AWp evOps evD
/-- An own row is written no more: a slot that names it holds data. -/
theorem Wk.data {E : Env} {t : List AV} {o : List AObj} (j d : Nat) {v : Value} {e : TypeId} {sz : Nat} {rows : List (List Dat)} (hj : t[j]? = some (.own d v)) (hd : o[d]? = some (.row v e sz rows)) :
    Wk E ⟨t, o⟩ ⟨t.set j (.d (.sl sz rows)), o.set d (.fz v sz rows)⟩ := fun a w hs => by
  have h := hs.frz d
  have e1 : objD o d = .row v e sz rows := by rw [objD, List.getD_eq_getElem?_getD, hd]; rfl
  have hdl : d < o.length := (List.getElem?_eq_some_iff.1 hd).1
  have h' : Sat E ⟨t, o.set d (.fz v sz rows)⟩ a w := by
    have h2 := h
    rw [show A.frz (objD o d) = .fz v sz rows from by rw [e1]; rfl] at h2
    exact h2
  obtain ⟨u, hu, hh⟩ := h'.t.get j _ hj
  simp only [Has] at hh
  have ho := h'.o d (.fz v sz rows) (List.getElem?_set_self hdl)
  refine ⟨h'.fr, h'.base, h'.t.upd j hu ?_, h'.o, h'.own, h'.inj, h'.defers⟩
  rw [hh.1]
  simp only [Has]
  exact ho
set_option maxHeartbeats 8000000 in
set_option maxRecDepth 8000 in
theorem f34_spec (l : List Ch) (b : List Int) (hb : ∀ x ∈ b, 0 ≤ x ∧ x < 256) (hl : l.length ≤ 1000) (hp : l.Pairwise Bef) : Spec Try.prog 34 [.d (chs l), .d (bytesD b)] (.d (chs (causL l b))) := by
  refine spec_of_awp (fn := Try.f34) Try.func34 (by kernel_rfl) rfl ?_
  intro w0 C0
  simp only [Try.ntmps34, litI, litB, litS, List.length_cons, List.length_nil, Nat.reduceAdd, Nat.reduceSub, List.replicate_succ, List.replicate_zero, List.cons_append, List.nil_append]
  refine awp_len 1 rfl fun hbl => ?_
  simp only [List.length_map] at hbl
  repeat' first
    | refine awp_seq ?_
    | refine awp_block ?_
    | refine awp_skip ?_
    | (refine reg _ (by (simp only [List.map_cons, List.map_nil]; rfl)) rfl ?_; intro K hK)
    | (refine awp_cond _ (by rfl) ?_ ?_ <;> (intro hb; first | (cases hb; done) | (have ht : true = true := hb; clear ht hb) | (have ht : false = false := hb; clear ht hb) | (simp only [hb]) | skip))
    | (refine awp_exit ?_; simp only [thenA, blockA, reduceIte, RetQ, Nat.reduceEqDiff])
    | (refine awp_ret ?_; simp only [thenA, blockA, RetQ])
    | (refine ev_nil (hK _ ?_); clear hK K)
    | refine ev_guardU _ (by (simp only [go_sem]; rfl)) (by (simp only [go_sem]; rfl)) _ (by (simp only [go_sem]; rfl)) ?_
    | (refine ev_guardT _ _ (by (simp only [go_sem]; rfl)) (by (simp only [go_sem]; rfl)) ?_ ?_ <;> (intro hb; first | (cases hb; done) | (have ht : true = true := hb; clear ht hb) | (have ht : false = false := hb; clear ht hb) | (simp only [hb]) | skip))
    | (refine ev_guardF _ _ (by (simp only [go_sem]; rfl)) (by (simp only [go_sem]; rfl)) ?_ ?_ <;> (intro hb; first | (cases hb; done) | (have ht : true = true := hb; clear ht hb) | (have ht : false = false := hb; clear ht hb) | (simp only [hb]) | skip))
    | refine ev_step0 _ _ (by (simp only [go_sem]; rfl)) (by (first | trivial | decide | (simp only [inB, sliceOk, appendOk, rowsOk]; omega) | (simp [inB, sliceOk, appendOk, rowsOk]; omega))) _ (by (simp only [go_sem]; rfl)) ?_
    | (refine ev_step _ (by (simp only [go_sem]; rfl)) (by (first | trivial | decide | (simp only [inB, sliceOk, appendOk, rowsOk]; omega) | (simp [inB, sliceOk, appendOk, rowsOk]; omega))) _ (fun g u => by (simp only [go_sem]; rfl)) ?_; intro g u; (try clear u); (try clear g))
    | fail
  rename_i ua ub
  refine awp_loopI (fun j : Nat × List Ch × List Ch × Value => j.1 + j.2.2.1.length = l.length ∧ j.2.1.length + j.2.2.1.length = l.length ∧ j.2.2.1.Pairwise Bef ∧ j.2.1 ++ caus b j.2.2.1.length j.1 j.2.2.1 = causL l b) (fun j => j.2.2.1.length) (fun j => ⟨[.d (chs l), .d (bytesD b), .any, .any, .d (.lit (.slice none 0 0)), .own 10 j.2.2.2, .d (chs j.2.2.1), litI .i64 j.1, .any, .any, .any, .any, .any, .any, .any, .any, .any, .any, .any, .any, .any, .any, .any, .any, .any, .any, .any, .any, .any, .any, .any, .any, .any, .any, .any, .any, .any, .any, .any, .any, .any, .any, .any, .any, .any, .any, .any, .any, .any, .any, .any, .any, .any, .any, .any, .any, .any, .any, .any, .any, .any, .any, .any, .any, .any, .any, .any, .any, .any, .any, .any, .any, .any, .any], [.no, .no, .no, .no, .no, .no, .no, .no, .no, .no, .row j.2.2.2 28 4 (j.2.1.map fun c => [.lit (.int .i64 c.1.1), .lit (.int .i64 c.1.2), ints c.2.1, .lit (.bool c.2.2)]), .no, .no, .no, .no, .no, .no, .no, .no, .no, .no, .no, .no, .no, .no, .no, .no, .no, .no, .no, .no, .no, .no, .no, .no, .no, .no, .no, .no, .no, .no, .no, .no, .no, .no, .no, .no, .no, .no, .no, .no, .no, .no, .no, .no, .no, .no, .no, .no, .no, .no, .no, .no, .no, .no, .no, .no, .no, .no, .no, .no, .no, .no, .no]⟩) (0, [], l, ua) ⟨by simp, by simp, hp, rfl⟩ ?_ ?_
  · refine Wk.trans (Wk.data 6 11 rfl rfl) ?_
    simp only [List.set_cons_succ, List.set_cons_zero]
    refine Wk.mk ?_ ?_
    all_goals (repeat' first | exact trivial | exact LeA.refl _ | exact LeA.any _ | exact LeO.refl _ | exact LeO.no _ | exact LeA.nil _ | (refine LeA.i ?_; (first | rfl | (push_cast; rfl) | (rw [wrap_id (by omega)]; push_cast; omega) | (simp [wrap_id]; omega))) | refine ⟨?_, ?_⟩)
  rintro ⟨st, out, L, v⟩ ⟨hst, hol, hLp, hca⟩
  simp only [litI, litB] at hst hol hLp hca ⊢
  by_cases h0 : L.length = 0
  · have hdec : decide ((L.length : Int) > 0) = false := decide_eq_false (by omega)
    have : L = [] := List.eq_nil_of_length_eq_zero h0
    repeat' first
      | refine awp_seq ?_
      | refine awp_block ?_
      | refine awp_skip ?_
      | (refine reg _ (by (simp only [List.map_cons, List.map_nil]; rfl)) rfl ?_; intro K hK)
      | (refine awp_cond _ (by rfl) ?_ ?_ <;> (intro hb; first | (cases hb; done) | (have ht : true = true := hb; clear ht hb) | (have ht : false = false := hb; clear ht hb) | (simp only [hb]) | skip))
      | (refine awp_exit ?_; simp only [thenA, blockA, reduceIte, RetQ, Nat.reduceEqDiff])
      | (refine awp_ret ?_; simp only [thenA, blockA, RetQ])
      | (refine ev_nil (hK _ ?_); clear hK K)
      | refine ev_guardU _ (by (simp only [go_sem, hdec]; rfl)) (by (simp only [go_sem, hdec]; rfl)) _ (by (simp only [go_sem, hdec]; rfl)) ?_
      | (refine ev_guardT _ _ (by (simp only [go_sem, hdec]; rfl)) (by (simp only [go_sem, hdec]; rfl)) ?_ ?_ <;> (intro hb; first | (cases hb; done) | (have ht : true = true := hb; clear ht hb) | (have ht : false = false := hb; clear ht hb) | (simp only [hb]) | skip))
      | (refine ev_guardF _ _ (by (simp only [go_sem, hdec]; rfl)) (by (simp only [go_sem, hdec]; rfl)) ?_ ?_ <;> (intro hb; first | (cases hb; done) | (have ht : true = true := hb; clear ht hb) | (have ht : false = false := hb; clear ht hb) | (simp only [hb]) | skip))
      | refine ev_step0 _ _ (by (simp only [go_sem, hdec]; rfl)) (by (first | trivial | decide | (simp only [inB, sliceOk, appendOk, rowsOk]; omega) | (simp [inB, sliceOk, appendOk, rowsOk]; omega))) _ (by (simp only [go_sem, hdec]; rfl)) ?_
      | (refine ev_step _ (by (simp only [go_sem, hdec]; rfl)) (by (first | trivial | decide | (simp only [inB, sliceOk, appendOk, rowsOk]; omega) | (simp [inB, sliceOk, appendOk, rowsOk]; omega))) _ (fun g u => by (simp only [go_sem, hdec]; rfl)) ?_; intro g u; (try clear u); (try clear g))
      | fail
    all_goals (refine resR_one T_ok rfl _ (by (simp only [go_sem, resA]; rfl)) (by first | trivial | (simp only [go_sem, resA])) (by first | trivial | (simp only [go_sem])) ?_; simp only [go_sem])
    refine LeA.s ?_
    rw [← hca, this]
    simp [caus]
  have hdec : decide ((L.length : Int) > 0) = true := decide_eq_true (by omega)
  have hk0 := startK_lt b st (n := L.length) (by omega)
  by_cases hbz : b.length = 0
  case' pos =>
    have hd : decide ((b.length : Int) > 0) = false := decide_eq_false (by omega)
    have hk0' : startK b st L.length = 0 := by simp [startK, hbz]
    repeat' first
      | refine awp_seq ?_
      | refine awp_block ?_
      | refine awp_skip ?_
      | (refine reg _ (by (simp only [List.map_cons, List.map_nil]; rfl)) rfl ?_; intro K hK)
      | (refine awp_cond _ (by rfl) ?_ ?_ <;> (intro hb; first | (cases hb; done) | (have ht : true = true := hb; clear ht hb) | (have ht : false = false := hb; clear ht hb) | (simp only [hb]) | skip))
      | (refine awp_exit ?_; simp only [thenA, blockA, reduceIte, RetQ, Nat.reduceEqDiff])
      | (refine awp_ret ?_; simp only [thenA, blockA, RetQ])
      | (refine ev_nil (hK _ ?_); clear hK K)
      | refine ev_guardU _ (by (simp only [go_sem, hdec, hd]; rfl)) (by (simp only [go_sem, hdec, hd]; rfl)) _ (by (simp only [go_sem, hdec, hd]; rfl)) ?_
      | (refine ev_guardT _ _ (by (simp only [go_sem, hdec, hd]; rfl)) (by (simp only [go_sem, hdec, hd]; rfl)) ?_ ?_ <;> (intro hb; first | (cases hb; done) | (have ht : true = true := hb; clear ht hb) | (have ht : false = false := hb; clear ht hb) | (simp only [hb]) | skip))
      | (refine ev_guardF _ _ (by (simp only [go_sem, hdec, hd]; rfl)) (by (simp only [go_sem, hdec, hd]; rfl)) ?_ ?_ <;> (intro hb; first | (cases hb; done) | (have ht : true = true := hb; clear ht hb) | (have ht : false = false := hb; clear ht hb) | (simp only [hb]) | skip))
      | refine ev_step0 _ _ (by (simp only [go_sem, hdec, hd]; rfl)) (by (first | trivial | decide | (simp only [inB, sliceOk, appendOk, rowsOk]; omega) | (simp [inB, sliceOk, appendOk, rowsOk]; omega))) _ (by (simp only [go_sem, hdec, hd]; rfl)) ?_
      | (refine ev_step _ (by (simp only [go_sem, hdec, hd]; rfl)) (by (first | trivial | decide | (simp only [inB, sliceOk, appendOk, rowsOk]; omega) | (simp [inB, sliceOk, appendOk, rowsOk]; omega))) _ (fun g u => by (simp only [go_sem, hdec, hd]; rfl)) ?_; intro g u; (try clear u); (try clear g))
      | fail
  case' neg =>
    have hd : decide ((b.length : Int) > 0) = true := decide_eq_true (by omega)
    have hbi : st % b.length < b.length := Nat.mod_lt _ (by omega)
    have hm : (st : Int).tmod (b.length : Int) = ((st % b.length : Nat) : Int) := by rw [Int.tmod_eq_emod_of_nonneg (by omega)]; rfl
    have hy := bytes_at b hbi
    have hyr := hb _ (getD_mem' hbi 0)
    have hk0' : startK b st L.length = (b.getD (st % b.length) 0).toNat % L.length := by simp [startK, hbz]
    generalize b.getD (st % b.length) 0 = y at *
    generalize st % b.length = bi at *
    have wy : IntKind.i64.wrap y = y := wrap_id (by omega)
    have hm2 : y.tmod (L.length : Int) = ((y.toNat % L.length : Nat) : Int) := by
      have e : ((y.toNat : Nat) : Int) = y := by omega
      rw [Int.tmod_eq_emod_of_nonneg (by omega)]
      conv => lhs; rw [← e]
      rfl
    repeat' first
      | refine awp_seq ?_
      | refine awp_block ?_
      | refine awp_skip ?_
      | (refine reg _ (by (simp only [List.map_cons, List.map_nil]; rfl)) rfl ?_; intro K hK)
      | (refine awp_cond _ (by rfl) ?_ ?_ <;> (intro hb; first | (cases hb; done) | (have ht : true = true := hb; clear ht hb) | (have ht : false = false := hb; clear ht hb) | (simp only [hb]) | skip))
      | (refine awp_exit ?_; simp only [thenA, blockA, reduceIte, RetQ, Nat.reduceEqDiff])
      | (refine awp_ret ?_; simp only [thenA, blockA, RetQ])
      | (refine ev_nil (hK _ ?_); clear hK K)
      | refine ev_guardU _ (by (simp only [go_sem, hdec, hd, hm, hy, wy, hm2]; rfl)) (by (simp only [go_sem, hdec, hd, hm, hy, wy, hm2]; rfl)) _ (by (simp only [go_sem, hdec, hd, hm, hy, wy, hm2]; rfl)) ?_
      | (refine ev_guardT _ _ (by (simp only [go_sem, hdec, hd, hm, hy, wy, hm2]; rfl)) (by (simp only [go_sem, hdec, hd, hm, hy, wy, hm2]; rfl)) ?_ ?_ <;> (intro hb; first | (cases hb; done) | (have ht : true = true := hb; clear ht hb) | (have ht : false = false := hb; clear ht hb) | (simp only [hb]) | skip))
      | (refine ev_guardF _ _ (by (simp only [go_sem, hdec, hd, hm, hy, wy, hm2]; rfl)) (by (simp only [go_sem, hdec, hd, hm, hy, wy, hm2]; rfl)) ?_ ?_ <;> (intro hb; first | (cases hb; done) | (have ht : true = true := hb; clear ht hb) | (have ht : false = false := hb; clear ht hb) | (simp only [hb]) | skip))
      | refine ev_step0 _ _ (by (simp only [go_sem, hdec, hd, hm, hy, wy, hm2]; rfl)) (by (first | trivial | decide | (simp only [inB, sliceOk, appendOk, rowsOk]; omega) | (simp [inB, sliceOk, appendOk, rowsOk]; omega))) _ (by (simp only [go_sem, hdec, hd, hm, hy, wy, hm2]; rfl)) ?_
      | (refine ev_step _ (by (simp only [go_sem, hdec, hd, hm, hy, wy, hm2]; rfl)) (by (first | trivial | decide | (simp only [inB, sliceOk, appendOk, rowsOk]; omega) | (simp [inB, sliceOk, appendOk, rowsOk]; omega))) _ (fun g u => by (simp only [go_sem, hdec, hd, hm, hy, wy, hm2]; rfl)) ?_; intro g u; (try clear u); (try clear g))
      | fail
    try rw [← hk0']
  all_goals
    refine awp_loopI (fun j : Nat × Nat => j.1 < L.length ∧ j.2 ≤ L.length ∧ seek L j.1 j.2 = seek L (startK b st L.length) 0) (fun j => mu L.length j.1 j.2) (fun j => ⟨[.d (chs l), .d (bytesD b), .any, .any, .d (.lit (.slice none 0 0)), .own 10 v, .d (chs L), litI .i64 st, litI .i64 j.1, litI .i64 j.2, .any, .any, .any, .any, .any, .any, .any, .any, .any, .any, .any, .any, .any, .any, .any, .any, .any, .any, .any, .any, .any, .any, .any, .any, .any, .any, .any, .any, .any, .any, .any, .any, .any, .any, .any, .any, .any, .any, .any, .any, .any, .any, .any, .any, .any, .any, .any, .any, .any, .any, .any, .any, .any, .any, .any, .any, .any, .any, .any, .any, .any, .any, .any, .any], [.no, .no, .no, .no, .no, .no, .no, .no, .no, .no, .row v 28 4 (out.map fun c => [.lit (.int .i64 c.1.1), .lit (.int .i64 c.1.2), ints c.2.1, .lit (.bool c.2.2)]), .no, .no, .no, .no, .no, .no, .no, .no, .no, .no, .no, .no, .no, .no, .no, .no, .no, .no, .no, .no, .no, .no, .no, .no, .no, .no, .no, .no, .no, .no, .no, .no, .no, .no, .no, .no, .no, .no, .no, .no, .no, .no, .no, .no, .no, .no, .no, .no, .no, .no, .no, .no, .no, .no, .no, .no, .no, .no, .no, .no, .no, .no, .no]⟩) (startK b st L.length, 0) ⟨hk0, by omega, rfl⟩ ?_ ?_
    · simp only [hk0']
      refine Wk.mk ?_ ?_
      all_goals (repeat' first | exact trivial | exact LeA.refl _ | exact LeA.any _ | exact LeO.refl _ | exact LeO.no _ | exact LeA.nil _ | (refine LeA.i ?_; (first | rfl | (push_cast; rfl) | (rw [wrap_id (by omega)]; push_cast; omega) | (simp [wrap_id]; omega))) | refine ⟨?_, ?_⟩)
    rintro ⟨k, i⟩ ⟨hk, hi, hsk⟩
    simp only [litI, litB] at hk hi hsk ⊢
    by_cases hlt : i < L.length
    · have hdi : decide ((i : Int) < (L.length : Int)) = true := decide_eq_true (by omega)
      have w0 : IntKind.i64.wrap (-1 + 1) = 0 := rfl
      by_cases hne : i = k
      · subst hne
        have hq : ((i : Int) != (i : Int)) = false := by simp
        have hsn := seek_next hLp hk hlt (fun h => h.1 rfl)
        repeat' first
          | refine awp_seq ?_
          | refine awp_block ?_
          | refine awp_skip ?_
          | (refine reg _ (by (simp only [List.map_cons, List.map_nil]; rfl)) rfl ?_; intro K hK)
          | (refine awp_cond _ (by rfl) ?_ ?_ <;> (intro hb; first | (cases hb; done) | (have ht : true = true := hb; clear ht hb) | (have ht : false = false := hb; clear ht hb) | (simp only [hb]) | skip))
          | (refine awp_exit ?_; simp only [thenA, blockA, reduceIte, RetQ, Nat.reduceEqDiff])
          | (refine awp_ret ?_; simp only [thenA, blockA, RetQ])
          | (refine ev_nil (hK _ ?_); clear hK K)
          | refine ev_guardU _ (by (simp only [go_sem, hdi, hq, Bool.and_false, Bool.false_and, Bool.and_self, Int.reduceToNat]; rfl)) (by (simp only [go_sem, hdi, hq, Bool.and_false, Bool.false_and, Bool.and_self, Int.reduceToNat]; rfl)) _ (by (simp only [go_sem, hdi, hq, Bool.and_false, Bool.false_and, Bool.and_self, Int.reduceToNat]; rfl)) ?_
          | (refine ev_guardT _ _ (by (simp only [go_sem, hdi, hq, Bool.and_false, Bool.false_and, Bool.and_self, Int.reduceToNat]; rfl)) (by (simp only [go_sem, hdi, hq, Bool.and_false, Bool.false_and, Bool.and_self, Int.reduceToNat]; rfl)) ?_ ?_ <;> (intro hb; first | (cases hb; done) | (have ht : true = true := hb; clear ht hb) | (have ht : false = false := hb; clear ht hb) | (simp only [hb]) | skip))
          | (refine ev_guardF _ _ (by (simp only [go_sem, hdi, hq, Bool.and_false, Bool.false_and, Bool.and_self, Int.reduceToNat]; rfl)) (by (simp only [go_sem, hdi, hq, Bool.and_false, Bool.false_and, Bool.and_self, Int.reduceToNat]; rfl)) ?_ ?_ <;> (intro hb; first | (cases hb; done) | (have ht : true = true := hb; clear ht hb) | (have ht : false = false := hb; clear ht hb) | (simp only [hb]) | skip))
          | (apply regD; (case hd => (simp only [List.map_cons, List.map_nil]; rfl)); (case hok => rfl); (case' h => (intro K hK; (repeat' first
        | (apply evd_nil; refine (hK _ ?_); clear hK K)
        | (apply evd_guardU0; (case hj => (simp only [go_sem, hdi, hq, Bool.and_false, Bool.false_and, Bool.and_self, Int.reduceToNat]; try rfl)); (case hu => (simp only [go_sem, hdi, hq, Bool.and_false, Bool.false_and, Bool.and_self, Int.reduceToNat])); (case hσ => (simp only [go_sem, hdi, hq, Bool.and_false, Bool.false_and, Bool.and_self, Int.reduceToNat]; try rfl)))
        | (apply evd_skipT0; (case hj => (simp only [go_sem, hdi, hq, Bool.and_false, Bool.false_and, Bool.and_self, Int.reduceToNat]; try rfl)); (case hb => (simp only [go_sem, hdi, hq, Bool.and_false, Bool.false_and, Bool.and_self, Int.reduceToNat]; try rfl)); (case hσ => (simp only [go_sem, hdi, hq, Bool.and_false, Bool.false_and, Bool.and_self, Int.reduceToNat]; try rfl)))
        | (apply evd_skipF0; (case hj => (simp only [go_sem, hdi, hq, Bool.and_false, Bool.false_and, Bool.and_self, Int.reduceToNat]; try rfl)); (case hb => (simp only [go_sem, hdi, hq, Bool.and_false, Bool.false_and, Bool.and_self, Int.reduceToNat]; try rfl)); (case hσ => (simp only [go_sem, hdi, hq, Bool.and_false, Bool.false_and, Bool.and_self, Int.reduceToNat]; try rfl)))
        | (apply evd_guardU; (case hj => (simp only [go_sem, hdi, hq, Bool.and_false, Bool.false_and, Bool.and_self, Int.reduceToNat]; try rfl)); (case hu => (simp only [go_sem, hdi, hq, Bool.and_false, Bool.false_and, Bool.and_self, Int.reduceToNat])); (case hσ => (simp only [go_sem, hdi, hq, Bool.and_false, Bool.false_and, Bool.and_self, Int.reduceToNat]; try rfl)))
        | (apply evd_skipT; (case hj => (simp only [go_sem, hdi, hq, Bool.and_false, Bool.false_and, Bool.and_self, Int.reduceToNat]; try rfl)); (case hb => (simp only [go_sem, hdi, hq, Bool.and_false, Bool.false_and, Bool.and_self, Int.reduceToNat]; try rfl)); (case hσ => (simp only [go_sem, hdi, hq, Bool.and_false, Bool.false_and, Bool.and_self, Int.reduceToNat]; try rfl)))
        | (apply evd_skipF; (case hj => (simp only [go_sem, hdi, hq, Bool.and_false, Bool.false_and, Bool.and_self, Int.reduceToNat]; try rfl)); (case hb => (simp only [go_sem, hdi, hq, Bool.and_false, Bool.false_and, Bool.and_self, Int.reduceToNat]; try rfl)); (case hσ => (simp only [go_sem, hdi, hq, Bool.and_false, Bool.false_and, Bool.and_self, Int.reduceToNat]; try rfl)))
        | (apply evd_guardT; (case hj => (simp only [go_sem, hdi, hq, Bool.and_false, Bool.false_and, Bool.and_self, Int.reduceToNat]; try rfl)); (case hb => (simp only [go_sem, hdi, hq, Bool.and_false, Bool.false_and, Bool.and_self, Int.reduceToNat]; try rfl)); (case' h2 => (intro hb; first | (cases hb; done) | (simp only [hb]) | skip)); (case' h1 => (intro hb; first | (cases hb; done) | (simp only [hb]) | skip)))
        | (apply evd_guardF; (case hj => (simp only [go_sem, hdi, hq, Bool.and_false, Bool.false_and, Bool.and_self, Int.reduceToNat]; try rfl)); (case hb => (simp only [go_sem, hdi, hq, Bool.and_false, Bool.false_and, Bool.and_self, Int.reduceToNat]; try rfl)); (case' h2 => (intro hb; first | (cases hb; done) | (simp only [hb]) | skip)); (case' h1 => (intro hb; first | (cases hb; done) | (simp only [hb]) | skip)))
        | (apply evd_step0; (case hr => (simp only [go_sem, hdi, hq, Bool.and_false, Bool.false_and, Bool.and_self, Int.reduceToNat]; try rfl)); (case hi => (simp only [go_sem, hdi, hq, Bool.and_false, Bool.false_and, Bool.and_self, Int.reduceToNat]; try rfl)); (case hc => (first | trivial | decide | (simp only [inB, sliceOk, appendOk, rowsOk]; omega) | (simp [inB, sliceOk, appendOk, rowsOk]; omega))); (case hσ => (simp only [go_sem, hdi, hq, Bool.and_false, Bool.false_and, Bool.and_self, Int.reduceToNat]; try rfl)))
        | (apply evd_step; (case hr => (simp only [go_sem, hdi, hq, Bool.and_false, Bool.false_and, Bool.and_self, Int.reduceToNat]; try rfl)); (case hi => (simp only [go_sem, hdi, hq, Bool.and_false, Bool.false_and, Bool.and_self, Int.reduceToNat]; try rfl)); (case hc => (first | trivial | decide | (simp only [inB, sliceOk, appendOk, rowsOk]; omega) | (simp [inB, sliceOk, appendOk, rowsOk]; omega))); (case hw => (intro g u; simp only [go_sem, hdi, hq, Bool.and_false, Bool.false_and, Bool.and_self, Int.reduceToNat]; try rfl)); (case hσ => (intro g u; simp only [go_sem, hdi, hq, Bool.and_false, Bool.false_and, Bool.and_self, Int.reduceToNat]; try rfl)); (case' hk => (intro g u; (try clear u); (try clear g))))
        | fail))); (case hB => kernel_rfl))
          | refine ev_step0 _ _ (by (simp only [go_sem, hdi, hq, Bool.and_false, Bool.false_and, Bool.and_self, Int.reduceToNat]; rfl)) (by (first | trivial | decide | (simp only [inB, sliceOk, appendOk, rowsOk]; omega) | (simp [inB, sliceOk, appendOk, rowsOk]; omega))) _ (by (simp only [go_sem, hdi, hq, Bool.and_false, Bool.false_and, Bool.and_self, Int.reduceToNat]; rfl)) ?_
          | (refine ev_step _ (by (simp only [go_sem, hdi, hq, Bool.and_false, Bool.false_and, Bool.and_self, Int.reduceToNat]; rfl)) (by (first | trivial | decide | (simp only [inB, sliceOk, appendOk, rowsOk]; omega) | (simp [inB, sliceOk, appendOk, rowsOk]; omega))) _ (fun g u => by (simp only [go_sem, hdi, hq, Bool.and_false, Bool.false_and, Bool.and_self, Int.reduceToNat]; rfl)) ?_; intro g u; (try clear u); (try clear g))
          | fail
        refine Exists.intro (i, i + 1) ⟨⟨hk, by omega, by rw [← hsk]; exact hsn.symm⟩, mu_next hlt, ?_⟩
        refine Wk.mk ?_ ?_
        all_goals (repeat' first | exact trivial | exact LeA.refl _ | exact LeA.any _ | exact LeO.refl _ | exact LeO.no _ | exact LeA.nil _ | (refine LeA.i ?_; (first | rfl | (push_cast; rfl) | (rw [wrap_id (by omega)]; push_cast; omega) | (simp [wrap_id]; omega))) | refine ⟨?_, ?_⟩)
      · have hq : ((i : Int) != (k : Int)) = true := by simp; omega
        have hxk := chs_at L hk
        have hxi := chs_at L hlt
        cases hs : see L k i with
        | true =>
          have hsn := seek_jump hLp hk hlt hne hs
          have hlt' := mu_jump (see_before hLp hk hlt hne hs) hlt
          simp only [see] at hs
          generalize L.getD k ch0 = xk at *
          generalize L.getD i ch0 = xi at *
          repeat' first
            | refine awp_seq ?_
            | refine awp_block ?_
            | refine awp_skip ?_
            | (refine reg _ (by (simp only [List.map_cons, List.map_nil]; rfl)) rfl ?_; intro K hK)
            | (refine awp_cond _ (by rfl) ?_ ?_ <;> (intro hb; first | (cases hb; done) | (have ht : true = true := hb; clear ht hb) | (have ht : false = false := hb; clear ht hb) | (simp only [hb]) | skip))
            | (refine awp_exit ?_; simp only [thenA, blockA, reduceIte, RetQ, Nat.reduceEqDiff])
            | (refine awp_ret ?_; simp only [thenA, blockA, RetQ])
            | (refine ev_nil (hK _ ?_); clear hK K)
            | refine ev_guardU _ (by (simp only [go_sem, hdi, hq, hxk, hxi, hs, w0, Bool.and_false, Bool.false_and, Bool.and_self, Int.reduceToNat]; rfl)) (by (simp only [go_sem, hdi, hq, hxk, hxi, hs, w0, Bool.and_false, Bool.false_and, Bool.and_self, Int.reduceToNat]; rfl)) _ (by (simp only [go_sem, hdi, hq, hxk, hxi, hs, w0, Bool.and_false, Bool.false_and, Bool.and_self, Int.reduceToNat]; rfl)) ?_
            | (refine ev_guardT _ _ (by (simp only [go_sem, hdi, hq, hxk, hxi, hs, w0, Bool.and_false, Bool.false_and, Bool.and_self, Int.reduceToNat]; rfl)) (by (simp only [go_sem, hdi, hq, hxk, hxi, hs, w0, Bool.and_false, Bool.false_and, Bool.and_self, Int.reduceToNat]; rfl)) ?_ ?_ <;> (intro hb; first | (cases hb; done) | (have ht : true = true := hb; clear ht hb) | (have ht : false = false := hb; clear ht hb) | (simp only [hb]) | skip))
            | (refine ev_guardF _ _ (by (simp only [go_sem, hdi, hq, hxk, hxi, hs, w0, Bool.and_false, Bool.false_and, Bool.and_self, Int.reduceToNat]; rfl)) (by (simp only [go_sem, hdi, hq, hxk, hxi, hs, w0, Bool.and_false, Bool.false_and, Bool.and_self, Int.reduceToNat]; rfl)) ?_ ?_ <;> (intro hb; first | (cases hb; done) | (have ht : true = true := hb; clear ht hb) | (have ht : false = false := hb; clear ht hb) | (simp only [hb]) | skip))
            | refine ev_call0 _ _ (by (simp only [go_sem, hdi, hq, hxk, hxi, hs, w0, Bool.and_false, Bool.false_and, Bool.and_self, Int.reduceToNat]; rfl)) (by first | exact f33_spec ..) (by (simp only [go_sem, hdi, hq, hxk, hxi, hs, w0, Bool.and_false, Bool.false_and, Bool.and_self, Int.reduceToNat])) _ (by (simp only [go_sem, hdi, hq, hxk, hxi, hs, w0, Bool.and_false, Bool.false_and, Bool.and_self, Int.reduceToNat]; rfl)) ?_
            | refine ev_callC _ _ _ _ (by (simp only [go_sem, hdi, hq, hxk, hxi, hs, w0, Bool.and_false, Bool.false_and, Bool.and_self, Int.reduceToNat]; rfl)) (by (simp only [go_sem, hdi, hq, hxk, hxi, hs, w0, Bool.and_false, Bool.false_and, Bool.and_self, Int.reduceToNat]; rfl)) (by first | exact f33_spec ..) (by (simp only [go_sem, hdi, hq, hxk, hxi, hs, w0, Bool.and_false, Bool.false_and, Bool.and_self, Int.reduceToNat])) _ (by (simp only [go_sem, hdi, hq, hxk, hxi, hs, w0, Bool.and_false, Bool.false_and, Bool.and_self, Int.reduceToNat]; rfl)) ?_
            | (apply regD; (case hd => (simp only [List.map_cons, List.map_nil]; rfl)); (case hok => rfl); (case' h => (intro K hK; (repeat' first
        | (apply evd_nil; refine (hK _ ?_); clear hK K)
        | (apply evd_guardU0; (case hj => (simp only [go_sem, hdi, hq, hxk, hxi, hs, w0, Bool.and_false, Bool.false_and, Bool.and_self, Int.reduceToNat]; try rfl)); (case hu => (simp only [go_sem, hdi, hq, hxk, hxi, hs, w0, Bool.and_false, Bool.false_and, Bool.and_self, Int.reduceToNat])); (case hσ => (simp only [go_sem, hdi, hq, hxk, hxi, hs, w0, Bool.and_false, Bool.false_and, Bool.and_self, Int.reduceToNat]; try rfl)))
        | (apply evd_skipT0; (case hj => (simp only [go_sem, hdi, hq, hxk, hxi, hs, w0, Bool.and_false, Bool.false_and, Bool.and_self, Int.reduceToNat]; try rfl)); (case hb => (simp only [go_sem, hdi, hq, hxk, hxi, hs, w0, Bool.and_false, Bool.false_and, Bool.and_self, Int.reduceToNat]; try rfl)); (case hσ => (simp only [go_sem, hdi, hq, hxk, hxi, hs, w0, Bool.and_false, Bool.false_and, Bool.and_self, Int.reduceToNat]; try rfl)))
        | (apply evd_skipF0; (case hj => (simp only [go_sem, hdi, hq, hxk, hxi, hs, w0, Bool.and_false, Bool.false_and, Bool.and_self, Int.reduceToNat]; try rfl)); (case hb => (simp only [go_sem, hdi, hq, hxk, hxi, hs, w0, Bool.and_false, Bool.false_and, Bool.and_self, Int.reduceToNat]; try rfl)); (case hσ => (simp only [go_sem, hdi, hq, hxk, hxi, hs, w0, Bool.and_false, Bool.false_and, Bool.and_self, Int.reduceToNat]; try rfl)))
        | (apply evd_guardU; (case hj => (simp only [go_sem, hdi, hq, hxk, hxi, hs, w0, Bool.and_false, Bool.false_and, Bool.and_self, Int.reduceToNat]; try rfl)); (case hu => (simp only [go_sem, hdi, hq, hxk, hxi, hs, w0, Bool.and_false, Bool.false_and, Bool.and_self, Int.reduceToNat])); (case hσ => (simp only [go_sem, hdi, hq, hxk, hxi, hs, w0, Bool.and_false, Bool.false_and, Bool.and_self, Int.reduceToNat]; try rfl)))
        | (apply evd_skipT; (case hj => (simp only [go_sem, hdi, hq, hxk, hxi, hs, w0, Bool.and_false, Bool.false_and, Bool.and_self, Int.reduceToNat]; try rfl)); (case hb => (simp only [go_sem, hdi, hq, hxk, hxi, hs, w0, Bool.and_false, Bool.false_and, Bool.and_self, Int.reduceToNat]; try rfl)); (case hσ => (simp only [go_sem, hdi, hq, hxk, hxi, hs, w0, Bool.and_false, Bool.false_and, Bool.and_self, Int.reduceToNat]; try rfl)))
        | (apply evd_skipF; (case hj => (simp only [go_sem, hdi, hq, hxk, hxi, hs, w0, Bool.and_false, Bool.false_and, Bool.and_self, Int.reduceToNat]; try rfl)); (case hb => (simp only [go_sem, hdi, hq, hxk, hxi, hs, w0, Bool.and_false, Bool.false_and, Bool.and_self, Int.reduceToNat]; try rfl)); (case hσ => (simp only [go_sem, hdi, hq, hxk, hxi, hs, w0, Bool.and_false, Bool.false_and, Bool.and_self, Int.reduceToNat]; try rfl)))
        | (apply evd_guardT; (case hj => (simp only [go_sem, hdi, hq, hxk, hxi, hs, w0, Bool.and_false, Bool.false_and, Bool.and_self, Int.reduceToNat]; try rfl)); (case hb => (simp only [go_sem, hdi, hq, hxk, hxi, hs, w0, Bool.and_false, Bool.false_and, Bool.and_self, Int.reduceToNat]; try rfl)); (case' h2 => (intro hb; first | (cases hb; done) | (simp only [hb]) | skip)); (case' h1 => (intro hb; first | (cases hb; done) | (simp only [hb]) | skip)))
        | (apply evd_guardF; (case hj => (simp only [go_sem, hdi, hq, hxk, hxi, hs, w0, Bool.and_false, Bool.false_and, Bool.and_self, Int.reduceToNat]; try rfl)); (case hb => (simp only [go_sem, hdi, hq, hxk, hxi, hs, w0, Bool.and_false, Bool.false_and, Bool.and_self, Int.reduceToNat]; try rfl)); (case' h2 => (intro hb; first | (cases hb; done) | (simp only [hb]) | skip)); (case' h1 => (intro hb; first | (cases hb; done) | (simp only [hb]) | skip)))
        | (apply evd_call0; (case hi => (simp only [go_sem, hdi, hq, hxk, hxi, hs, w0, Bool.and_false, Bool.false_and, Bool.and_self, Int.reduceToNat]; try rfl)); (case hys => (simp only [go_sem, hdi, hq, hxk, hxi, hs, w0, Bool.and_false, Bool.false_and, Bool.and_self, Int.reduceToNat]; try rfl)); (case hs => first | exact f33_spec ..); (case hok => (simp only [go_sem, hdi, hq, hxk, hxi, hs, w0, Bool.and_false, Bool.false_and, Bool.and_self, Int.reduceToNat])); (case hw => (simp only [go_sem, hdi, hq, hxk, hxi, hs, w0, Bool.and_false, Bool.false_and, Bool.and_self, Int.reduceToNat]; try rfl)); (case hσ => (simp only [go_sem, hdi, hq, hxk, hxi, hs, w0, Bool.and_false, Bool.false_and, Bool.and_self, Int.reduceToNat]; try rfl)))
        | (apply evd_callC; (case hf => (simp only [go_sem, hdi, hq, hxk, hxi, hs, w0, Bool.and_false, Bool.false_and, Bool.and_self, Int.reduceToNat]; try rfl)); (case hi => (simp only [go_sem, hdi, hq, hxk, hxi, hs, w0, Bool.and_false, Bool.false_and, Bool.and_self, Int.reduceToNat]; try rfl)); (case hys => (simp only [go_sem, hdi, hq, hxk, hxi, hs, w0, Bool.and_false, Bool.false_and, Bool.and_self, Int.reduceToNat]; try rfl)); (case hs => first | exact f33_spec ..); (case hok => (simp only [go_sem, hdi, hq, hxk, hxi, hs, w0, Bool.and_false, Bool.false_and, Bool.and_self, Int.reduceToNat])); (case hw => (simp only [go_sem, hdi, hq, hxk, hxi, hs, w0, Bool.and_false, Bool.false_and, Bool.and_self, Int.reduceToNat]; try rfl)); (case hσ => (simp only [go_sem, hdi, hq, hxk, hxi, hs, w0, Bool.and_false, Bool.false_and, Bool.and_self, Int.reduceToNat]; try rfl)))
        | (apply evd_step0; (case hr => (simp only [go_sem, hdi, hq, hxk, hxi, hs, w0, Bool.and_false, Bool.false_and, Bool.and_self, Int.reduceToNat]; try rfl)); (case hi => (simp only [go_sem, hdi, hq, hxk, hxi, hs, w0, Bool.and_false, Bool.false_and, Bool.and_self, Int.reduceToNat]; try rfl)); (case hc => (first | trivial | decide | (simp only [inB, sliceOk, appendOk, rowsOk]; omega) | (simp [inB, sliceOk, appendOk, rowsOk]; omega))); (case hσ => (simp only [go_sem, hdi, hq, hxk, hxi, hs, w0, Bool.and_false, Bool.false_and, Bool.and_self, Int.reduceToNat]; try rfl)))
        | (apply evd_step; (case hr => (simp only [go_sem, hdi, hq, hxk, hxi, hs, w0, Bool.and_false, Bool.false_and, Bool.and_self, Int.reduceToNat]; try rfl)); (case hi => (simp only [go_sem, hdi, hq, hxk, hxi, hs, w0, Bool.and_false, Bool.false_and, Bool.and_self, Int.reduceToNat]; try rfl)); (case hc => (first | trivial | decide | (simp only [inB, sliceOk, appendOk, rowsOk]; omega) | (simp [inB, sliceOk, appendOk, rowsOk]; omega))); (case hw => (intro g u; simp only [go_sem, hdi, hq, hxk, hxi, hs, w0, Bool.and_false, Bool.false_and, Bool.and_self, Int.reduceToNat]; try rfl)); (case hσ => (intro g u; simp only [go_sem, hdi, hq, hxk, hxi, hs, w0, Bool.and_false, Bool.false_and, Bool.and_self, Int.reduceToNat]; try rfl)); (case' hk => (intro g u; (try clear u); (try clear g))))
        | fail))); (case hB => kernel_rfl))
            | refine ev_step0 _ _ (by (simp only [go_sem, hdi, hq, hxk, hxi, hs, w0, Bool.and_false, Bool.false_and, Bool.and_self, Int.reduceToNat]; rfl)) (by (first | trivial | decide | (simp only [inB, sliceOk, appendOk, rowsOk]; omega) | (simp [inB, sliceOk, appendOk, rowsOk]; omega))) _ (by (simp only [go_sem, hdi, hq, hxk, hxi, hs, w0, Bool.and_false, Bool.false_and, Bool.and_self, Int.reduceToNat]; rfl)) ?_
            | (refine ev_step _ (by (simp only [go_sem, hdi, hq, hxk, hxi, hs, w0, Bool.and_false, Bool.false_and, Bool.and_self, Int.reduceToNat]; rfl)) (by (first | trivial | decide | (simp only [inB, sliceOk, appendOk, rowsOk]; omega) | (simp [inB, sliceOk, appendOk, rowsOk]; omega))) _ (fun g u => by (simp only [go_sem, hdi, hq, hxk, hxi, hs, w0, Bool.and_false, Bool.false_and, Bool.and_self, Int.reduceToNat]; rfl)) ?_; intro g u; (try clear u); (try clear g))
            | fail
          refine Exists.intro (i, 0) ⟨⟨hlt, by omega, by rw [← hsk]; exact hsn.symm⟩, hlt', ?_⟩
          refine Wk.mk ?_ ?_
          all_goals (repeat' first | exact trivial | exact LeA.refl _ | exact LeA.any _ | exact LeO.refl _ | exact LeO.no _ | exact LeA.nil _ | (refine LeA.i ?_; (first | rfl | (push_cast; rfl) | (rw [wrap_id (by omega)]; push_cast; omega) | (simp [wrap_id]; omega))) | refine ⟨?_, ?_⟩)
        | false =>
          have hsn := seek_next hLp hk hlt (fun h => by rw [hs] at h; cases h.2)
          simp only [see] at hs
          generalize L.getD k ch0 = xk at *
          generalize L.getD i ch0 = xi at *
          repeat' first
            | refine awp_seq ?_
            | refine awp_block ?_
            | refine awp_skip ?_
            | (refine reg _ (by (simp only [List.map_cons, List.map_nil]; rfl)) rfl ?_; intro K hK)
            | (refine awp_cond _ (by rfl) ?_ ?_ <;> (intro hb; first | (cases hb; done) | (have ht : true = true := hb; clear ht hb) | (have ht : false = false := hb; clear ht hb) | (simp only [hb]) | skip))
            | (refine awp_exit ?_; simp only [thenA, blockA, reduceIte, RetQ, Nat.reduceEqDiff])
            | (refine awp_ret ?_; simp only [thenA, blockA, RetQ])
            | (refine ev_nil (hK _ ?_); clear hK K)
            | refine ev_guardU _ (by (simp only [go_sem, hdi, hq, hxk, hxi, hs, Bool.and_false, Bool.false_and, Bool.and_self, Int.reduceToNat]; rfl)) (by (simp only [go_sem, hdi, hq, hxk, hxi, hs, Bool.and_false, Bool.false_and, Bool.and_self, Int.reduceToNat]; rfl)) _ (by (simp only [go_sem, hdi, hq, hxk, hxi, hs, Bool.and_false, Bool.false_and, Bool.and_self, Int.reduceToNat]; rfl)) ?_
            | (refine ev_guardT _ _ (by (simp only [go_sem, hdi, hq, hxk, hxi, hs, Bool.and_false, Bool.false_and, Bool.and_self, Int.reduceToNat]; rfl)) (by (simp only [go_sem, hdi, hq, hxk, hxi, hs, Bool.and_false, Bool.false_and, Bool.and_self, Int.reduceToNat]; rfl)) ?_ ?_ <;> (intro hb; first | (cases hb; done) | (have ht : true = true := hb; clear ht hb) | (have ht : false = false := hb; clear ht hb) | (simp only [hb]) | skip))
            | (refine ev_guardF _ _ (by (simp only [go_sem, hdi, hq, hxk, hxi, hs, Bool.and_false, Bool.false_and, Bool.and_self, Int.reduceToNat]; rfl)) (by (simp only [go_sem, hdi, hq, hxk, hxi, hs, Bool.and_false, Bool.false_and, Bool.and_self, Int.reduceToNat]; rfl)) ?_ ?_ <;> (intro hb; first | (cases hb; done) | (have ht : true = true := hb; clear ht hb) | (have ht : false = false := hb; clear ht hb) | (simp only [hb]) | skip))
            | refine ev_call0 _ _ (by (simp only [go_sem, hdi, hq, hxk, hxi, hs, Bool.and_false, Bool.false_and, Bool.and_self, Int.reduceToNat]; rfl)) (by first | exact f33_spec ..) (by (simp only [go_sem, hdi, hq, hxk, hxi, hs, Bool.and_false, Bool.false_and, Bool.and_self, Int.reduceToNat])) _ (by (simp only [go_sem, hdi, hq, hxk, hxi, hs, Bool.and_false, Bool.false_and, Bool.and_self, Int.reduceToNat]; rfl)) ?_
            | refine ev_callC _ _ _ _ (by (simp only [go_sem, hdi, hq, hxk, hxi, hs, Bool.and_false, Bool.false_and, Bool.and_self, Int.reduceToNat]; rfl)) (by (simp only [go_sem, hdi, hq, hxk, hxi, hs, Bool.and_false, Bool.false_and, Bool.and_self, Int.reduceToNat]; rfl)) (by first | exact f33_spec ..) (by (simp only [go_sem, hdi, hq, hxk, hxi, hs, Bool.and_false, Bool.false_and, Bool.and_self, Int.reduceToNat])) _ (by (simp only [go_sem, hdi, hq, hxk, hxi, hs, Bool.and_false, Bool.false_and, Bool.and_self, Int.reduceToNat]; rfl)) ?_
            | (apply regD; (case hd => (simp only [List.map_cons, List.map_nil]; rfl)); (case hok => rfl); (case' h => (intro K hK; (repeat' first
        | (apply evd_nil; refine (hK _ ?_); clear hK K)
        | (apply evd_guardU0; (case hj => (simp only [go_sem, hdi, hq, hxk, hxi, hs, Bool.and_false, Bool.false_and, Bool.and_self, Int.reduceToNat]; try rfl)); (case hu => (simp only [go_sem, hdi, hq, hxk, hxi, hs, Bool.and_false, Bool.false_and, Bool.and_self, Int.reduceToNat])); (case hσ => (simp only [go_sem, hdi, hq, hxk, hxi, hs, Bool.and_false, Bool.false_and, Bool.and_self, Int.reduceToNat]; try rfl)))
        | (apply evd_skipT0; (case hj => (simp only [go_sem, hdi, hq, hxk, hxi, hs, Bool.and_false, Bool.false_and, Bool.and_self, Int.reduceToNat]; try rfl)); (case hb => (simp only [go_sem, hdi, hq, hxk, hxi, hs, Bool.and_false, Bool.false_and, Bool.and_self, Int.reduceToNat]; try rfl)); (case hσ => (simp only [go_sem, hdi, hq, hxk, hxi, hs, Bool.and_false, Bool.false_and, Bool.and_self, Int.reduceToNat]; try rfl)))
        | (apply evd_skipF0; (case hj => (simp only [go_sem, hdi, hq, hxk, hxi, hs, Bool.and_false, Bool.false_and, Bool.and_self, Int.reduceToNat]; try rfl)); (case hb => (simp only [go_sem, hdi, hq, hxk, hxi, hs, Bool.and_false, Bool.false_and, Bool.and_self, Int.reduceToNat]; try rfl)); (case hσ => (simp only [go_sem, hdi, hq, hxk, hxi, hs, Bool.and_false, Bool.false_and, Bool.and_self, Int.reduceToNat]; try rfl)))
        | (apply evd_guardU; (case hj => (simp only [go_sem, hdi, hq, hxk, hxi, hs, Bool.and_false, Bool.false_and, Bool.and_self, Int.reduceToNat]; try rfl)); (case hu => (simp only [go_sem, hdi, hq, hxk, hxi, hs, Bool.and_false, Bool.false_and, Bool.and_self, Int.reduceToNat])); (case hσ => (simp only [go_sem, hdi, hq, hxk, hxi, hs, Bool.and_false, Bool.false_and, Bool.and_self, Int.reduceToNat]; try rfl)))
        | (apply evd_skipT; (case hj => (simp only [go_sem, hdi, hq, hxk, hxi, hs, Bool.and_false, Bool.false_and, Bool.and_self, Int.reduceToNat]; try rfl)); (case hb => (simp only [go_sem, hdi, hq, hxk, hxi, hs, Bool.and_false, Bool.false_and, Bool.and_self, Int.reduceToNat]; try rfl)); (case hσ => (simp only [go_sem, hdi, hq, hxk, hxi, hs, Bool.and_false, Bool.false_and, Bool.and_self, Int.reduceToNat]; try rfl)))
        | (apply evd_skipF; (case hj => (simp only [go_sem, hdi, hq, hxk, hxi, hs, Bool.and_false, Bool.false_and, Bool.and_self, Int.reduceToNat]; try rfl)); (case hb => (simp only [go_sem, hdi, hq, hxk, hxi, hs, Bool.and_false, Bool.false_and, Bool.and_self, Int.reduceToNat]; try rfl)); (case hσ => (simp only [go_sem, hdi, hq, hxk, hxi, hs, Bool.and_false, Bool.false_and, Bool.and_self, Int.reduceToNat]; try rfl)))
        | (apply evd_guardT; (case hj => (simp only [go_sem, hdi, hq, hxk, hxi, hs, Bool.and_false, Bool.false_and, Bool.and_self, Int.reduceToNat]; try rfl)); (case hb => (simp only [go_sem, hdi, hq, hxk, hxi, hs, Bool.and_false, Bool.false_and, Bool.and_self, Int.reduceToNat]; try rfl)); (case' h2 => (intro hb; first | (cases hb; done) | (simp only [hb]) | skip)); (case' h1 => (intro hb; first | (cases hb; done) | (simp only [hb]) | skip)))
        | (apply evd_guardF; (case hj => (simp only [go_sem, hdi, hq, hxk, hxi, hs, Bool.and_false, Bool.false_and, Bool.and_self, Int.reduceToNat]; try rfl)); (case hb => (simp only [go_sem, hdi, hq, hxk, hxi, hs, Bool.and_false, Bool.false_and, Bool.and_self, Int.reduceToNat]; try rfl)); (case' h2 => (intro hb; first | (cases hb; done) | (simp only [hb]) | skip)); (case' h1 => (intro hb; first | (cases hb; done) | (simp only [hb]) | skip)))
        | (apply evd_call0; (case hi => (simp only [go_sem, hdi, hq, hxk, hxi, hs, Bool.and_false, Bool.false_and, Bool.and_self, Int.reduceToNat]; try rfl)); (case hys => (simp only [go_sem, hdi, hq, hxk, hxi, hs, Bool.and_false, Bool.false_and, Bool.and_self, Int.reduceToNat]; try rfl)); (case hs => first | exact f33_spec ..); (case hok => (simp only [go_sem, hdi, hq, hxk, hxi, hs, Bool.and_false, Bool.false_and, Bool.and_self, Int.reduceToNat])); (case hw => (simp only [go_sem, hdi, hq, hxk, hxi, hs, Bool.and_false, Bool.false_and, Bool.and_self, Int.reduceToNat]; try rfl)); (case hσ => (simp only [go_sem, hdi, hq, hxk, hxi, hs, Bool.and_false, Bool.false_and, Bool.and_self, Int.reduceToNat]; try rfl)))
        | (apply evd_callC; (case hf => (simp only [go_sem, hdi, hq, hxk, hxi, hs, Bool.and_false, Bool.false_and, Bool.and_self, Int.reduceToNat]; try rfl)); (case hi => (simp only [go_sem, hdi, hq, hxk, hxi, hs, Bool.and_false, Bool.false_and, Bool.and_self, Int.reduceToNat]; try rfl)); (case hys => (simp only [go_sem, hdi, hq, hxk, hxi, hs, Bool.and_false, Bool.false_and, Bool.and_self, Int.reduceToNat]; try rfl)); (case hs => first | exact f33_spec ..); (case hok => (simp only [go_sem, hdi, hq, hxk, hxi, hs, Bool.and_false, Bool.false_and, Bool.and_self, Int.reduceToNat])); (case hw => (simp only [go_sem, hdi, hq, hxk, hxi, hs, Bool.and_false, Bool.false_and, Bool.and_self, Int.reduceToNat]; try rfl)); (case hσ => (simp only [go_sem, hdi, hq, hxk, hxi, hs, Bool.and_false, Bool.false_and, Bool.and_self, Int.reduceToNat]; try rfl)))
        | (apply evd_step0; (case hr => (simp only [go_sem, hdi, hq, hxk, hxi, hs, Bool.and_false, Bool.false_and, Bool.and_self, Int.reduceToNat]; try rfl)); (case hi => (simp only [go_sem, hdi, hq, hxk, hxi, hs, Bool.and_false, Bool.false_and, Bool.and_self, Int.reduceToNat]; try rfl)); (case hc => (first | trivial | decide | (simp only [inB, sliceOk, appendOk, rowsOk]; omega) | (simp [inB, sliceOk, appendOk, rowsOk]; omega))); (case hσ => (simp only [go_sem, hdi, hq, hxk, hxi, hs, Bool.and_false, Bool.false_and, Bool.and_self, Int.reduceToNat]; try rfl)))
        | (apply evd_step; (case hr => (simp only [go_sem, hdi, hq, hxk, hxi, hs, Bool.and_false, Bool.false_and, Bool.and_self, Int.reduceToNat]; try rfl)); (case hi => (simp only [go_sem, hdi, hq, hxk, hxi, hs, Bool.and_false, Bool.false_and, Bool.and_self, Int.reduceToNat]; try rfl)); (case hc => (first | trivial | decide | (simp only [inB, sliceOk, appendOk, rowsOk]; omega) | (simp [inB, sliceOk, appendOk, rowsOk]; omega))); (case hw => (intro g u; simp only [go_sem, hdi, hq, hxk, hxi, hs, Bool.and_false, Bool.false_and, Bool.and_self, Int.reduceToNat]; try rfl)); (case hσ => (intro g u; simp only [go_sem, hdi, hq, hxk, hxi, hs, Bool.and_false, Bool.false_and, Bool.and_self, Int.reduceToNat]; try rfl)); (case' hk => (intro g u; (try clear u); (try clear g))))
        | fail))); (case hB => kernel_rfl))
            | refine ev_step0 _ _ (by (simp only [go_sem, hdi, hq, hxk, hxi, hs, Bool.and_false, Bool.false_and, Bool.and_self, Int.reduceToNat]; rfl)) (by (first | trivial | decide | (simp only [inB, sliceOk, appendOk, rowsOk]; omega) | (simp [inB, sliceOk, appendOk, rowsOk]; omega))) _ (by (simp only [go_sem, hdi, hq, hxk, hxi, hs, Bool.and_false, Bool.false_and, Bool.and_self, Int.reduceToNat]; rfl)) ?_
            | (refine ev_step _ (by (simp only [go_sem, hdi, hq, hxk, hxi, hs, Bool.and_false, Bool.false_and, Bool.and_self, Int.reduceToNat]; rfl)) (by (first | trivial | decide | (simp only [inB, sliceOk, appendOk, rowsOk]; omega) | (simp [inB, sliceOk, appendOk, rowsOk]; omega))) _ (fun g u => by (simp only [go_sem, hdi, hq, hxk, hxi, hs, Bool.and_false, Bool.false_and, Bool.and_self, Int.reduceToNat]; rfl)) ?_; intro g u; (try clear u); (try clear g))
            | fail
          refine Exists.intro (k, i + 1) ⟨⟨hk, by omega, by rw [← hsk]; exact hsn.symm⟩, mu_next hlt, ?_⟩
          refine Wk.mk ?_ ?_
          all_goals (repeat' first | exact trivial | exact LeA.refl _ | exact LeA.any _ | exact LeO.refl _ | exact LeO.no _ | exact LeA.nil _ | (refine LeA.i ?_; (first | rfl | (push_cast; rfl) | (rw [wrap_id (by omega)]; push_cast; omega) | (simp [wrap_id]; omega))) | refine ⟨?_, ?_⟩)
    have hdi : decide ((i : Int) < (L.length : Int)) = false := decide_eq_false (by omega)
    rw [seek_done hlt] at hsk
    have hx := chs_at L hk
    have hcl := cut_len hk
    have htl : L.take L.length = L := List.take_length
    have hk1 : IntKind.i64.wrap ((k : Int) + 1) = ((k + 1 : Nat) : Int) := by rw [wrap_id (by omega)]; push_cast; rfl
    have hcs : out ++ [L.getD k ch0] ++ caus b (L.take k ++ L.drop (k + 1)).length (st + 1) (L.take k ++ L.drop (k + 1)) = causL l b := by
      rw [← hca]
      conv => rhs; rw [show L.length = (L.take k ++ L.drop (k + 1)).length + 1 from hcl.symm, caus, if_neg h0, ← hsk]
      simp
    have hp' := hLp.sublist (cut_sub k)
    generalize L.getD k ch0 = x at *
    repeat' first
      | refine awp_seq ?_
      | refine awp_block ?_
      | refine awp_skip ?_
      | (refine reg _ (by (simp only [List.map_cons, List.map_nil]; rfl)) rfl ?_; intro K hK)
      | (refine awp_cond _ (by rfl) ?_ ?_ <;> (intro hb; first | (cases hb; done) | (have ht : true = true := hb; clear ht hb) | (have ht : false = false := hb; clear ht hb) | (simp only [hb]) | skip))
      | (refine awp_exit ?_; simp only [thenA, blockA, reduceIte, RetQ, Nat.reduceEqDiff])
      | (refine awp_ret ?_; simp only [thenA, blockA, RetQ])
      | (refine ev_nil (hK _ ?_); clear hK K)
      | refine ev_guardU _ (by (simp only [go_sem, hdi, hx, hk1, htl, Bool.and_false, Bool.false_and, Bool.and_self, Int.reduceToNat]; rfl)) (by (simp only [go_sem, hdi, hx, hk1, htl, Bool.and_false, Bool.false_and, Bool.and_self, Int.reduceToNat]; rfl)) _ (by (simp only [go_sem, hdi, hx, hk1, htl, Bool.and_false, Bool.false_and, Bool.and_self, Int.reduceToNat]; rfl)) ?_
      | (refine ev_guardT _ _ (by (simp only [go_sem, hdi, hx, hk1, htl, Bool.and_false, Bool.false_and, Bool.and_self, Int.reduceToNat]; rfl)) (by (simp only [go_sem, hdi, hx, hk1, htl, Bool.and_false, Bool.false_and, Bool.and_self, Int.reduceToNat]; rfl)) ?_ ?_ <;> (intro hb; first | (cases hb; done) | (have ht : true = true := hb; clear ht hb) | (have ht : false = false := hb; clear ht hb) | (simp only [hb]) | skip))
      | (refine ev_guardF _ _ (by (simp only [go_sem, hdi, hx, hk1, htl, Bool.and_false, Bool.false_and, Bool.and_self, Int.reduceToNat]; rfl)) (by (simp only [go_sem, hdi, hx, hk1, htl, Bool.and_false, Bool.false_and, Bool.and_self, Int.reduceToNat]; rfl)) ?_ ?_ <;> (intro hb; first | (cases hb; done) | (have ht : true = true := hb; clear ht hb) | (have ht : false = false := hb; clear ht hb) | (simp only [hb]) | skip))
      | (apply regD; (case hd => (simp only [List.map_cons, List.map_nil]; rfl)); (case hok => rfl); (case' h => (intro K hK; (repeat' first
        | (apply evd_nil; refine (hK _ ?_); clear hK K)
        | (apply evd_guardU0; (case hj => (simp only [go_sem, hdi, hx, hk1, htl, Bool.and_false, Bool.false_and, Bool.and_self, Int.reduceToNat]; try rfl)); (case hu => (simp only [go_sem, hdi, hx, hk1, htl, Bool.and_false, Bool.false_and, Bool.and_self, Int.reduceToNat])); (case hσ => (simp only [go_sem, hdi, hx, hk1, htl, Bool.and_false, Bool.false_and, Bool.and_self, Int.reduceToNat]; try rfl)))
        | (apply evd_skipT0; (case hj => (simp only [go_sem, hdi, hx, hk1, htl, Bool.and_false, Bool.false_and, Bool.and_self, Int.reduceToNat]; try rfl)); (case hb => (simp only [go_sem, hdi, hx, hk1, htl, Bool.and_false, Bool.false_and, Bool.and_self, Int.reduceToNat]; try rfl)); (case hσ => (simp only [go_sem, hdi, hx, hk1, htl, Bool.and_false, Bool.false_and, Bool.and_self, Int.reduceToNat]; try rfl)))
        | (apply evd_skipF0; (case hj => (simp only [go_sem, hdi, hx, hk1, htl, Bool.and_false, Bool.false_and, Bool.and_self, Int.reduceToNat]; try rfl)); (case hb => (simp only [go_sem, hdi, hx, hk1, htl, Bool.and_false, Bool.false_and, Bool.and_self, Int.reduceToNat]; try rfl)); (case hσ => (simp only [go_sem, hdi, hx, hk1, htl, Bool.and_false, Bool.false_and, Bool.and_self, Int.reduceToNat]; try rfl)))
        | (apply evd_guardU; (case hj => (simp only [go_sem, hdi, hx, hk1, htl, Bool.and_false, Bool.false_and, Bool.and_self, Int.reduceToNat]; try rfl)); (case hu => (simp only [go_sem, hdi, hx, hk1, htl, Bool.and_false, Bool.false_and, Bool.and_self, Int.reduceToNat])); (case hσ => (simp only [go_sem, hdi, hx, hk1, htl, Bool.and_false, Bool.false_and, Bool.and_self, Int.reduceToNat]; try rfl)))
        | (apply evd_skipT; (case hj => (simp only [go_sem, hdi, hx, hk1, htl, Bool.and_false, Bool.false_and, Bool.and_self, Int.reduceToNat]; try rfl)); (case hb => (simp only [go_sem, hdi, hx, hk1, htl, Bool.and_false, Bool.false_and, Bool.and_self, Int.reduceToNat]; try rfl)); (case hσ => (simp only [go_sem, hdi, hx, hk1, htl, Bool.and_false, Bool.false_and, Bool.and_self, Int.reduceToNat]; try rfl)))
        | (apply evd_skipF; (case hj => (simp only [go_sem, hdi, hx, hk1, htl, Bool.and_false, Bool.false_and, Bool.and_self, Int.reduceToNat]; try rfl)); (case hb => (simp only [go_sem, hdi, hx, hk1, htl, Bool.and_false, Bool.false_and, Bool.and_self, Int.reduceToNat]; try rfl)); (case hσ => (simp only [go_sem, hdi, hx, hk1, htl, Bool.and_false, Bool.false_and, Bool.and_self, Int.reduceToNat]; try rfl)))
        | (apply evd_guardT; (case hj => (simp only [go_sem, hdi, hx, hk1, htl, Bool.and_false, Bool.false_and, Bool.and_self, Int.reduceToNat]; try rfl)); (case hb => (simp only [go_sem, hdi, hx, hk1, htl, Bool.and_false, Bool.false_and, Bool.and_self, Int.reduceToNat]; try rfl)); (case' h2 => (intro hb; first | (cases hb; done) | (simp only [hb]) | skip)); (case' h1 => (intro hb; first | (cases hb; done) | (simp only [hb]) | skip)))
        | (apply evd_guardF; (case hj => (simp only [go_sem, hdi, hx, hk1, htl, Bool.and_false, Bool.false_and, Bool.and_self, Int.reduceToNat]; try rfl)); (case hb => (simp only [go_sem, hdi, hx, hk1, htl, Bool.and_false, Bool.false_and, Bool.and_self, Int.reduceToNat]; try rfl)); (case' h2 => (intro hb; first | (cases hb; done) | (simp only [hb]) | skip)); (case' h1 => (intro hb; first | (cases hb; done) | (simp only [hb]) | skip)))
        | (apply evd_step0; (case hr => (simp only [go_sem, hdi, hx, hk1, htl, Bool.and_false, Bool.false_and, Bool.and_self, Int.reduceToNat]; try rfl)); (case hi => (simp only [go_sem, hdi, hx, hk1, htl, Bool.and_false, Bool.false_and, Bool.and_self, Int.reduceToNat]; try rfl)); (case hc => (first | trivial | decide | (simp only [inB, sliceOk, appendOk, rowsOk]; omega) | (simp [inB, sliceOk, appendOk, rowsOk]; omega))); (case hσ => (simp only [go_sem, hdi, hx, hk1, htl, Bool.and_false, Bool.false_and, Bool.and_self, Int.reduceToNat]; try rfl)))
        | (apply evd_step; (case hr => (simp only [go_sem, hdi, hx, hk1, htl, Bool.and_false, Bool.false_and, Bool.and_self, Int.reduceToNat]; try rfl)); (case hi => (simp only [go_sem, hdi, hx, hk1, htl, Bool.and_false, Bool.false_and, Bool.and_self, Int.reduceToNat]; try rfl)); (case hc => (first | trivial | decide | (simp only [inB, sliceOk, appendOk, rowsOk]; omega) | (simp [inB, sliceOk, appendOk, rowsOk]; omega))); (case hw => (intro g u; simp only [go_sem, hdi, hx, hk1, htl, Bool.and_false, Bool.false_and, Bool.and_self, Int.reduceToNat]; try rfl)); (case hσ => (intro g u; simp only [go_sem, hdi, hx, hk1, htl, Bool.and_false, Bool.false_and, Bool.and_self, Int.reduceToNat]; try rfl)); (case' hk => (intro g u; (try clear u); (try clear g))))
        | fail))); (case hB => kernel_rfl))
      | refine ev_step0 _ _ (by (simp only [go_sem, hdi, hx, hk1, htl, Bool.and_false, Bool.false_and, Bool.and_self, Int.reduceToNat]; rfl)) (by (first | trivial | decide | (simp only [inB, sliceOk, appendOk, rowsOk]; omega) | (simp [inB, sliceOk, appendOk, rowsOk]; omega))) _ (by (simp only [go_sem, hdi, hx, hk1, htl, Bool.and_false, Bool.false_and, Bool.and_self, Int.reduceToNat]; rfl)) ?_
      | (refine ev_step _ (by (simp only [go_sem, hdi, hx, hk1, htl, Bool.and_false, Bool.false_and, Bool.and_self, Int.reduceToNat]; rfl)) (by (first | trivial | decide | (simp only [inB, sliceOk, appendOk, rowsOk]; omega) | (simp [inB, sliceOk, appendOk, rowsOk]; omega))) _ (fun g u => by (simp only [go_sem, hdi, hx, hk1, htl, Bool.and_false, Bool.false_and, Bool.and_self, Int.reduceToNat]; rfl)) ?_; intro g u; (try clear u); (try clear g))
      | fail
    rename_i u1 u2 u3 u4
    refine Exists.intro (st + 1, out ++ [x], L.take k ++ L.drop (k + 1), u2) ⟨⟨?_, ?_, hp', hcs⟩, ?_, ?_⟩
    · show st + 1 + (L.take k ++ L.drop (k + 1)).length = l.length
      omega
    · show (out ++ [x]).length + (L.take k ++ L.drop (k + 1)).length = l.length
      rw [List.length_append, List.length_cons, List.length_nil]
      omega
    · show (L.take k ++ L.drop (k + 1)).length < L.length
      omega
    refine Wk.trans (Wk.data 6 63 rfl rfl) ?_
    simp only [List.set_cons_succ, List.set_cons_zero, chs, List.map_append, List.map_cons, List.map_nil]
    refine Wk.mk ?_ ?_
    all_goals (repeat' first | exact trivial | exact LeA.refl _ | exact LeA.any _ | exact LeO.refl _ | exact LeO.no _ | exact LeA.nil _ | (refine LeA.i ?_; (first | rfl | (push_cast; rfl) | (rw [wrap_id (by omega)]; push_cast; omega) | (simp [wrap_id]; omega))) | refine ⟨?_, ?_⟩)
end
section
set_option linter.unusedVariables false
set_option linter.unusedSimpArgs false
open Go.RowKit
attribute [local irreducible] AWp evOps evD AWq Ops
/-- Arguments of which more is told. -/
theorem Spec.args {P : Program} {f : Nat} {xs ys : List AV} {r : AV} (h : Spec P f ys r) (hle : LeL xs ys) : Spec P f xs r :=
  ⟨h.1, fun w C hC vs hv => h.2 w C hC vs (hle.has hv)⟩
abbrev exA : Nm := (0, 1)
abbrev exB : Nm := (1, 1)
abbrev exD : Nm := (0, 2)
abbrev cut2 (a b : Int) : List Int := [a, b, 0, 0, 0, 0]
set_option maxHeartbeats 8000000 in
set_option maxRecDepth 8000 in
theorem f9_spec : Spec Try.prog 9 [] (litB true) := by
  have h13a : Spec Try.prog 13 [.d (chs [(exB, cut2 0 1, true), (exA, cut2 1 0, true)])] (.d (nms [exA, exB])) := f13_spec _ (by decide)
  have h13b : Spec Try.prog 13 [.d (chs [(exB, cut2 0 1, true), (exA, cut2 1 0, true), (exD, cut2 2 0, false)])] (.d (nms [exB])) := f13_spec _ (by decide)
  have h14a : Spec Try.prog 14 [.d (nms [exA, exB]), .d (nms [exA, exB])] (litB true) := f14_spec _ _
  have h14b : Spec Try.prog 14 [.d (nms [exB]), .d (nms [exB])] (litB true) := f14_spec _ _
  have h16a : Spec Try.prog 16 [.d (nms [exA, exD, exB])] (litB true) := f16_spec _
  have h16b : Spec Try.prog 16 [.d (nms [exB, exA])] (litB false) := f16_spec _
  have h16c : Spec Try.prog 16 [.d (nms [exA, exA])] (litB false) := f16_spec _
  have h16d : Spec Try.prog 16 [.d (nms [(0, 0)])] (litB false) := f16_spec _
  have h31 : Spec Try.prog 31 [.agg [.d (nms [exA]), .d (ints (cut2 1 0))], .agg [.d (.lit (.slice none 0 0)), .d (ints (cut2 2 0))]] (.agg [.d (nms []), .d (ints (cut2 2 0))]) :=
    (f31_spec [exA] [] (cut2 1 0) (cut2 2 0) (by decide)).args ⟨LeA.refl _, LeA.agg ⟨LeA.nil 2, LeA.refl _, trivial⟩, trivial⟩
  have h42 : Spec Try.prog 42 [.d (ints (cut2 2 0)), .d (ints (cut2 2 0))] (litB true) := f42_spec _ _
  have h19 : Spec Try.prog 19 [.agg (chg exD (cut2 2 0) false)] (.agg (chg exD (cut2 2 0) false)) := f19_spec _ _ _
  have h18a : Spec Try.prog 18 [.agg (chg exD (cut2 2 0) false)] (litB true) := f18_spec _ _ _
  have h18b : Spec Try.prog 18 [.agg (chg exD (cut2 1 0) false)] (litB false) := f18_spec _ _ _
  have h21a : Spec Try.prog 21 [.agg (rep [exA] (cut2 1 0))] (litB true) := f21_spec _ _
  have h21b : Spec Try.prog 21 [.agg (rep [exB] (cut2 1 0))] (litB false) := f21_spec _ _
  have h26 : Spec Try.prog 26 [.d (nms [exA, exB]), .agg (nm 0 2)] (.d (nms [exA, exD, exB])) := f26_spec [exA, exB] exD (by decide)
  have h14c : Spec Try.prog 14 [.d (nms [exA, exD, exB]), .d (nms [exA, exD, exB])] (litB true) := f14_spec _ _
  have h28 : Spec Try.prog 28 [.d (nms [exA, exB]), .d (ints (cut2 9 9))] (.d (nms [])) := f28_spec _ _ (by decide)
  refine spec_of_awp (fn := Try.f9) Try.func9 (by kernel_rfl) rfl ?_
  intro w0 C0
  simp only [Try.ntmps9, litI, litB, litS, List.length_cons, List.length_nil, Nat.reduceAdd, Nat.reduceSub, List.replicate_succ, List.replicate_zero, List.cons_append, List.nil_append]
  repeat' first
    | refine awp_seq ?_
    | refine awp_block ?_
    | refine awp_skip ?_
    | (refine reg _ (by (simp only [List.map_cons, List.map_nil]; rfl)) rfl ?_; intro K hK)
    | (refine awp_cond _ (by rfl) ?_ ?_ <;> (intro hb; first | (cases hb; done) | (have ht : true = true := hb; clear ht hb) | (have ht : false = false := hb; clear ht hb) | (simp only [hb]) | skip))
    | (refine awp_exit ?_; simp only [thenA, blockA, reduceIte, RetQ, Nat.reduceEqDiff])
    | (refine awp_ret ?_; simp only [thenA, blockA, RetQ])
    | (refine ev_nil (hK _ ?_); clear hK K)
    | refine ev_guardU _ (by (simp only [go_sem, Bool.and_false, Bool.false_and, Bool.and_self, Int.reduceToNat]; rfl)) (by (simp only [go_sem, Bool.and_false, Bool.false_and, Bool.and_self, Int.reduceToNat]; rfl)) _ (by (simp only [go_sem, Bool.and_false, Bool.false_and, Bool.and_self, Int.reduceToNat]; rfl)) ?_
    | (refine ev_guardT _ _ (by (simp only [go_sem, Bool.and_false, Bool.false_and, Bool.and_self, Int.reduceToNat]; rfl)) (by (simp only [go_sem, Bool.and_false, Bool.false_and, Bool.and_self, Int.reduceToNat]; rfl)) ?_ ?_ <;> (intro hb; first | (cases hb; done) | (have ht : true = true := hb; clear ht hb) | (have ht : false = false := hb; clear ht hb) | (simp only [hb]) | skip))
    | (refine ev_guardF _ _ (by (simp only [go_sem, Bool.and_false, Bool.false_and, Bool.and_self, Int.reduceToNat]; rfl)) (by (simp only [go_sem, Bool.and_false, Bool.false_and, Bool.and_self, Int.reduceToNat]; rfl)) ?_ ?_ <;> (intro hb; first | (cases hb; done) | (have ht : true = true := hb; clear ht hb) | (have ht : false = false := hb; clear ht hb) | (simp only [hb]) | skip))
    | refine ev_call0 _ _ (by (simp only [go_sem, Bool.and_false, Bool.false_and, Bool.and_self, Int.reduceToNat]; rfl)) (by first | exact f41_spec .. | exact h13a .. | exact h13b .. | exact h14a .. | exact h14b .. | exact h16a .. | exact h16b .. | exact h16c .. | exact h16d .. | exact h31 .. | exact h42 .. | exact h18a .. | exact h18b .. | exact h21a .. | exact h21b .. | exact h26 .. | exact h14c .. | exact h28 .. | exact h19 ..) (by (simp only [go_sem, Bool.and_false, Bool.false_and, Bool.and_self, Int.reduceToNat])) _ (by (simp only [go_sem, Bool.and_false, Bool.false_and, Bool.and_self, Int.reduceToNat]; rfl)) ?_
    | refine ev_callC _ _ _ _ (by (simp only [go_sem, Bool.and_false, Bool.false_and, Bool.and_self, Int.reduceToNat]; rfl)) (by (simp only [go_sem, Bool.and_false, Bool.false_and, Bool.and_self, Int.reduceToNat]; rfl)) (by first | exact f41_spec .. | exact h13a .. | exact h13b .. | exact h14a .. | exact h14b .. | exact h16a .. | exact h16b .. | exact h16c .. | exact h16d .. | exact h31 .. | exact h42 .. | exact h18a .. | exact h18b .. | exact h21a .. | exact h21b .. | exact h26 .. | exact h14c .. | exact h28 .. | exact h19 ..) (by (simp only [go_sem, Bool.and_false, Bool.false_and, Bool.and_self, Int.reduceToNat])) _ (by (simp only [go_sem, Bool.and_false, Bool.false_and, Bool.and_self, Int.reduceToNat]; rfl)) ?_
    | (apply regD; (case hd => (simp only [List.map_cons, List.map_nil]; rfl)); (case hok => rfl); (case' h => (intro K hK; (repeat' first
        | (apply evd_nil; refine (hK _ ?_); clear hK K)
        | (apply evd_guardU0; (case hj => (simp only [go_sem, Bool.and_false, Bool.false_and, Bool.and_self, Int.reduceToNat]; try rfl)); (case hu => (simp only [go_sem, Bool.and_false, Bool.false_and, Bool.and_self, Int.reduceToNat])); (case hσ => (simp only [go_sem, Bool.and_false, Bool.false_and, Bool.and_self, Int.reduceToNat]; try rfl)))
        | (apply evd_skipT0; (case hj => (simp only [go_sem, Bool.and_false, Bool.false_and, Bool.and_self, Int.reduceToNat]; try rfl)); (case hb => (simp only [go_sem, Bool.and_false, Bool.false_and, Bool.and_self, Int.reduceToNat]; try rfl)); (case hσ => (simp only [go_sem, Bool.and_false, Bool.false_and, Bool.and_self, Int.reduceToNat]; try rfl)))
        | (apply evd_skipF0; (case hj => (simp only [go_sem, Bool.and_false, Bool.false_and, Bool.and_self, Int.reduceToNat]; try rfl)); (case hb => (simp only [go_sem, Bool.and_false, Bool.false_and, Bool.and_self, Int.reduceToNat]; try rfl)); (case hσ => (simp only [go_sem, Bool.and_false, Bool.false_and, Bool.and_self, Int.reduceToNat]; try rfl)))
        | (apply evd_guardU; (case hj => (simp only [go_sem, Bool.and_false, Bool.false_and, Bool.and_self, Int.reduceToNat]; try rfl)); (case hu => (simp only [go_sem, Bool.and_false, Bool.false_and, Bool.and_self, Int.reduceToNat])); (case hσ => (simp only [go_sem, Bool.and_false, Bool.false_and, Bool.and_self, Int.reduceToNat]; try rfl)))
        | (apply evd_skipT; (case hj => (simp only [go_sem, Bool.and_false, Bool.false_and, Bool.and_self, Int.reduceToNat]; try rfl)); (case hb => (simp only [go_sem, Bool.and_false, Bool.false_and, Bool.and_self, Int.reduceToNat]; try rfl)); (case hσ => (simp only [go_sem, Bool.and_false, Bool.false_and, Bool.and_self, Int.reduceToNat]; try rfl)))
        | (apply evd_skipF; (case hj => (simp only [go_sem, Bool.and_false, Bool.false_and, Bool.and_self, Int.reduceToNat]; try rfl)); (case hb => (simp only [go_sem, Bool.and_false, Bool.false_and, Bool.and_self, Int.reduceToNat]; try rfl)); (case hσ => (simp only [go_sem, Bool.and_false, Bool.false_and, Bool.and_self, Int.reduceToNat]; try rfl)))
        | (apply evd_guardT; (case hj => (simp only [go_sem, Bool.and_false, Bool.false_and, Bool.and_self, Int.reduceToNat]; try rfl)); (case hb => (simp only [go_sem, Bool.and_false, Bool.false_and, Bool.and_self, Int.reduceToNat]; try rfl)); (case' h2 => (intro hb; first | (cases hb; done) | (simp only [hb]) | skip)); (case' h1 => (intro hb; first | (cases hb; done) | (simp only [hb]) | skip)))
        | (apply evd_guardF; (case hj => (simp only [go_sem, Bool.and_false, Bool.false_and, Bool.and_self, Int.reduceToNat]; try rfl)); (case hb => (simp only [go_sem, Bool.and_false, Bool.false_and, Bool.and_self, Int.reduceToNat]; try rfl)); (case' h2 => (intro hb; first | (cases hb; done) | (simp only [hb]) | skip)); (case' h1 => (intro hb; first | (cases hb; done) | (simp only [hb]) | skip)))
        | (apply evd_call0; (case hi => (simp only [go_sem, Bool.and_false, Bool.false_and, Bool.and_self, Int.reduceToNat]; try rfl)); (case hys => (simp only [go_sem, Bool.and_false, Bool.false_and, Bool.and_self, Int.reduceToNat]; try rfl)); (case hs => first | exact f41_spec .. | exact h13a .. | exact h13b .. | exact h14a .. | exact h14b .. | exact h16a .. | exact h16b .. | exact h16c .. | exact h16d .. | exact h31 .. | exact h42 .. | exact h18a .. | exact h18b .. | exact h21a .. | exact h21b .. | exact h26 .. | exact h14c .. | exact h28 .. | exact h19 ..); (case hok => (simp only [go_sem, Bool.and_false, Bool.false_and, Bool.and_self, Int.reduceToNat])); (case hw => (simp only [go_sem, Bool.and_false, Bool.false_and, Bool.and_self, Int.reduceToNat]; try rfl)); (case hσ => (simp only [go_sem, Bool.and_false, Bool.false_and, Bool.and_self, Int.reduceToNat]; try rfl)))
        | (apply evd_callC; (case hf => (simp only [go_sem, Bool.and_false, Bool.false_and, Bool.and_self, Int.reduceToNat]; try rfl)); (case hi => (simp only [go_sem, Bool.and_false, Bool.false_and, Bool.and_self, Int.reduceToNat]; try rfl)); (case hys => (simp only [go_sem, Bool.and_false, Bool.false_and, Bool.and_self, Int.reduceToNat]; try rfl)); (case hs => first | exact f41_spec .. | exact h13a .. | exact h13b .. | exact h14a .. | exact h14b .. | exact h16a .. | exact h16b .. | exact h16c .. | exact h16d .. | exact h31 .. | exact h42 .. | exact h18a .. | exact h18b .. | exact h21a .. | exact h21b .. | exact h26 .. | exact h14c .. | exact h28 .. | exact h19 ..); (case hok => (simp only [go_sem, Bool.and_false, Bool.false_and, Bool.and_self, Int.reduceToNat])); (case hw => (simp only [go_sem, Bool.and_false, Bool.false_and, Bool.and_self, Int.reduceToNat]; try rfl)); (case hσ => (simp only [go_sem, Bool.and_false, Bool.false_and, Bool.and_self, Int.reduceToNat]; try rfl)))
        | (apply evd_step0; (case hr => (simp only [go_sem, Bool.and_false, Bool.false_and, Bool.and_self, Int.reduceToNat]; try rfl)); (case hi => (simp only [go_sem, Bool.and_false, Bool.false_and, Bool.and_self, Int.reduceToNat]; try rfl)); (case hc => (first | trivial | decide | (simp only [inB, sliceOk, appendOk, rowsOk]; omega) | (simp [inB, sliceOk, appendOk, rowsOk]; omega))); (case hσ => (simp only [go_sem, Bool.and_false, Bool.false_and, Bool.and_self, Int.reduceToNat]; try rfl)))
        | (apply evd_step; (case hr => (simp only [go_sem, Bool.and_false, Bool.false_and, Bool.and_self, Int.reduceToNat]; try rfl)); (case hi => (simp only [go_sem, Bool.and_false, Bool.false_and, Bool.and_self, Int.reduceToNat]; try rfl)); (case hc => (first | trivial | decide | (simp only [inB, sliceOk, appendOk, rowsOk]; omega) | (simp [inB, sliceOk, appendOk, rowsOk]; omega))); (case hw => (intro g u; simp only [go_sem, Bool.and_false, Bool.false_and, Bool.and_self, Int.reduceToNat]; try rfl)); (case hσ => (intro g u; simp only [go_sem, Bool.and_false, Bool.false_and, Bool.and_self, Int.reduceToNat]; try rfl)); (case' hk => (intro g u; (try clear u); (try clear g))))
        | fail))); (case hB => kernel_rfl))
    | refine ev_step0 _ _ (by (simp only [go_sem, Bool.and_false, Bool.false_and, Bool.and_self, Int.reduceToNat]; rfl)) (by (first | trivial | decide | (simp only [inB, sliceOk, appendOk, rowsOk]; omega) | (simp [inB, sliceOk, appendOk, rowsOk]; omega))) _ (by (simp only [go_sem, Bool.and_false, Bool.false_and, Bool.and_self, Int.reduceToNat]; rfl)) ?_
    | (refine ev_step _ (by (simp only [go_sem, Bool.and_false, Bool.false_and, Bool.and_self, Int.reduceToNat]; rfl)) (by (first | trivial | decide | (simp only [inB, sliceOk, appendOk, rowsOk]; omega) | (simp [inB, sliceOk, appendOk, rowsOk]; omega))) _ (fun g u => by (simp only [go_sem, Bool.and_false, Bool.false_and, Bool.and_self, Int.reduceToNat]; rfl)) ?_; intro g u; (try clear u); (try clear g))
    | fail
  all_goals (refine resR_one T_ok rfl _ (by (simp only [go_sem, resA]; rfl)) (by first | trivial | (simp only [go_sem, resA])) (by first | trivial | (simp only [go_sem])) ?_; simp only [go_sem])
  exact LeA.b rfl
end
section
set_option linter.unusedVariables false
set_option linter.unusedSimpArgs false
open Go.RowKit
attribute [local irreducible] AWp evOps evD AWq Ops
theorem made_names {l : List Cm} (h : HistOk l) (b : List Int) : ∀ i, i ≤ l.length → (madeI l b i).Pairwise fun c d => c.1 ≠ d.1
  | 0, _ => .nil
  | i + 1, hi => by
    rw [madeI_succ, List.pairwise_append]
    refine ⟨made_names h b i (by omega), ?_, fun d hd c hcc => ?_⟩
    · simp only [mkC]
      split
      · exact List.pairwise_singleton _ _
      · exact .nil
    · simp only [madeI, List.mem_flatten, List.mem_map, List.mem_range] at hd
      obtain ⟨_, ⟨k, hk, rfl⟩, hd⟩ := hd
      simp only [mkC] at hd hcc
      split at hd
      · split at hcc
        · rw [List.mem_singleton] at hd hcc
          subst hd; subst hcc
          intro e
          have := hist_name h (i := k) (j := i) (by omega) (by omega) e
          omega
        · simp at hcc
      · simp at hd
theorem name_inj {m : List Ch} (h : m.Pairwise fun c d => c.1 ≠ d.1) {c d : Ch} (hc : c ∈ m) (hd : d ∈ m) (e : c.1 = d.1) : c = d := by
  induction m with
  | nil => simp at hc
  | cons x m ih =>
    rw [List.pairwise_cons] at h
    rcases List.mem_cons.1 hc with e1 | hc'
    · rcases List.mem_cons.1 hd with e2 | hd'
      · rw [e1, e2]
      · rw [e1] at e
        exact absurd e (h.1 d hd')
    · rcases List.mem_cons.1 hd with e2 | hd'
      · rw [e2] at e
        exact absurd e.symm (h.1 c hc')
      · exact ih h.2 hc' hd'
/-- Whether a change's name stays, as far as the first k say. -/
def stayK (m : List Ch) (c : Ch) (k : Nat) : Bool := c.2.2 && (m.take k).all fun d => d.2.2 || !inCut d.2.1 c.1.1 c.1.2
theorem stay_eq {m : List Ch} (hp : m.Pairwise Bef) (hn : m.Pairwise fun c d => c.1 ≠ d.1) {c : Ch} (hc : c ∈ m) : stayK m c m.length = inL (foldO m) c.1 := by
  rw [Bool.eq_iff_iff, inL_iff, foldO_iff hp]
  simp only [stayK, List.take_length, Bool.and_eq_true, List.all_eq_true, Bool.or_eq_true, Bool.not_eq_true']
  constructor
  · rintro ⟨h1, h2⟩
    exact ⟨⟨c, hc, h1, rfl⟩, fun d hd hf => (h2 d hd).resolve_left (by rw [hf]; exact Bool.false_ne_true)⟩
  · rintro ⟨⟨d, hd, h1, h2⟩, h3⟩
    have := name_inj hn hd hc h2
    subst this
    refine ⟨h1, fun e he => ?_⟩
    cases hq : e.2.2 with
    | true => exact .inl rfl
    | false => exact .inr (h3 e he hq)
theorem stay_succ (m : List Ch) (c : Ch) {k : Nat} (hk : k < m.length) : stayK m c (k + 1) = (stayK m c k && ((m.getD k ch0).2.2 || !inCut (m.getD k ch0).2.1 c.1.1 c.1.2)) := by
  have hab1 : m.take (k + 1) = m.take k ++ [m.getD k ch0] := by rw [List.take_succ_eq_append_getElem hk]; simp [List.getD_eq_getElem?_getD, hk]
  simp only [stayK, hab1, List.all_append, List.all_cons, List.all_nil, Bool.and_true, Bool.and_assoc]
def cntT (m : List Ch) (t : List Nm) (i : Nat) : Nat := ((m.take i).filter fun c => inL t c.1).length
theorem cntT_succ (m : List Ch) (t : List Nm) {i : Nat} (hi : i < m.length) : cntT m t (i + 1) = cntT m t i + if inL t (m.getD i ch0).1 = true then 1 else 0 := by
  have hab1 : m.take (i + 1) = m.take i ++ [m.getD i ch0] := by rw [List.take_succ_eq_append_getElem hi]; simp [List.getD_eq_getElem?_getD, hi]
  simp only [cntT, hab1, List.filter_append, List.length_append, List.filter_cons, List.filter_nil]
  split <;> simp
theorem cntT_le (m : List Ch) (t : List Nm) (i : Nat) : cntT m t i ≤ i := by
  refine Nat.le_trans (List.length_filter_le _ _) ?_
  rw [List.length_take]; omega
theorem ins_all : ∀ (l t : List Nm), t.Pairwise lt → (l.Pairwise fun a b => a ≠ b) → (∀ x ∈ l, x ∉ t) → (l.foldl insN t).Pairwise lt ∧ (l.foldl insN t).length = t.length + l.length ∧ ∀ z, z ∈ l.foldl insN t ↔ z ∈ t ∨ z ∈ l
  | [], t, h, _, _ => ⟨h, rfl, fun z => by simp⟩
  | x :: l, t, h, hn, hx => by
    rw [List.pairwise_cons] at hn
    obtain ⟨h1, h2, h3⟩ := ins_all l (insN t x) (sorted_ins h) hn.2 fun y hy hyt => by
      rcases mem_ins.1 hyt with e | e
      · exact hn.1 y hy e.symm
      · exact hx y (.tail _ hy) e
    refine ⟨h1, ?_, fun z => ?_⟩
    · simp only [List.foldl_cons]
      rw [h2, length_ins h, if_neg (fun hi => hx x (.head _) (inL_iff.1 hi)), List.length_cons]; omega
    · simp only [List.foldl_cons]
      rw [h3, mem_ins, List.mem_cons]
      constructor
      · rintro ((e | e) | e)
        · exact .inr (.inl e)
        · exact .inl e
        · exact .inr (.inr e)
      · rintro (e | e | e)
        · exact .inl (.inr e)
        · exact .inl (.inl e)
        · exact .inr e
theorem count_eq {m : List Ch} (hn : m.Pairwise fun c d => c.1 ≠ d.1) : cntT m (foldO m) m.length = (foldO m).length := by
  have hpn : ((m.filter fun c => inL (foldO m) c.1).map (·.1)).Pairwise fun a b => a ≠ b := by
    rw [List.pairwise_map]
    exact hn.filter _
  obtain ⟨h1, h2, h3⟩ := ins_all ((m.filter fun c => inL (foldO m) c.1).map (·.1)) [] .nil hpn (fun x _ => by simp)
  have e : ((m.filter fun c => inL (foldO m) c.1).map (·.1)).foldl insN [] = foldO m := by
    refine sorted_eq h1 (foldO_pw m) fun z => ?_
    rw [h3]
    simp only [List.not_mem_nil, false_or, List.mem_map, List.mem_filter, inL_iff]
    constructor
    · rintro ⟨c, ⟨-, hc⟩, rfl⟩
      exact hc
    · intro hz
      obtain ⟨c, hc, rfl⟩ := foldO_sub hz
      exact ⟨c, ⟨hc, hz⟩, rfl⟩
  rw [e] at h2
  rw [cntT, List.take_length, h2]
  simp
set_option maxHeartbeats 8000000 in
set_option maxRecDepth 8000 in
theorem f5_spec (h b o : List Int) (hh : ∀ x ∈ h, 0 ≤ x ∧ x < 256) (hb : ∀ x ∈ b, 0 ≤ x ∧ x < 256) (ho : ∀ x ∈ o, 0 ≤ x ∧ x < 256) :
    Spec Try.prog 5 [.d (bytesD h), .d (bytesD b), .d (bytesD o)] (litB true) := by
  obtain ⟨hl1, hl2⟩ := hdrL_ok hh
  have hist := hdrL_hist hh
  have f12 := f12_spec h hh
  have f11 := f11_spec (hdrL h) b hb (by omega) fun c hc => ⟨(hl2 c hc).1, (hl2 c hc).2.2.1⟩
  obtain ⟨hm1, hm2⟩ := made_ok (b := b) hh
  have hp : (madeL (hdrL h) b).Pairwise Bef := made_pw hist hl2 b _ (Nat.le_refl _)
  have hn : (madeL (hdrL h) b).Pairwise fun c d => c.1 ≠ d.1 := made_names hist b _ (Nat.le_refl _)
  generalize madeL (hdrL h) b = m at *
  have f34 := f34_spec m o ho (by omega) hp
  have f13a := f13_spec (causL m o) (by have := caus_len o m.length 0 m; simp only [causL]; omega)
  rw [causal_fold o hp] at f13a
  have f13b := f13_spec m (by omega)
  have r17 := foldO_sorted hm2
  have hce := count_eq hn
  have hst : ∀ i, i < m.length → stayK m (m.getD i ch0) m.length = inL (foldO m) (m.getD i ch0).1 := fun i hi => stay_eq hp hn (getD_mem' hi ch0)
  generalize foldO m = t at *
  generalize causL m o = mo at *
  refine spec_of_awp (fn := Try.f5) Try.func5 (by kernel_rfl) rfl ?_
  intro w0 C0
  simp only [Try.ntmps5, litI, litB, litS, List.length_cons, List.length_nil, Nat.reduceAdd, Nat.reduceSub, List.replicate_succ, List.replicate_zero, List.cons_append, List.nil_append]
  repeat' first
    | refine awp_seq ?_
    | refine awp_block ?_
    | refine awp_skip ?_
    | (refine reg _ (by (simp only [List.map_cons, List.map_nil]; rfl)) rfl ?_; intro K hK)
    | (refine awp_cond _ (by rfl) ?_ ?_ <;> (intro hb; first | (cases hb; done) | (have ht : true = true := hb; clear ht hb) | (have ht : false = false := hb; clear ht hb) | (simp only [hb]) | skip))
    | (refine awp_exit ?_; simp only [thenA, blockA, reduceIte, RetQ, Nat.reduceEqDiff])
    | (refine awp_ret ?_; simp only [thenA, blockA, RetQ])
    | (refine ev_nil (hK _ ?_); clear hK K)
    | refine ev_guardU _ (by (simp only [go_sem]; rfl)) (by (simp only [go_sem]; rfl)) _ (by (simp only [go_sem]; rfl)) ?_
    | (refine ev_guardT _ _ (by (simp only [go_sem]; rfl)) (by (simp only [go_sem]; rfl)) ?_ ?_ <;> (intro hb; first | (cases hb; done) | (have ht : true = true := hb; clear ht hb) | (have ht : false = false := hb; clear ht hb) | (simp only [hb]) | skip))
    | (refine ev_guardF _ _ (by (simp only [go_sem]; rfl)) (by (simp only [go_sem]; rfl)) ?_ ?_ <;> (intro hb; first | (cases hb; done) | (have ht : true = true := hb; clear ht hb) | (have ht : false = false := hb; clear ht hb) | (simp only [hb]) | skip))
    | refine ev_call0 _ _ (by (simp only [go_sem]; rfl)) (by first | exact f9_spec .. | exact f12 .. | exact f11 .. | exact f34 .. | exact f13a ..) (by (simp only [go_sem])) _ (by (simp only [go_sem]; rfl)) ?_
    | refine ev_callC _ _ _ _ (by (simp only [go_sem]; rfl)) (by (simp only [go_sem]; rfl)) (by first | exact f9_spec .. | exact f12 .. | exact f11 .. | exact f34 .. | exact f13a ..) (by (simp only [go_sem])) _ (by (simp only [go_sem]; rfl)) ?_
    | (apply regD; (case hd => (simp only [List.map_cons, List.map_nil]; rfl)); (case hok => rfl); (case' h => (intro K hK; (repeat' first
        | (apply evd_nil; refine (hK _ ?_); clear hK K)
        | (apply evd_guardU0; (case hj => (simp only [go_sem]; try rfl)); (case hu => (simp only [go_sem])); (case hσ => (simp only [go_sem]; try rfl)))
        | (apply evd_skipT0; (case hj => (simp only [go_sem]; try rfl)); (case hb => (simp only [go_sem]; try rfl)); (case hσ => (simp only [go_sem]; try rfl)))
        | (apply evd_skipF0; (case hj => (simp only [go_sem]; try rfl)); (case hb => (simp only [go_sem]; try rfl)); (case hσ => (simp only [go_sem]; try rfl)))
        | (apply evd_guardU; (case hj => (simp only [go_sem]; try rfl)); (case hu => (simp only [go_sem])); (case hσ => (simp only [go_sem]; try rfl)))
        | (apply evd_skipT; (case hj => (simp only [go_sem]; try rfl)); (case hb => (simp only [go_sem]; try rfl)); (case hσ => (simp only [go_sem]; try rfl)))
        | (apply evd_skipF; (case hj => (simp only [go_sem]; try rfl)); (case hb => (simp only [go_sem]; try rfl)); (case hσ => (simp only [go_sem]; try rfl)))
        | (apply evd_guardT; (case hj => (simp only [go_sem]; try rfl)); (case hb => (simp only [go_sem]; try rfl)); (case' h2 => (intro hb; first | (cases hb; done) | (simp only [hb]) | skip)); (case' h1 => (intro hb; first | (cases hb; done) | (simp only [hb]) | skip)))
        | (apply evd_guardF; (case hj => (simp only [go_sem]; try rfl)); (case hb => (simp only [go_sem]; try rfl)); (case' h2 => (intro hb; first | (cases hb; done) | (simp only [hb]) | skip)); (case' h1 => (intro hb; first | (cases hb; done) | (simp only [hb]) | skip)))
        | (apply evd_call0; (case hi => (simp only [go_sem]; try rfl)); (case hys => (simp only [go_sem]; try rfl)); (case hs => first | exact f9_spec .. | exact f12 .. | exact f11 .. | exact f34 .. | exact f13a ..); (case hok => (simp only [go_sem])); (case hw => (simp only [go_sem]; try rfl)); (case hσ => (simp only [go_sem]; try rfl)))
        | (apply evd_callC; (case hf => (simp only [go_sem]; try rfl)); (case hi => (simp only [go_sem]; try rfl)); (case hys => (simp only [go_sem]; try rfl)); (case hs => first | exact f9_spec .. | exact f12 .. | exact f11 .. | exact f34 .. | exact f13a ..); (case hok => (simp only [go_sem])); (case hw => (simp only [go_sem]; try rfl)); (case hσ => (simp only [go_sem]; try rfl)))
        | (apply evd_step0; (case hr => (simp only [go_sem]; try rfl)); (case hi => (simp only [go_sem]; try rfl)); (case hc => (first | trivial | decide | (simp only [inB, sliceOk, appendOk, rowsOk]; omega) | (simp [inB, sliceOk, appendOk, rowsOk]; omega))); (case hσ => (simp only [go_sem]; try rfl)))
        | (apply evd_step; (case hr => (simp only [go_sem]; try rfl)); (case hi => (simp only [go_sem]; try rfl)); (case hc => (first | trivial | decide | (simp only [inB, sliceOk, appendOk, rowsOk]; omega) | (simp [inB, sliceOk, appendOk, rowsOk]; omega))); (case hw => (intro g u; simp only [go_sem]; try rfl)); (case hσ => (intro g u; simp only [go_sem]; try rfl)); (case' hk => (intro g u; (try clear u); (try clear g))))
        | fail))); (case hB => kernel_rfl))
    | refine ev_step0 _ _ (by (simp only [go_sem]; rfl)) (by (first | trivial | decide | (simp only [inB, sliceOk, appendOk, rowsOk]; omega) | (simp [inB, sliceOk, appendOk, rowsOk]; omega))) _ (by (simp only [go_sem]; rfl)) ?_
    | (refine ev_step _ (by (simp only [go_sem]; rfl)) (by (first | trivial | decide | (simp only [inB, sliceOk, appendOk, rowsOk]; omega) | (simp [inB, sliceOk, appendOk, rowsOk]; omega))) _ (fun g u => by (simp only [go_sem]; rfl)) ?_; intro g u; (try clear u); (try clear g))
    | fail
  refine awp_loopI (fun i : Nat => i ≤ m.length) (fun i => m.length - i) (fun i => ⟨[.any, .any, .any, .any, .any, .any, .any, litB true, .d (chs m), .d (nms t), litI .i64 (cntT m t i), litI .i64 i, .any, .any, .any, .any, .any, .any, .any, .any, .any, .any, .any, .any, .any, .any, .any, .any, .any, .any, .any, .any, .any, .any, .any, .any, .any, .any, .any, .any, .any, .any, .any, .any, .any, .any, .any, .any, .any, .any, .any, .any, .any, .any, .any, .any, .any, .any, .any, .any, .any, .any, .any, .any, .any, .any, .any, .any, .any, .any, .any, .any, .any, .any, .any, .any, .any, .any, .any, .any, .any, .any, .any, .any, .any, .any, .any, .any, .any, .any, .any, .any, .any], [.no, .no, .no, .no, .no, .no, .no, .no, .no, .no, .no, .no, .no, .no, .no, .no, .no, .no, .no, .no, .no, .no, .no, .no, .no, .no, .no, .no, .no, .no, .no, .no, .no, .no, .no, .no, .no, .no, .no, .no, .no, .no, .no, .no, .no, .no, .no, .no, .no, .no, .no, .no, .no, .no, .no, .no, .no, .no, .no, .no, .no, .no, .no, .no, .no, .no, .no, .no, .no, .no, .no, .no, .no, .no, .no, .no, .no, .no, .no, .no, .no, .no, .no, .no, .no, .no, .no, .no, .no, .no, .no, .no, .no]⟩) 0 (by simp) ?_ ?_
  · refine Wk.mk ?_ ?_
    all_goals (repeat' first | exact trivial | exact LeA.refl _ | exact LeA.any _ | exact LeO.refl _ | exact LeO.no _ | exact LeA.nil _ | (refine LeA.i ?_; (first | rfl | (push_cast; rfl) | (rw [wrap_id (by omega)]; push_cast; omega) | (simp [wrap_id]; omega))) | refine ⟨?_, ?_⟩)
  intro i hi
  simp only [litI, litB] at hi ⊢
  by_cases hlt : i < m.length
  rotate_left
  have hdec : decide ((i : Int) < (m.length : Int)) = false := by simp; omega
  · have : i = m.length := by omega
    have hq : ((t.length : Int) == (cntT m t i : Int)) = true := by rw [this, hce]; simp
    repeat' first
      | refine awp_seq ?_
      | refine awp_block ?_
      | refine awp_skip ?_
      | (refine reg _ (by (simp only [List.map_cons, List.map_nil]; rfl)) rfl ?_; intro K hK)
      | (refine awp_cond _ (by rfl) ?_ ?_ <;> (intro hb; first | (cases hb; done) | (have ht : true = true := hb; clear ht hb) | (have ht : false = false := hb; clear ht hb) | (simp only [hb]) | skip))
      | (refine awp_exit ?_; simp only [thenA, blockA, reduceIte, RetQ, Nat.reduceEqDiff])
      | (refine awp_ret ?_; simp only [thenA, blockA, RetQ])
      | (refine ev_nil (hK _ ?_); clear hK K)
      | refine ev_guardU _ (by (simp only [go_sem, hdec, hq, r17, decide_true, Bool.and_false, Bool.false_and, Bool.and_self, Int.reduceToNat]; rfl)) (by (simp only [go_sem, hdec, hq, r17, decide_true, Bool.and_false, Bool.false_and, Bool.and_self, Int.reduceToNat]; rfl)) _ (by (simp only [go_sem, hdec, hq, r17, decide_true, Bool.and_false, Bool.false_and, Bool.and_self, Int.reduceToNat]; rfl)) ?_
      | (refine ev_guardT _ _ (by (simp only [go_sem, hdec, hq, r17, decide_true, Bool.and_false, Bool.false_and, Bool.and_self, Int.reduceToNat]; rfl)) (by (simp only [go_sem, hdec, hq, r17, decide_true, Bool.and_false, Bool.false_and, Bool.and_self, Int.reduceToNat]; rfl)) ?_ ?_ <;> (intro hb; first | (cases hb; done) | (have ht : true = true := hb; clear ht hb) | (have ht : false = false := hb; clear ht hb) | (simp only [hb]) | skip))
      | (refine ev_guardF _ _ (by (simp only [go_sem, hdec, hq, r17, decide_true, Bool.and_false, Bool.false_and, Bool.and_self, Int.reduceToNat]; rfl)) (by (simp only [go_sem, hdec, hq, r17, decide_true, Bool.and_false, Bool.false_and, Bool.and_self, Int.reduceToNat]; rfl)) ?_ ?_ <;> (intro hb; first | (cases hb; done) | (have ht : true = true := hb; clear ht hb) | (have ht : false = false := hb; clear ht hb) | (simp only [hb]) | skip))
      | refine ev_call0 _ _ (by (simp only [go_sem, hdec, hq, r17, decide_true, Bool.and_false, Bool.false_and, Bool.and_self, Int.reduceToNat]; rfl)) (by first | exact f17_spec .. | exact f13b .. | exact f14_spec ..) (by (simp only [go_sem, hdec, hq, r17, decide_true, Bool.and_false, Bool.false_and, Bool.and_self, Int.reduceToNat])) _ (by (simp only [go_sem, hdec, hq, r17, decide_true, Bool.and_false, Bool.false_and, Bool.and_self, Int.reduceToNat]; rfl)) ?_
      | refine ev_callC _ _ _ _ (by (simp only [go_sem, hdec, hq, r17, decide_true, Bool.and_false, Bool.false_and, Bool.and_self, Int.reduceToNat]; rfl)) (by (simp only [go_sem, hdec, hq, r17, decide_true, Bool.and_false, Bool.false_and, Bool.and_self, Int.reduceToNat]; rfl)) (by first | exact f17_spec .. | exact f13b .. | exact f14_spec ..) (by (simp only [go_sem, hdec, hq, r17, decide_true, Bool.and_false, Bool.false_and, Bool.and_self, Int.reduceToNat])) _ (by (simp only [go_sem, hdec, hq, r17, decide_true, Bool.and_false, Bool.false_and, Bool.and_self, Int.reduceToNat]; rfl)) ?_
      | (apply regD; (case hd => (simp only [List.map_cons, List.map_nil]; rfl)); (case hok => rfl); (case' h => (intro K hK; (repeat' first
        | (apply evd_nil; refine (hK _ ?_); clear hK K)
        | (apply evd_guardU0; (case hj => (simp only [go_sem, hdec, hq, r17, decide_true, Bool.and_false, Bool.false_and, Bool.and_self, Int.reduceToNat]; try rfl)); (case hu => (simp only [go_sem, hdec, hq, r17, decide_true, Bool.and_false, Bool.false_and, Bool.and_self, Int.reduceToNat])); (case hσ => (simp only [go_sem, hdec, hq, r17, decide_true, Bool.and_false, Bool.false_and, Bool.and_self, Int.reduceToNat]; try rfl)))
        | (apply evd_skipT0; (case hj => (simp only [go_sem, hdec, hq, r17, decide_true, Bool.and_false, Bool.false_and, Bool.and_self, Int.reduceToNat]; try rfl)); (case hb => (simp only [go_sem, hdec, hq, r17, decide_true, Bool.and_false, Bool.false_and, Bool.and_self, Int.reduceToNat]; try rfl)); (case hσ => (simp only [go_sem, hdec, hq, r17, decide_true, Bool.and_false, Bool.false_and, Bool.and_self, Int.reduceToNat]; try rfl)))
        | (apply evd_skipF0; (case hj => (simp only [go_sem, hdec, hq, r17, decide_true, Bool.and_false, Bool.false_and, Bool.and_self, Int.reduceToNat]; try rfl)); (case hb => (simp only [go_sem, hdec, hq, r17, decide_true, Bool.and_false, Bool.false_and, Bool.and_self, Int.reduceToNat]; try rfl)); (case hσ => (simp only [go_sem, hdec, hq, r17, decide_true, Bool.and_false, Bool.false_and, Bool.and_self, Int.reduceToNat]; try rfl)))
        | (apply evd_guardU; (case hj => (simp only [go_sem, hdec, hq, r17, decide_true, Bool.and_false, Bool.false_and, Bool.and_self, Int.reduceToNat]; try rfl)); (case hu => (simp only [go_sem, hdec, hq, r17, decide_true, Bool.and_false, Bool.false_and, Bool.and_self, Int.reduceToNat])); (case hσ => (simp only [go_sem, hdec, hq, r17, decide_true, Bool.and_false, Bool.false_and, Bool.and_self, Int.reduceToNat]; try rfl)))
        | (apply evd_skipT; (case hj => (simp only [go_sem, hdec, hq, r17, decide_true, Bool.and_false, Bool.false_and, Bool.and_self, Int.reduceToNat]; try rfl)); (case hb => (simp only [go_sem, hdec, hq, r17, decide_true, Bool.and_false, Bool.false_and, Bool.and_self, Int.reduceToNat]; try rfl)); (case hσ => (simp only [go_sem, hdec, hq, r17, decide_true, Bool.and_false, Bool.false_and, Bool.and_self, Int.reduceToNat]; try rfl)))
        | (apply evd_skipF; (case hj => (simp only [go_sem, hdec, hq, r17, decide_true, Bool.and_false, Bool.false_and, Bool.and_self, Int.reduceToNat]; try rfl)); (case hb => (simp only [go_sem, hdec, hq, r17, decide_true, Bool.and_false, Bool.false_and, Bool.and_self, Int.reduceToNat]; try rfl)); (case hσ => (simp only [go_sem, hdec, hq, r17, decide_true, Bool.and_false, Bool.false_and, Bool.and_self, Int.reduceToNat]; try rfl)))
        | (apply evd_guardT; (case hj => (simp only [go_sem, hdec, hq, r17, decide_true, Bool.and_false, Bool.false_and, Bool.and_self, Int.reduceToNat]; try rfl)); (case hb => (simp only [go_sem, hdec, hq, r17, decide_true, Bool.and_false, Bool.false_and, Bool.and_self, Int.reduceToNat]; try rfl)); (case' h2 => (intro hb; first | (cases hb; done) | (simp only [hb]) | skip)); (case' h1 => (intro hb; first | (cases hb; done) | (simp only [hb]) | skip)))
        | (apply evd_guardF; (case hj => (simp only [go_sem, hdec, hq, r17, decide_true, Bool.and_false, Bool.false_and, Bool.and_self, Int.reduceToNat]; try rfl)); (case hb => (simp only [go_sem, hdec, hq, r17, decide_true, Bool.and_false, Bool.false_and, Bool.and_self, Int.reduceToNat]; try rfl)); (case' h2 => (intro hb; first | (cases hb; done) | (simp only [hb]) | skip)); (case' h1 => (intro hb; first | (cases hb; done) | (simp only [hb]) | skip)))
        | (apply evd_call0; (case hi => (simp only [go_sem, hdec, hq, r17, decide_true, Bool.and_false, Bool.false_and, Bool.and_self, Int.reduceToNat]; try rfl)); (case hys => (simp only [go_sem, hdec, hq, r17, decide_true, Bool.and_false, Bool.false_and, Bool.and_self, Int.reduceToNat]; try rfl)); (case hs => first | exact f17_spec .. | exact f13b .. | exact f14_spec ..); (case hok => (simp only [go_sem, hdec, hq, r17, decide_true, Bool.and_false, Bool.false_and, Bool.and_self, Int.reduceToNat])); (case hw => (simp only [go_sem, hdec, hq, r17, decide_true, Bool.and_false, Bool.false_and, Bool.and_self, Int.reduceToNat]; try rfl)); (case hσ => (simp only [go_sem, hdec, hq, r17, decide_true, Bool.and_false, Bool.false_and, Bool.and_self, Int.reduceToNat]; try rfl)))
        | (apply evd_callC; (case hf => (simp only [go_sem, hdec, hq, r17, decide_true, Bool.and_false, Bool.false_and, Bool.and_self, Int.reduceToNat]; try rfl)); (case hi => (simp only [go_sem, hdec, hq, r17, decide_true, Bool.and_false, Bool.false_and, Bool.and_self, Int.reduceToNat]; try rfl)); (case hys => (simp only [go_sem, hdec, hq, r17, decide_true, Bool.and_false, Bool.false_and, Bool.and_self, Int.reduceToNat]; try rfl)); (case hs => first | exact f17_spec .. | exact f13b .. | exact f14_spec ..); (case hok => (simp only [go_sem, hdec, hq, r17, decide_true, Bool.and_false, Bool.false_and, Bool.and_self, Int.reduceToNat])); (case hw => (simp only [go_sem, hdec, hq, r17, decide_true, Bool.and_false, Bool.false_and, Bool.and_self, Int.reduceToNat]; try rfl)); (case hσ => (simp only [go_sem, hdec, hq, r17, decide_true, Bool.and_false, Bool.false_and, Bool.and_self, Int.reduceToNat]; try rfl)))
        | (apply evd_step0; (case hr => (simp only [go_sem, hdec, hq, r17, decide_true, Bool.and_false, Bool.false_and, Bool.and_self, Int.reduceToNat]; try rfl)); (case hi => (simp only [go_sem, hdec, hq, r17, decide_true, Bool.and_false, Bool.false_and, Bool.and_self, Int.reduceToNat]; try rfl)); (case hc => (first | trivial | decide | (simp only [inB, sliceOk, appendOk, rowsOk]; omega) | (simp [inB, sliceOk, appendOk, rowsOk]; omega))); (case hσ => (simp only [go_sem, hdec, hq, r17, decide_true, Bool.and_false, Bool.false_and, Bool.and_self, Int.reduceToNat]; try rfl)))
        | (apply evd_step; (case hr => (simp only [go_sem, hdec, hq, r17, decide_true, Bool.and_false, Bool.false_and, Bool.and_self, Int.reduceToNat]; try rfl)); (case hi => (simp only [go_sem, hdec, hq, r17, decide_true, Bool.and_false, Bool.false_and, Bool.and_self, Int.reduceToNat]; try rfl)); (case hc => (first | trivial | decide | (simp only [inB, sliceOk, appendOk, rowsOk]; omega) | (simp [inB, sliceOk, appendOk, rowsOk]; omega))); (case hw => (intro g u; simp only [go_sem, hdec, hq, r17, decide_true, Bool.and_false, Bool.false_and, Bool.and_self, Int.reduceToNat]; try rfl)); (case hσ => (intro g u; simp only [go_sem, hdec, hq, r17, decide_true, Bool.and_false, Bool.false_and, Bool.and_self, Int.reduceToNat]; try rfl)); (case' hk => (intro g u; (try clear u); (try clear g))))
        | fail))); (case hB => kernel_rfl))
      | refine ev_step0 _ _ (by (simp only [go_sem, hdec, hq, r17, decide_true, Bool.and_false, Bool.false_and, Bool.and_self, Int.reduceToNat]; rfl)) (by (first | trivial | decide | (simp only [inB, sliceOk, appendOk, rowsOk]; omega) | (simp [inB, sliceOk, appendOk, rowsOk]; omega))) _ (by (simp only [go_sem, hdec, hq, r17, decide_true, Bool.and_false, Bool.false_and, Bool.and_self, Int.reduceToNat]; rfl)) ?_
      | (refine ev_step _ (by (simp only [go_sem, hdec, hq, r17, decide_true, Bool.and_false, Bool.false_and, Bool.and_self, Int.reduceToNat]; rfl)) (by (first | trivial | decide | (simp only [inB, sliceOk, appendOk, rowsOk]; omega) | (simp [inB, sliceOk, appendOk, rowsOk]; omega))) _ (fun g u => by (simp only [go_sem, hdec, hq, r17, decide_true, Bool.and_false, Bool.false_and, Bool.and_self, Int.reduceToNat]; rfl)) ?_; intro g u; (try clear u); (try clear g))
      | fail
    all_goals (refine resR_one T_ok rfl _ (by (simp only [go_sem, resA]; rfl)) (by first | trivial | (simp only [go_sem, resA])) (by first | trivial | (simp only [go_sem])) ?_; simp only [go_sem])
    exact LeA.refl _
  have hdec : decide ((i : Int) < (m.length : Int)) = true := by simp; omega
  have hx := chs_at m hlt
  have hs := hst i hlt
  have hcs := cntT_succ m t hlt
  have hcl := cntT_le m t i
  have hs0 : stayK m (m.getD i ch0) 0 = (m.getD i ch0).2.2 := by simp [stayK]
  have hsuc : ∀ k, k < m.length → _ := fun k hk => stay_succ m (m.getD i ch0) (k := k) hk
  generalize m.getD i ch0 = x at *
  have hdi := hdec
  clear hdec
  repeat' first
    | refine awp_seq ?_
    | refine awp_block ?_
    | refine awp_skip ?_
    | (refine reg _ (by (simp only [List.map_cons, List.map_nil]; rfl)) rfl ?_; intro K hK)
    | (refine awp_cond _ (by rfl) ?_ ?_ <;> (intro hb; first | (cases hb; done) | (have ht : true = true := hb; clear ht hb) | (have ht : false = false := hb; clear ht hb) | (simp only [hb]) | skip))
    | (refine awp_exit ?_; simp only [thenA, blockA, reduceIte, RetQ, Nat.reduceEqDiff])
    | (refine awp_ret ?_; simp only [thenA, blockA, RetQ])
    | (refine ev_nil (hK _ ?_); clear hK K)
    | refine ev_guardU _ (by (simp only [go_sem, hdi, hx]; rfl)) (by (simp only [go_sem, hdi, hx]; rfl)) _ (by (simp only [go_sem, hdi, hx]; rfl)) ?_
    | (refine ev_guardT _ _ (by (simp only [go_sem, hdi, hx]; rfl)) (by (simp only [go_sem, hdi, hx]; rfl)) ?_ ?_ <;> (intro hb; first | (cases hb; done) | (have ht : true = true := hb; clear ht hb) | (have ht : false = false := hb; clear ht hb) | (simp only [hb]) | skip))
    | (refine ev_guardF _ _ (by (simp only [go_sem, hdi, hx]; rfl)) (by (simp only [go_sem, hdi, hx]; rfl)) ?_ ?_ <;> (intro hb; first | (cases hb; done) | (have ht : true = true := hb; clear ht hb) | (have ht : false = false := hb; clear ht hb) | (simp only [hb]) | skip))
    | refine ev_step0 _ _ (by (simp only [go_sem, hdi, hx]; rfl)) (by (first | trivial | decide | (simp only [inB, sliceOk, appendOk, rowsOk]; omega) | (simp [inB, sliceOk, appendOk, rowsOk]; omega))) _ (by (simp only [go_sem, hdi, hx]; rfl)) ?_
    | (refine ev_step _ (by (simp only [go_sem, hdi, hx]; rfl)) (by (first | trivial | decide | (simp only [inB, sliceOk, appendOk, rowsOk]; omega) | (simp [inB, sliceOk, appendOk, rowsOk]; omega))) _ (fun g u => by (simp only [go_sem, hdi, hx]; rfl)) ?_; intro g u; (try clear u); (try clear g))
    | fail
  refine awp_loopI (fun k : Nat => k ≤ m.length) (fun k => m.length - k) (fun k => ⟨[.any, .any, .any, .any, .any, .any, .any, litB true, .d (chs m), .d (nms t), litI .i64 (cntT m t i), litI .i64 i, litB (stayK m x k), litI .i64 k, .any, .any, .any, .any, .any, .any, .any, .any, .any, .any, .any, .any, .any, .any, .any, .any, .any, .any, .any, .any, .any, .any, .any, .any, .any, .any, .any, .any, .any, .any, .any, .any, .any, .any, .any, .any, .any, .any, .any, .any, .any, .any, .any, .any, .any, .any, .any, .any, .any, .any, .any, .any, .any, .any, .any, .any, .any, .any, .any, .any, .any, .any, .any, .any, .any, .any, .any, .any, .any, .any, .any, .any, .any, .any, .any, .any, .any, .any, .any], [.no, .no, .no, .no, .no, .no, .no, .no, .no, .no, .no, .no, .no, .no, .no, .no, .no, .no, .no, .no, .no, .no, .no, .no, .no, .no, .no, .no, .no, .no, .no, .no, .no, .no, .no, .no, .no, .no, .no, .no, .no, .no, .no, .no, .no, .no, .no, .no, .no, .no, .no, .no, .no, .no, .no, .no, .no, .no, .no, .no, .no, .no, .no, .no, .no, .no, .no, .no, .no, .no, .no, .no, .no, .no, .no, .no, .no, .no, .no, .no, .no, .no, .no, .no, .no, .no, .no, .no, .no, .no, .no, .no, .no]⟩) 0 (by simp) ?_ ?_
  · rw [hs0]
    refine Wk.mk ?_ ?_
    all_goals (repeat' first | exact trivial | exact LeA.refl _ | exact LeA.any _ | exact LeO.refl _ | exact LeO.no _ | exact LeA.nil _ | (refine LeA.i ?_; (first | rfl | (push_cast; rfl) | (rw [wrap_id (by omega)]; push_cast; omega) | (simp [wrap_id]; omega))) | refine ⟨?_, ?_⟩)
  intro k hk
  simp only [litI, litB] at hk ⊢
  by_cases hkl : k < m.length
  rotate_left
  · have hdec : decide ((k : Int) < (m.length : Int)) = false := decide_eq_false (by omega)
    have : k = m.length := by omega
    subst this
    simp only [hs]
    cases hr : inL t x.1 with
    | true =>
      rw [hr, if_pos rfl] at hcs
      repeat' first
        | refine awp_seq ?_
        | refine awp_block ?_
        | refine awp_skip ?_
        | (refine reg _ (by (simp only [List.map_cons, List.map_nil]; rfl)) rfl ?_; intro K hK)
        | (refine awp_cond _ (by rfl) ?_ ?_ <;> (intro hb; first | (cases hb; done) | (have ht : true = true := hb; clear ht hb) | (have ht : false = false := hb; clear ht hb) | (simp only [hb]) | skip))
        | (refine awp_exit ?_; simp only [thenA, blockA, reduceIte, RetQ, Nat.reduceEqDiff])
        | (refine awp_ret ?_; simp only [thenA, blockA, RetQ])
        | (refine ev_nil (hK _ ?_); clear hK K)
        | refine ev_guardU _ (by (simp only [go_sem, hdec, hx, hr, bne_self_eq_false, Bool.and_false, Bool.false_and, Bool.and_self, Int.reduceToNat]; rfl)) (by (simp only [go_sem, hdec, hx, hr, bne_self_eq_false, Bool.and_false, Bool.false_and, Bool.and_self, Int.reduceToNat]; rfl)) _ (by (simp only [go_sem, hdec, hx, hr, bne_self_eq_false, Bool.and_false, Bool.false_and, Bool.and_self, Int.reduceToNat]; rfl)) ?_
        | (refine ev_guardT _ _ (by (simp only [go_sem, hdec, hx, hr, bne_self_eq_false, Bool.and_false, Bool.false_and, Bool.and_self, Int.reduceToNat]; rfl)) (by (simp only [go_sem, hdec, hx, hr, bne_self_eq_false, Bool.and_false, Bool.false_and, Bool.and_self, Int.reduceToNat]; rfl)) ?_ ?_ <;> (intro hb; first | (cases hb; done) | (have ht : true = true := hb; clear ht hb) | (have ht : false = false := hb; clear ht hb) | (simp only [hb]) | skip))
        | (refine ev_guardF _ _ (by (simp only [go_sem, hdec, hx, hr, bne_self_eq_false, Bool.and_false, Bool.false_and, Bool.and_self, Int.reduceToNat]; rfl)) (by (simp only [go_sem, hdec, hx, hr, bne_self_eq_false, Bool.and_false, Bool.false_and, Bool.and_self, Int.reduceToNat]; rfl)) ?_ ?_ <;> (intro hb; first | (cases hb; done) | (have ht : true = true := hb; clear ht hb) | (have ht : false = false := hb; clear ht hb) | (simp only [hb]) | skip))
        | refine ev_call0 _ _ (by (simp only [go_sem, hdec, hx, hr, bne_self_eq_false, Bool.and_false, Bool.false_and, Bool.and_self, Int.reduceToNat]; rfl)) (by first | exact f35_spec ..) (by (simp only [go_sem, hdec, hx, hr, bne_self_eq_false, Bool.and_false, Bool.false_and, Bool.and_self, Int.reduceToNat])) _ (by (simp only [go_sem, hdec, hx, hr, bne_self_eq_false, Bool.and_false, Bool.false_and, Bool.and_self, Int.reduceToNat]; rfl)) ?_
        | refine ev_callC _ _ _ _ (by (simp only [go_sem, hdec, hx, hr, bne_self_eq_false, Bool.and_false, Bool.false_and, Bool.and_self, Int.reduceToNat]; rfl)) (by (simp only [go_sem, hdec, hx, hr, bne_self_eq_false, Bool.and_false, Bool.false_and, Bool.and_self, Int.reduceToNat]; rfl)) (by first | exact f35_spec ..) (by (simp only [go_sem, hdec, hx, hr, bne_self_eq_false, Bool.and_false, Bool.false_and, Bool.and_self, Int.reduceToNat])) _ (by (simp only [go_sem, hdec, hx, hr, bne_self_eq_false, Bool.and_false, Bool.false_and, Bool.and_self, Int.reduceToNat]; rfl)) ?_
        | (apply regD; (case hd => (simp only [List.map_cons, List.map_nil]; rfl)); (case hok => rfl); (case' h => (intro K hK; (repeat' first
        | (apply evd_nil; refine (hK _ ?_); clear hK K)
        | (apply evd_guardU0; (case hj => (simp only [go_sem, hdec, hx, hr, bne_self_eq_false, Bool.and_false, Bool.false_and, Bool.and_self, Int.reduceToNat]; try rfl)); (case hu => (simp only [go_sem, hdec, hx, hr, bne_self_eq_false, Bool.and_false, Bool.false_and, Bool.and_self, Int.reduceToNat])); (case hσ => (simp only [go_sem, hdec, hx, hr, bne_self_eq_false, Bool.and_false, Bool.false_and, Bool.and_self, Int.reduceToNat]; try rfl)))
        | (apply evd_skipT0; (case hj => (simp only [go_sem, hdec, hx, hr, bne_self_eq_false, Bool.and_false, Bool.false_and, Bool.and_self, Int.reduceToNat]; try rfl)); (case hb => (simp only [go_sem, hdec, hx, hr, bne_self_eq_false, Bool.and_false, Bool.false_and, Bool.and_self, Int.reduceToNat]; try rfl)); (case hσ => (simp only [go_sem, hdec, hx, hr, bne_self_eq_false, Bool.and_false, Bool.false_and, Bool.and_self, Int.reduceToNat]; try rfl)))
        | (apply evd_skipF0; (case hj => (simp only [go_sem, hdec, hx, hr, bne_self_eq_false, Bool.and_false, Bool.false_and, Bool.and_self, Int.reduceToNat]; try rfl)); (case hb => (simp only [go_sem, hdec, hx, hr, bne_self_eq_false, Bool.and_false, Bool.false_and, Bool.and_self, Int.reduceToNat]; try rfl)); (case hσ => (simp only [go_sem, hdec, hx, hr, bne_self_eq_false, Bool.and_false, Bool.false_and, Bool.and_self, Int.reduceToNat]; try rfl)))
        | (apply evd_guardU; (case hj => (simp only [go_sem, hdec, hx, hr, bne_self_eq_false, Bool.and_false, Bool.false_and, Bool.and_self, Int.reduceToNat]; try rfl)); (case hu => (simp only [go_sem, hdec, hx, hr, bne_self_eq_false, Bool.and_false, Bool.false_and, Bool.and_self, Int.reduceToNat])); (case hσ => (simp only [go_sem, hdec, hx, hr, bne_self_eq_false, Bool.and_false, Bool.false_and, Bool.and_self, Int.reduceToNat]; try rfl)))
        | (apply evd_skipT; (case hj => (simp only [go_sem, hdec, hx, hr, bne_self_eq_false, Bool.and_false, Bool.false_and, Bool.and_self, Int.reduceToNat]; try rfl)); (case hb => (simp only [go_sem, hdec, hx, hr, bne_self_eq_false, Bool.and_false, Bool.false_and, Bool.and_self, Int.reduceToNat]; try rfl)); (case hσ => (simp only [go_sem, hdec, hx, hr, bne_self_eq_false, Bool.and_false, Bool.false_and, Bool.and_self, Int.reduceToNat]; try rfl)))
        | (apply evd_skipF; (case hj => (simp only [go_sem, hdec, hx, hr, bne_self_eq_false, Bool.and_false, Bool.false_and, Bool.and_self, Int.reduceToNat]; try rfl)); (case hb => (simp only [go_sem, hdec, hx, hr, bne_self_eq_false, Bool.and_false, Bool.false_and, Bool.and_self, Int.reduceToNat]; try rfl)); (case hσ => (simp only [go_sem, hdec, hx, hr, bne_self_eq_false, Bool.and_false, Bool.false_and, Bool.and_self, Int.reduceToNat]; try rfl)))
        | (apply evd_guardT; (case hj => (simp only [go_sem, hdec, hx, hr, bne_self_eq_false, Bool.and_false, Bool.false_and, Bool.and_self, Int.reduceToNat]; try rfl)); (case hb => (simp only [go_sem, hdec, hx, hr, bne_self_eq_false, Bool.and_false, Bool.false_and, Bool.and_self, Int.reduceToNat]; try rfl)); (case' h2 => (intro hb; first | (cases hb; done) | (simp only [hb]) | skip)); (case' h1 => (intro hb; first | (cases hb; done) | (simp only [hb]) | skip)))
        | (apply evd_guardF; (case hj => (simp only [go_sem, hdec, hx, hr, bne_self_eq_false, Bool.and_false, Bool.false_and, Bool.and_self, Int.reduceToNat]; try rfl)); (case hb => (simp only [go_sem, hdec, hx, hr, bne_self_eq_false, Bool.and_false, Bool.false_and, Bool.and_self, Int.reduceToNat]; try rfl)); (case' h2 => (intro hb; first | (cases hb; done) | (simp only [hb]) | skip)); (case' h1 => (intro hb; first | (cases hb; done) | (simp only [hb]) | skip)))
        | (apply evd_call0; (case hi => (simp only [go_sem, hdec, hx, hr, bne_self_eq_false, Bool.and_false, Bool.false_and, Bool.and_self, Int.reduceToNat]; try rfl)); (case hys => (simp only [go_sem, hdec, hx, hr, bne_self_eq_false, Bool.and_false, Bool.false_and, Bool.and_self, Int.reduceToNat]; try rfl)); (case hs => first | exact f35_spec ..); (case hok => (simp only [go_sem, hdec, hx, hr, bne_self_eq_false, Bool.and_false, Bool.false_and, Bool.and_self, Int.reduceToNat])); (case hw => (simp only [go_sem, hdec, hx, hr, bne_self_eq_false, Bool.and_false, Bool.false_and, Bool.and_self, Int.reduceToNat]; try rfl)); (case hσ => (simp only [go_sem, hdec, hx, hr, bne_self_eq_false, Bool.and_false, Bool.false_and, Bool.and_self, Int.reduceToNat]; try rfl)))
        | (apply evd_callC; (case hf => (simp only [go_sem, hdec, hx, hr, bne_self_eq_false, Bool.and_false, Bool.false_and, Bool.and_self, Int.reduceToNat]; try rfl)); (case hi => (simp only [go_sem, hdec, hx, hr, bne_self_eq_false, Bool.and_false, Bool.false_and, Bool.and_self, Int.reduceToNat]; try rfl)); (case hys => (simp only [go_sem, hdec, hx, hr, bne_self_eq_false, Bool.and_false, Bool.false_and, Bool.and_self, Int.reduceToNat]; try rfl)); (case hs => first | exact f35_spec ..); (case hok => (simp only [go_sem, hdec, hx, hr, bne_self_eq_false, Bool.and_false, Bool.false_and, Bool.and_self, Int.reduceToNat])); (case hw => (simp only [go_sem, hdec, hx, hr, bne_self_eq_false, Bool.and_false, Bool.false_and, Bool.and_self, Int.reduceToNat]; try rfl)); (case hσ => (simp only [go_sem, hdec, hx, hr, bne_self_eq_false, Bool.and_false, Bool.false_and, Bool.and_self, Int.reduceToNat]; try rfl)))
        | (apply evd_step0; (case hr => (simp only [go_sem, hdec, hx, hr, bne_self_eq_false, Bool.and_false, Bool.false_and, Bool.and_self, Int.reduceToNat]; try rfl)); (case hi => (simp only [go_sem, hdec, hx, hr, bne_self_eq_false, Bool.and_false, Bool.false_and, Bool.and_self, Int.reduceToNat]; try rfl)); (case hc => (first | trivial | decide | (simp only [inB, sliceOk, appendOk, rowsOk]; omega) | (simp [inB, sliceOk, appendOk, rowsOk]; omega))); (case hσ => (simp only [go_sem, hdec, hx, hr, bne_self_eq_false, Bool.and_false, Bool.false_and, Bool.and_self, Int.reduceToNat]; try rfl)))
        | (apply evd_step; (case hr => (simp only [go_sem, hdec, hx, hr, bne_self_eq_false, Bool.and_false, Bool.false_and, Bool.and_self, Int.reduceToNat]; try rfl)); (case hi => (simp only [go_sem, hdec, hx, hr, bne_self_eq_false, Bool.and_false, Bool.false_and, Bool.and_self, Int.reduceToNat]; try rfl)); (case hc => (first | trivial | decide | (simp only [inB, sliceOk, appendOk, rowsOk]; omega) | (simp [inB, sliceOk, appendOk, rowsOk]; omega))); (case hw => (intro g u; simp only [go_sem, hdec, hx, hr, bne_self_eq_false, Bool.and_false, Bool.false_and, Bool.and_self, Int.reduceToNat]; try rfl)); (case hσ => (intro g u; simp only [go_sem, hdec, hx, hr, bne_self_eq_false, Bool.and_false, Bool.false_and, Bool.and_self, Int.reduceToNat]; try rfl)); (case' hk => (intro g u; (try clear u); (try clear g))))
        | fail))); (case hB => kernel_rfl))
        | refine ev_step0 _ _ (by (simp only [go_sem, hdec, hx, hr, bne_self_eq_false, Bool.and_false, Bool.false_and, Bool.and_self, Int.reduceToNat]; rfl)) (by (first | trivial | decide | (simp only [inB, sliceOk, appendOk, rowsOk]; omega) | (simp [inB, sliceOk, appendOk, rowsOk]; omega))) _ (by (simp only [go_sem, hdec, hx, hr, bne_self_eq_false, Bool.and_false, Bool.false_and, Bool.and_self, Int.reduceToNat]; rfl)) ?_
        | (refine ev_step _ (by (simp only [go_sem, hdec, hx, hr, bne_self_eq_false, Bool.and_false, Bool.false_and, Bool.and_self, Int.reduceToNat]; rfl)) (by (first | trivial | decide | (simp only [inB, sliceOk, appendOk, rowsOk]; omega) | (simp [inB, sliceOk, appendOk, rowsOk]; omega))) _ (fun g u => by (simp only [go_sem, hdec, hx, hr, bne_self_eq_false, Bool.and_false, Bool.false_and, Bool.and_self, Int.reduceToNat]; rfl)) ?_; intro g u; (try clear u); (try clear g))
        | fail
      refine Exists.intro (i + 1) ⟨by omega, by omega, ?_⟩
      simp only [hcs]
      refine Wk.mk ?_ ?_
      all_goals (repeat' first | exact trivial | exact LeA.refl _ | exact LeA.any _ | exact LeO.refl _ | exact LeO.no _ | exact LeA.nil _ | (refine LeA.i ?_; (first | rfl | (push_cast; rfl) | (rw [wrap_id (by omega)]; push_cast; omega) | (simp [wrap_id]; omega))) | refine ⟨?_, ?_⟩)
    | false =>
      rw [hr, if_neg (by simp)] at hcs
      repeat' first
        | refine awp_seq ?_
        | refine awp_block ?_
        | refine awp_skip ?_
        | (refine reg _ (by (simp only [List.map_cons, List.map_nil]; rfl)) rfl ?_; intro K hK)
        | (refine awp_cond _ (by rfl) ?_ ?_ <;> (intro hb; first | (cases hb; done) | (have ht : true = true := hb; clear ht hb) | (have ht : false = false := hb; clear ht hb) | (simp only [hb]) | skip))
        | (refine awp_exit ?_; simp only [thenA, blockA, reduceIte, RetQ, Nat.reduceEqDiff])
        | (refine awp_ret ?_; simp only [thenA, blockA, RetQ])
        | (refine ev_nil (hK _ ?_); clear hK K)
        | refine ev_guardU _ (by (simp only [go_sem, hdec, hx, hr, bne_self_eq_false, Bool.and_false, Bool.false_and, Bool.and_self, Int.reduceToNat]; rfl)) (by (simp only [go_sem, hdec, hx, hr, bne_self_eq_false, Bool.and_false, Bool.false_and, Bool.and_self, Int.reduceToNat]; rfl)) _ (by (simp only [go_sem, hdec, hx, hr, bne_self_eq_false, Bool.and_false, Bool.false_and, Bool.and_self, Int.reduceToNat]; rfl)) ?_
        | (refine ev_guardT _ _ (by (simp only [go_sem, hdec, hx, hr, bne_self_eq_false, Bool.and_false, Bool.false_and, Bool.and_self, Int.reduceToNat]; rfl)) (by (simp only [go_sem, hdec, hx, hr, bne_self_eq_false, Bool.and_false, Bool.false_and, Bool.and_self, Int.reduceToNat]; rfl)) ?_ ?_ <;> (intro hb; first | (cases hb; done) | (have ht : true = true := hb; clear ht hb) | (have ht : false = false := hb; clear ht hb) | (simp only [hb]) | skip))
        | (refine ev_guardF _ _ (by (simp only [go_sem, hdec, hx, hr, bne_self_eq_false, Bool.and_false, Bool.false_and, Bool.and_self, Int.reduceToNat]; rfl)) (by (simp only [go_sem, hdec, hx, hr, bne_self_eq_false, Bool.and_false, Bool.false_and, Bool.and_self, Int.reduceToNat]; rfl)) ?_ ?_ <;> (intro hb; first | (cases hb; done) | (have ht : true = true := hb; clear ht hb) | (have ht : false = false := hb; clear ht hb) | (simp only [hb]) | skip))
        | refine ev_call0 _ _ (by (simp only [go_sem, hdec, hx, hr, bne_self_eq_false, Bool.and_false, Bool.false_and, Bool.and_self, Int.reduceToNat]; rfl)) (by first | exact f35_spec ..) (by (simp only [go_sem, hdec, hx, hr, bne_self_eq_false, Bool.and_false, Bool.false_and, Bool.and_self, Int.reduceToNat])) _ (by (simp only [go_sem, hdec, hx, hr, bne_self_eq_false, Bool.and_false, Bool.false_and, Bool.and_self, Int.reduceToNat]; rfl)) ?_
        | refine ev_callC _ _ _ _ (by (simp only [go_sem, hdec, hx, hr, bne_self_eq_false, Bool.and_false, Bool.false_and, Bool.and_self, Int.reduceToNat]; rfl)) (by (simp only [go_sem, hdec, hx, hr, bne_self_eq_false, Bool.and_false, Bool.false_and, Bool.and_self, Int.reduceToNat]; rfl)) (by first | exact f35_spec ..) (by (simp only [go_sem, hdec, hx, hr, bne_self_eq_false, Bool.and_false, Bool.false_and, Bool.and_self, Int.reduceToNat])) _ (by (simp only [go_sem, hdec, hx, hr, bne_self_eq_false, Bool.and_false, Bool.false_and, Bool.and_self, Int.reduceToNat]; rfl)) ?_
        | (apply regD; (case hd => (simp only [List.map_cons, List.map_nil]; rfl)); (case hok => rfl); (case' h => (intro K hK; (repeat' first
        | (apply evd_nil; refine (hK _ ?_); clear hK K)
        | (apply evd_guardU0; (case hj => (simp only [go_sem, hdec, hx, hr, bne_self_eq_false, Bool.and_false, Bool.false_and, Bool.and_self, Int.reduceToNat]; try rfl)); (case hu => (simp only [go_sem, hdec, hx, hr, bne_self_eq_false, Bool.and_false, Bool.false_and, Bool.and_self, Int.reduceToNat])); (case hσ => (simp only [go_sem, hdec, hx, hr, bne_self_eq_false, Bool.and_false, Bool.false_and, Bool.and_self, Int.reduceToNat]; try rfl)))
        | (apply evd_skipT0; (case hj => (simp only [go_sem, hdec, hx, hr, bne_self_eq_false, Bool.and_false, Bool.false_and, Bool.and_self, Int.reduceToNat]; try rfl)); (case hb => (simp only [go_sem, hdec, hx, hr, bne_self_eq_false, Bool.and_false, Bool.false_and, Bool.and_self, Int.reduceToNat]; try rfl)); (case hσ => (simp only [go_sem, hdec, hx, hr, bne_self_eq_false, Bool.and_false, Bool.false_and, Bool.and_self, Int.reduceToNat]; try rfl)))
        | (apply evd_skipF0; (case hj => (simp only [go_sem, hdec, hx, hr, bne_self_eq_false, Bool.and_false, Bool.false_and, Bool.and_self, Int.reduceToNat]; try rfl)); (case hb => (simp only [go_sem, hdec, hx, hr, bne_self_eq_false, Bool.and_false, Bool.false_and, Bool.and_self, Int.reduceToNat]; try rfl)); (case hσ => (simp only [go_sem, hdec, hx, hr, bne_self_eq_false, Bool.and_false, Bool.false_and, Bool.and_self, Int.reduceToNat]; try rfl)))
        | (apply evd_guardU; (case hj => (simp only [go_sem, hdec, hx, hr, bne_self_eq_false, Bool.and_false, Bool.false_and, Bool.and_self, Int.reduceToNat]; try rfl)); (case hu => (simp only [go_sem, hdec, hx, hr, bne_self_eq_false, Bool.and_false, Bool.false_and, Bool.and_self, Int.reduceToNat])); (case hσ => (simp only [go_sem, hdec, hx, hr, bne_self_eq_false, Bool.and_false, Bool.false_and, Bool.and_self, Int.reduceToNat]; try rfl)))
        | (apply evd_skipT; (case hj => (simp only [go_sem, hdec, hx, hr, bne_self_eq_false, Bool.and_false, Bool.false_and, Bool.and_self, Int.reduceToNat]; try rfl)); (case hb => (simp only [go_sem, hdec, hx, hr, bne_self_eq_false, Bool.and_false, Bool.false_and, Bool.and_self, Int.reduceToNat]; try rfl)); (case hσ => (simp only [go_sem, hdec, hx, hr, bne_self_eq_false, Bool.and_false, Bool.false_and, Bool.and_self, Int.reduceToNat]; try rfl)))
        | (apply evd_skipF; (case hj => (simp only [go_sem, hdec, hx, hr, bne_self_eq_false, Bool.and_false, Bool.false_and, Bool.and_self, Int.reduceToNat]; try rfl)); (case hb => (simp only [go_sem, hdec, hx, hr, bne_self_eq_false, Bool.and_false, Bool.false_and, Bool.and_self, Int.reduceToNat]; try rfl)); (case hσ => (simp only [go_sem, hdec, hx, hr, bne_self_eq_false, Bool.and_false, Bool.false_and, Bool.and_self, Int.reduceToNat]; try rfl)))
        | (apply evd_guardT; (case hj => (simp only [go_sem, hdec, hx, hr, bne_self_eq_false, Bool.and_false, Bool.false_and, Bool.and_self, Int.reduceToNat]; try rfl)); (case hb => (simp only [go_sem, hdec, hx, hr, bne_self_eq_false, Bool.and_false, Bool.false_and, Bool.and_self, Int.reduceToNat]; try rfl)); (case' h2 => (intro hb; first | (cases hb; done) | (simp only [hb]) | skip)); (case' h1 => (intro hb; first | (cases hb; done) | (simp only [hb]) | skip)))
        | (apply evd_guardF; (case hj => (simp only [go_sem, hdec, hx, hr, bne_self_eq_false, Bool.and_false, Bool.false_and, Bool.and_self, Int.reduceToNat]; try rfl)); (case hb => (simp only [go_sem, hdec, hx, hr, bne_self_eq_false, Bool.and_false, Bool.false_and, Bool.and_self, Int.reduceToNat]; try rfl)); (case' h2 => (intro hb; first | (cases hb; done) | (simp only [hb]) | skip)); (case' h1 => (intro hb; first | (cases hb; done) | (simp only [hb]) | skip)))
        | (apply evd_call0; (case hi => (simp only [go_sem, hdec, hx, hr, bne_self_eq_false, Bool.and_false, Bool.false_and, Bool.and_self, Int.reduceToNat]; try rfl)); (case hys => (simp only [go_sem, hdec, hx, hr, bne_self_eq_false, Bool.and_false, Bool.false_and, Bool.and_self, Int.reduceToNat]; try rfl)); (case hs => first | exact f35_spec ..); (case hok => (simp only [go_sem, hdec, hx, hr, bne_self_eq_false, Bool.and_false, Bool.false_and, Bool.and_self, Int.reduceToNat])); (case hw => (simp only [go_sem, hdec, hx, hr, bne_self_eq_false, Bool.and_false, Bool.false_and, Bool.and_self, Int.reduceToNat]; try rfl)); (case hσ => (simp only [go_sem, hdec, hx, hr, bne_self_eq_false, Bool.and_false, Bool.false_and, Bool.and_self, Int.reduceToNat]; try rfl)))
        | (apply evd_callC; (case hf => (simp only [go_sem, hdec, hx, hr, bne_self_eq_false, Bool.and_false, Bool.false_and, Bool.and_self, Int.reduceToNat]; try rfl)); (case hi => (simp only [go_sem, hdec, hx, hr, bne_self_eq_false, Bool.and_false, Bool.false_and, Bool.and_self, Int.reduceToNat]; try rfl)); (case hys => (simp only [go_sem, hdec, hx, hr, bne_self_eq_false, Bool.and_false, Bool.false_and, Bool.and_self, Int.reduceToNat]; try rfl)); (case hs => first | exact f35_spec ..); (case hok => (simp only [go_sem, hdec, hx, hr, bne_self_eq_false, Bool.and_false, Bool.false_and, Bool.and_self, Int.reduceToNat])); (case hw => (simp only [go_sem, hdec, hx, hr, bne_self_eq_false, Bool.and_false, Bool.false_and, Bool.and_self, Int.reduceToNat]; try rfl)); (case hσ => (simp only [go_sem, hdec, hx, hr, bne_self_eq_false, Bool.and_false, Bool.false_and, Bool.and_self, Int.reduceToNat]; try rfl)))
        | (apply evd_step0; (case hr => (simp only [go_sem, hdec, hx, hr, bne_self_eq_false, Bool.and_false, Bool.false_and, Bool.and_self, Int.reduceToNat]; try rfl)); (case hi => (simp only [go_sem, hdec, hx, hr, bne_self_eq_false, Bool.and_false, Bool.false_and, Bool.and_self, Int.reduceToNat]; try rfl)); (case hc => (first | trivial | decide | (simp only [inB, sliceOk, appendOk, rowsOk]; omega) | (simp [inB, sliceOk, appendOk, rowsOk]; omega))); (case hσ => (simp only [go_sem, hdec, hx, hr, bne_self_eq_false, Bool.and_false, Bool.false_and, Bool.and_self, Int.reduceToNat]; try rfl)))
        | (apply evd_step; (case hr => (simp only [go_sem, hdec, hx, hr, bne_self_eq_false, Bool.and_false, Bool.false_and, Bool.and_self, Int.reduceToNat]; try rfl)); (case hi => (simp only [go_sem, hdec, hx, hr, bne_self_eq_false, Bool.and_false, Bool.false_and, Bool.and_self, Int.reduceToNat]; try rfl)); (case hc => (first | trivial | decide | (simp only [inB, sliceOk, appendOk, rowsOk]; omega) | (simp [inB, sliceOk, appendOk, rowsOk]; omega))); (case hw => (intro g u; simp only [go_sem, hdec, hx, hr, bne_self_eq_false, Bool.and_false, Bool.false_and, Bool.and_self, Int.reduceToNat]; try rfl)); (case hσ => (intro g u; simp only [go_sem, hdec, hx, hr, bne_self_eq_false, Bool.and_false, Bool.false_and, Bool.and_self, Int.reduceToNat]; try rfl)); (case' hk => (intro g u; (try clear u); (try clear g))))
        | fail))); (case hB => kernel_rfl))
        | refine ev_step0 _ _ (by (simp only [go_sem, hdec, hx, hr, bne_self_eq_false, Bool.and_false, Bool.false_and, Bool.and_self, Int.reduceToNat]; rfl)) (by (first | trivial | decide | (simp only [inB, sliceOk, appendOk, rowsOk]; omega) | (simp [inB, sliceOk, appendOk, rowsOk]; omega))) _ (by (simp only [go_sem, hdec, hx, hr, bne_self_eq_false, Bool.and_false, Bool.false_and, Bool.and_self, Int.reduceToNat]; rfl)) ?_
        | (refine ev_step _ (by (simp only [go_sem, hdec, hx, hr, bne_self_eq_false, Bool.and_false, Bool.false_and, Bool.and_self, Int.reduceToNat]; rfl)) (by (first | trivial | decide | (simp only [inB, sliceOk, appendOk, rowsOk]; omega) | (simp [inB, sliceOk, appendOk, rowsOk]; omega))) _ (fun g u => by (simp only [go_sem, hdec, hx, hr, bne_self_eq_false, Bool.and_false, Bool.false_and, Bool.and_self, Int.reduceToNat]; rfl)) ?_; intro g u; (try clear u); (try clear g))
        | fail
      refine Exists.intro (i + 1) ⟨by omega, by omega, ?_⟩
      simp only [hcs, Nat.add_zero]
      refine Wk.mk ?_ ?_
      all_goals (repeat' first | exact trivial | exact LeA.refl _ | exact LeA.any _ | exact LeO.refl _ | exact LeO.no _ | exact LeA.nil _ | (refine LeA.i ?_; (first | rfl | (push_cast; rfl) | (rw [wrap_id (by omega)]; push_cast; omega) | (simp [wrap_id]; omega))) | refine ⟨?_, ?_⟩)
  have hdec : decide ((k : Int) < (m.length : Int)) = true := decide_eq_true (by omega)
  have hy := chs_at m hkl
  have hsk := hsuc k hkl
  generalize m.getD k ch0 = y at *
  generalize stayK m x k = sk at *
  cases sk with
  | false =>
    repeat' first
      | refine awp_seq ?_
      | refine awp_block ?_
      | refine awp_skip ?_
      | (refine reg _ (by (simp only [List.map_cons, List.map_nil]; rfl)) rfl ?_; intro K hK)
      | (refine awp_cond _ (by rfl) ?_ ?_ <;> (intro hb; first | (cases hb; done) | (have ht : true = true := hb; clear ht hb) | (have ht : false = false := hb; clear ht hb) | (simp only [hb]) | skip))
      | (refine awp_exit ?_; simp only [thenA, blockA, reduceIte, RetQ, Nat.reduceEqDiff])
      | (refine awp_ret ?_; simp only [thenA, blockA, RetQ])
      | (refine ev_nil (hK _ ?_); clear hK K)
      | refine ev_guardU _ (by (simp only [go_sem, hdec, hx, hy, Bool.and_false, Bool.false_and, Bool.and_self, Int.reduceToNat]; rfl)) (by (simp only [go_sem, hdec, hx, hy, Bool.and_false, Bool.false_and, Bool.and_self, Int.reduceToNat]; rfl)) _ (by (simp only [go_sem, hdec, hx, hy, Bool.and_false, Bool.false_and, Bool.and_self, Int.reduceToNat]; rfl)) ?_
      | (refine ev_guardT _ _ (by (simp only [go_sem, hdec, hx, hy, Bool.and_false, Bool.false_and, Bool.and_self, Int.reduceToNat]; rfl)) (by (simp only [go_sem, hdec, hx, hy, Bool.and_false, Bool.false_and, Bool.and_self, Int.reduceToNat]; rfl)) ?_ ?_ <;> (intro hb; first | (cases hb; done) | (have ht : true = true := hb; clear ht hb) | (have ht : false = false := hb; clear ht hb) | (simp only [hb]) | skip))
      | (refine ev_guardF _ _ (by (simp only [go_sem, hdec, hx, hy, Bool.and_false, Bool.false_and, Bool.and_self, Int.reduceToNat]; rfl)) (by (simp only [go_sem, hdec, hx, hy, Bool.and_false, Bool.false_and, Bool.and_self, Int.reduceToNat]; rfl)) ?_ ?_ <;> (intro hb; first | (cases hb; done) | (have ht : true = true := hb; clear ht hb) | (have ht : false = false := hb; clear ht hb) | (simp only [hb]) | skip))
      | refine ev_call0 _ _ (by (simp only [go_sem, hdec, hx, hy, Bool.and_false, Bool.false_and, Bool.and_self, Int.reduceToNat]; rfl)) (by first | exact f33_spec ..) (by (simp only [go_sem, hdec, hx, hy, Bool.and_false, Bool.false_and, Bool.and_self, Int.reduceToNat])) _ (by (simp only [go_sem, hdec, hx, hy, Bool.and_false, Bool.false_and, Bool.and_self, Int.reduceToNat]; rfl)) ?_
      | refine ev_callC _ _ _ _ (by (simp only [go_sem, hdec, hx, hy, Bool.and_false, Bool.false_and, Bool.and_self, Int.reduceToNat]; rfl)) (by (simp only [go_sem, hdec, hx, hy, Bool.and_false, Bool.false_and, Bool.and_self, Int.reduceToNat]; rfl)) (by first | exact f33_spec ..) (by (simp only [go_sem, hdec, hx, hy, Bool.and_false, Bool.false_and, Bool.and_self, Int.reduceToNat])) _ (by (simp only [go_sem, hdec, hx, hy, Bool.and_false, Bool.false_and, Bool.and_self, Int.reduceToNat]; rfl)) ?_
      | (apply regD; (case hd => (simp only [List.map_cons, List.map_nil]; rfl)); (case hok => rfl); (case' h => (intro K hK; (repeat' first
        | (apply evd_nil; refine (hK _ ?_); clear hK K)
        | (apply evd_guardU0; (case hj => (simp only [go_sem, hdec, hx, hy, Bool.and_false, Bool.false_and, Bool.and_self, Int.reduceToNat]; try rfl)); (case hu => (simp only [go_sem, hdec, hx, hy, Bool.and_false, Bool.false_and, Bool.and_self, Int.reduceToNat])); (case hσ => (simp only [go_sem, hdec, hx, hy, Bool.and_false, Bool.false_and, Bool.and_self, Int.reduceToNat]; try rfl)))
        | (apply evd_skipT0; (case hj => (simp only [go_sem, hdec, hx, hy, Bool.and_false, Bool.false_and, Bool.and_self, Int.reduceToNat]; try rfl)); (case hb => (simp only [go_sem, hdec, hx, hy, Bool.and_false, Bool.false_and, Bool.and_self, Int.reduceToNat]; try rfl)); (case hσ => (simp only [go_sem, hdec, hx, hy, Bool.and_false, Bool.false_and, Bool.and_self, Int.reduceToNat]; try rfl)))
        | (apply evd_skipF0; (case hj => (simp only [go_sem, hdec, hx, hy, Bool.and_false, Bool.false_and, Bool.and_self, Int.reduceToNat]; try rfl)); (case hb => (simp only [go_sem, hdec, hx, hy, Bool.and_false, Bool.false_and, Bool.and_self, Int.reduceToNat]; try rfl)); (case hσ => (simp only [go_sem, hdec, hx, hy, Bool.and_false, Bool.false_and, Bool.and_self, Int.reduceToNat]; try rfl)))
        | (apply evd_guardU; (case hj => (simp only [go_sem, hdec, hx, hy, Bool.and_false, Bool.false_and, Bool.and_self, Int.reduceToNat]; try rfl)); (case hu => (simp only [go_sem, hdec, hx, hy, Bool.and_false, Bool.false_and, Bool.and_self, Int.reduceToNat])); (case hσ => (simp only [go_sem, hdec, hx, hy, Bool.and_false, Bool.false_and, Bool.and_self, Int.reduceToNat]; try rfl)))
        | (apply evd_skipT; (case hj => (simp only [go_sem, hdec, hx, hy, Bool.and_false, Bool.false_and, Bool.and_self, Int.reduceToNat]; try rfl)); (case hb => (simp only [go_sem, hdec, hx, hy, Bool.and_false, Bool.false_and, Bool.and_self, Int.reduceToNat]; try rfl)); (case hσ => (simp only [go_sem, hdec, hx, hy, Bool.and_false, Bool.false_and, Bool.and_self, Int.reduceToNat]; try rfl)))
        | (apply evd_skipF; (case hj => (simp only [go_sem, hdec, hx, hy, Bool.and_false, Bool.false_and, Bool.and_self, Int.reduceToNat]; try rfl)); (case hb => (simp only [go_sem, hdec, hx, hy, Bool.and_false, Bool.false_and, Bool.and_self, Int.reduceToNat]; try rfl)); (case hσ => (simp only [go_sem, hdec, hx, hy, Bool.and_false, Bool.false_and, Bool.and_self, Int.reduceToNat]; try rfl)))
        | (apply evd_guardT; (case hj => (simp only [go_sem, hdec, hx, hy, Bool.and_false, Bool.false_and, Bool.and_self, Int.reduceToNat]; try rfl)); (case hb => (simp only [go_sem, hdec, hx, hy, Bool.and_false, Bool.false_and, Bool.and_self, Int.reduceToNat]; try rfl)); (case' h2 => (intro hb; first | (cases hb; done) | (simp only [hb]) | skip)); (case' h1 => (intro hb; first | (cases hb; done) | (simp only [hb]) | skip)))
        | (apply evd_guardF; (case hj => (simp only [go_sem, hdec, hx, hy, Bool.and_false, Bool.false_and, Bool.and_self, Int.reduceToNat]; try rfl)); (case hb => (simp only [go_sem, hdec, hx, hy, Bool.and_false, Bool.false_and, Bool.and_self, Int.reduceToNat]; try rfl)); (case' h2 => (intro hb; first | (cases hb; done) | (simp only [hb]) | skip)); (case' h1 => (intro hb; first | (cases hb; done) | (simp only [hb]) | skip)))
        | (apply evd_call0; (case hi => (simp only [go_sem, hdec, hx, hy, Bool.and_false, Bool.false_and, Bool.and_self, Int.reduceToNat]; try rfl)); (case hys => (simp only [go_sem, hdec, hx, hy, Bool.and_false, Bool.false_and, Bool.and_self, Int.reduceToNat]; try rfl)); (case hs => first | exact f33_spec ..); (case hok => (simp only [go_sem, hdec, hx, hy, Bool.and_false, Bool.false_and, Bool.and_self, Int.reduceToNat])); (case hw => (simp only [go_sem, hdec, hx, hy, Bool.and_false, Bool.false_and, Bool.and_self, Int.reduceToNat]; try rfl)); (case hσ => (simp only [go_sem, hdec, hx, hy, Bool.and_false, Bool.false_and, Bool.and_self, Int.reduceToNat]; try rfl)))
        | (apply evd_callC; (case hf => (simp only [go_sem, hdec, hx, hy, Bool.and_false, Bool.false_and, Bool.and_self, Int.reduceToNat]; try rfl)); (case hi => (simp only [go_sem, hdec, hx, hy, Bool.and_false, Bool.false_and, Bool.and_self, Int.reduceToNat]; try rfl)); (case hys => (simp only [go_sem, hdec, hx, hy, Bool.and_false, Bool.false_and, Bool.and_self, Int.reduceToNat]; try rfl)); (case hs => first | exact f33_spec ..); (case hok => (simp only [go_sem, hdec, hx, hy, Bool.and_false, Bool.false_and, Bool.and_self, Int.reduceToNat])); (case hw => (simp only [go_sem, hdec, hx, hy, Bool.and_false, Bool.false_and, Bool.and_self, Int.reduceToNat]; try rfl)); (case hσ => (simp only [go_sem, hdec, hx, hy, Bool.and_false, Bool.false_and, Bool.and_self, Int.reduceToNat]; try rfl)))
        | (apply evd_step0; (case hr => (simp only [go_sem, hdec, hx, hy, Bool.and_false, Bool.false_and, Bool.and_self, Int.reduceToNat]; try rfl)); (case hi => (simp only [go_sem, hdec, hx, hy, Bool.and_false, Bool.false_and, Bool.and_self, Int.reduceToNat]; try rfl)); (case hc => (first | trivial | decide | (simp only [inB, sliceOk, appendOk, rowsOk]; omega) | (simp [inB, sliceOk, appendOk, rowsOk]; omega))); (case hσ => (simp only [go_sem, hdec, hx, hy, Bool.and_false, Bool.false_and, Bool.and_self, Int.reduceToNat]; try rfl)))
        | (apply evd_step; (case hr => (simp only [go_sem, hdec, hx, hy, Bool.and_false, Bool.false_and, Bool.and_self, Int.reduceToNat]; try rfl)); (case hi => (simp only [go_sem, hdec, hx, hy, Bool.and_false, Bool.false_and, Bool.and_self, Int.reduceToNat]; try rfl)); (case hc => (first | trivial | decide | (simp only [inB, sliceOk, appendOk, rowsOk]; omega) | (simp [inB, sliceOk, appendOk, rowsOk]; omega))); (case hw => (intro g u; simp only [go_sem, hdec, hx, hy, Bool.and_false, Bool.false_and, Bool.and_self, Int.reduceToNat]; try rfl)); (case hσ => (intro g u; simp only [go_sem, hdec, hx, hy, Bool.and_false, Bool.false_and, Bool.and_self, Int.reduceToNat]; try rfl)); (case' hk => (intro g u; (try clear u); (try clear g))))
        | fail))); (case hB => kernel_rfl))
      | refine ev_step0 _ _ (by (simp only [go_sem, hdec, hx, hy, Bool.and_false, Bool.false_and, Bool.and_self, Int.reduceToNat]; rfl)) (by (first | trivial | decide | (simp only [inB, sliceOk, appendOk, rowsOk]; omega) | (simp [inB, sliceOk, appendOk, rowsOk]; omega))) _ (by (simp only [go_sem, hdec, hx, hy, Bool.and_false, Bool.false_and, Bool.and_self, Int.reduceToNat]; rfl)) ?_
      | (refine ev_step _ (by (simp only [go_sem, hdec, hx, hy, Bool.and_false, Bool.false_and, Bool.and_self, Int.reduceToNat]; rfl)) (by (first | trivial | decide | (simp only [inB, sliceOk, appendOk, rowsOk]; omega) | (simp [inB, sliceOk, appendOk, rowsOk]; omega))) _ (fun g u => by (simp only [go_sem, hdec, hx, hy, Bool.and_false, Bool.false_and, Bool.and_self, Int.reduceToNat]; rfl)) ?_; intro g u; (try clear u); (try clear g))
      | fail
    refine Exists.intro (k + 1) ⟨by omega, by omega, ?_⟩
    simp only [hsk, Bool.false_and]
    refine Wk.mk ?_ ?_
    all_goals (repeat' first | exact trivial | exact LeA.refl _ | exact LeA.any _ | exact LeO.refl _ | exact LeO.no _ | exact LeA.nil _ | (refine LeA.i ?_; (first | rfl | (push_cast; rfl) | (rw [wrap_id (by omega)]; push_cast; omega) | (simp [wrap_id]; omega))) | refine ⟨?_, ?_⟩)
  | true =>
  cases r1 : y.2.2 with
  | true =>
    rw [r1] at hy
    repeat' first
      | refine awp_seq ?_
      | refine awp_block ?_
      | refine awp_skip ?_
      | (refine reg _ (by (simp only [List.map_cons, List.map_nil]; rfl)) rfl ?_; intro K hK)
      | (refine awp_cond _ (by rfl) ?_ ?_ <;> (intro hb; first | (cases hb; done) | (have ht : true = true := hb; clear ht hb) | (have ht : false = false := hb; clear ht hb) | (simp only [hb]) | skip))
      | (refine awp_exit ?_; simp only [thenA, blockA, reduceIte, RetQ, Nat.reduceEqDiff])
      | (refine awp_ret ?_; simp only [thenA, blockA, RetQ])
      | (refine ev_nil (hK _ ?_); clear hK K)
      | refine ev_guardU _ (by (simp only [go_sem, hdec, hx, hy, Bool.and_false, Bool.false_and, Bool.and_self, Int.reduceToNat]; rfl)) (by (simp only [go_sem, hdec, hx, hy, Bool.and_false, Bool.false_and, Bool.and_self, Int.reduceToNat]; rfl)) _ (by (simp only [go_sem, hdec, hx, hy, Bool.and_false, Bool.false_and, Bool.and_self, Int.reduceToNat]; rfl)) ?_
      | (refine ev_guardT _ _ (by (simp only [go_sem, hdec, hx, hy, Bool.and_false, Bool.false_and, Bool.and_self, Int.reduceToNat]; rfl)) (by (simp only [go_sem, hdec, hx, hy, Bool.and_false, Bool.false_and, Bool.and_self, Int.reduceToNat]; rfl)) ?_ ?_ <;> (intro hb; first | (cases hb; done) | (have ht : true = true := hb; clear ht hb) | (have ht : false = false := hb; clear ht hb) | (simp only [hb]) | skip))
      | (refine ev_guardF _ _ (by (simp only [go_sem, hdec, hx, hy, Bool.and_false, Bool.false_and, Bool.and_self, Int.reduceToNat]; rfl)) (by (simp only [go_sem, hdec, hx, hy, Bool.and_false, Bool.false_and, Bool.and_self, Int.reduceToNat]; rfl)) ?_ ?_ <;> (intro hb; first | (cases hb; done) | (have ht : true = true := hb; clear ht hb) | (have ht : false = false := hb; clear ht hb) | (simp only [hb]) | skip))
      | refine ev_call0 _ _ (by (simp only [go_sem, hdec, hx, hy, Bool.and_false, Bool.false_and, Bool.and_self, Int.reduceToNat]; rfl)) (by first | exact f33_spec ..) (by (simp only [go_sem, hdec, hx, hy, Bool.and_false, Bool.false_and, Bool.and_self, Int.reduceToNat])) _ (by (simp only [go_sem, hdec, hx, hy, Bool.and_false, Bool.false_and, Bool.and_self, Int.reduceToNat]; rfl)) ?_
      | refine ev_callC _ _ _ _ (by (simp only [go_sem, hdec, hx, hy, Bool.and_false, Bool.false_and, Bool.and_self, Int.reduceToNat]; rfl)) (by (simp only [go_sem, hdec, hx, hy, Bool.and_false, Bool.false_and, Bool.and_self, Int.reduceToNat]; rfl)) (by first | exact f33_spec ..) (by (simp only [go_sem, hdec, hx, hy, Bool.and_false, Bool.false_and, Bool.and_self, Int.reduceToNat])) _ (by (simp only [go_sem, hdec, hx, hy, Bool.and_false, Bool.false_and, Bool.and_self, Int.reduceToNat]; rfl)) ?_
      | (apply regD; (case hd => (simp only [List.map_cons, List.map_nil]; rfl)); (case hok => rfl); (case' h => (intro K hK; (repeat' first
        | (apply evd_nil; refine (hK _ ?_); clear hK K)
        | (apply evd_guardU0; (case hj => (simp only [go_sem, hdec, hx, hy, Bool.and_false, Bool.false_and, Bool.and_self, Int.reduceToNat]; try rfl)); (case hu => (simp only [go_sem, hdec, hx, hy, Bool.and_false, Bool.false_and, Bool.and_self, Int.reduceToNat])); (case hσ => (simp only [go_sem, hdec, hx, hy, Bool.and_false, Bool.false_and, Bool.and_self, Int.reduceToNat]; try rfl)))
        | (apply evd_skipT0; (case hj => (simp only [go_sem, hdec, hx, hy, Bool.and_false, Bool.false_and, Bool.and_self, Int.reduceToNat]; try rfl)); (case hb => (simp only [go_sem, hdec, hx, hy, Bool.and_false, Bool.false_and, Bool.and_self, Int.reduceToNat]; try rfl)); (case hσ => (simp only [go_sem, hdec, hx, hy, Bool.and_false, Bool.false_and, Bool.and_self, Int.reduceToNat]; try rfl)))
        | (apply evd_skipF0; (case hj => (simp only [go_sem, hdec, hx, hy, Bool.and_false, Bool.false_and, Bool.and_self, Int.reduceToNat]; try rfl)); (case hb => (simp only [go_sem, hdec, hx, hy, Bool.and_false, Bool.false_and, Bool.and_self, Int.reduceToNat]; try rfl)); (case hσ => (simp only [go_sem, hdec, hx, hy, Bool.and_false, Bool.false_and, Bool.and_self, Int.reduceToNat]; try rfl)))
        | (apply evd_guardU; (case hj => (simp only [go_sem, hdec, hx, hy, Bool.and_false, Bool.false_and, Bool.and_self, Int.reduceToNat]; try rfl)); (case hu => (simp only [go_sem, hdec, hx, hy, Bool.and_false, Bool.false_and, Bool.and_self, Int.reduceToNat])); (case hσ => (simp only [go_sem, hdec, hx, hy, Bool.and_false, Bool.false_and, Bool.and_self, Int.reduceToNat]; try rfl)))
        | (apply evd_skipT; (case hj => (simp only [go_sem, hdec, hx, hy, Bool.and_false, Bool.false_and, Bool.and_self, Int.reduceToNat]; try rfl)); (case hb => (simp only [go_sem, hdec, hx, hy, Bool.and_false, Bool.false_and, Bool.and_self, Int.reduceToNat]; try rfl)); (case hσ => (simp only [go_sem, hdec, hx, hy, Bool.and_false, Bool.false_and, Bool.and_self, Int.reduceToNat]; try rfl)))
        | (apply evd_skipF; (case hj => (simp only [go_sem, hdec, hx, hy, Bool.and_false, Bool.false_and, Bool.and_self, Int.reduceToNat]; try rfl)); (case hb => (simp only [go_sem, hdec, hx, hy, Bool.and_false, Bool.false_and, Bool.and_self, Int.reduceToNat]; try rfl)); (case hσ => (simp only [go_sem, hdec, hx, hy, Bool.and_false, Bool.false_and, Bool.and_self, Int.reduceToNat]; try rfl)))
        | (apply evd_guardT; (case hj => (simp only [go_sem, hdec, hx, hy, Bool.and_false, Bool.false_and, Bool.and_self, Int.reduceToNat]; try rfl)); (case hb => (simp only [go_sem, hdec, hx, hy, Bool.and_false, Bool.false_and, Bool.and_self, Int.reduceToNat]; try rfl)); (case' h2 => (intro hb; first | (cases hb; done) | (simp only [hb]) | skip)); (case' h1 => (intro hb; first | (cases hb; done) | (simp only [hb]) | skip)))
        | (apply evd_guardF; (case hj => (simp only [go_sem, hdec, hx, hy, Bool.and_false, Bool.false_and, Bool.and_self, Int.reduceToNat]; try rfl)); (case hb => (simp only [go_sem, hdec, hx, hy, Bool.and_false, Bool.false_and, Bool.and_self, Int.reduceToNat]; try rfl)); (case' h2 => (intro hb; first | (cases hb; done) | (simp only [hb]) | skip)); (case' h1 => (intro hb; first | (cases hb; done) | (simp only [hb]) | skip)))
        | (apply evd_call0; (case hi => (simp only [go_sem, hdec, hx, hy, Bool.and_false, Bool.false_and, Bool.and_self, Int.reduceToNat]; try rfl)); (case hys => (simp only [go_sem, hdec, hx, hy, Bool.and_false, Bool.false_and, Bool.and_self, Int.reduceToNat]; try rfl)); (case hs => first | exact f33_spec ..); (case hok => (simp only [go_sem, hdec, hx, hy, Bool.and_false, Bool.false_and, Bool.and_self, Int.reduceToNat])); (case hw => (simp only [go_sem, hdec, hx, hy, Bool.and_false, Bool.false_and, Bool.and_self, Int.reduceToNat]; try rfl)); (case hσ => (simp only [go_sem, hdec, hx, hy, Bool.and_false, Bool.false_and, Bool.and_self, Int.reduceToNat]; try rfl)))
        | (apply evd_callC; (case hf => (simp only [go_sem, hdec, hx, hy, Bool.and_false, Bool.false_and, Bool.and_self, Int.reduceToNat]; try rfl)); (case hi => (simp only [go_sem, hdec, hx, hy, Bool.and_false, Bool.false_and, Bool.and_self, Int.reduceToNat]; try rfl)); (case hys => (simp only [go_sem, hdec, hx, hy, Bool.and_false, Bool.false_and, Bool.and_self, Int.reduceToNat]; try rfl)); (case hs => first | exact f33_spec ..); (case hok => (simp only [go_sem, hdec, hx, hy, Bool.and_false, Bool.false_and, Bool.and_self, Int.reduceToNat])); (case hw => (simp only [go_sem, hdec, hx, hy, Bool.and_false, Bool.false_and, Bool.and_self, Int.reduceToNat]; try rfl)); (case hσ => (simp only [go_sem, hdec, hx, hy, Bool.and_false, Bool.false_and, Bool.and_self, Int.reduceToNat]; try rfl)))
        | (apply evd_step0; (case hr => (simp only [go_sem, hdec, hx, hy, Bool.and_false, Bool.false_and, Bool.and_self, Int.reduceToNat]; try rfl)); (case hi => (simp only [go_sem, hdec, hx, hy, Bool.and_false, Bool.false_and, Bool.and_self, Int.reduceToNat]; try rfl)); (case hc => (first | trivial | decide | (simp only [inB, sliceOk, appendOk, rowsOk]; omega) | (simp [inB, sliceOk, appendOk, rowsOk]; omega))); (case hσ => (simp only [go_sem, hdec, hx, hy, Bool.and_false, Bool.false_and, Bool.and_self, Int.reduceToNat]; try rfl)))
        | (apply evd_step; (case hr => (simp only [go_sem, hdec, hx, hy, Bool.and_false, Bool.false_and, Bool.and_self, Int.reduceToNat]; try rfl)); (case hi => (simp only [go_sem, hdec, hx, hy, Bool.and_false, Bool.false_and, Bool.and_self, Int.reduceToNat]; try rfl)); (case hc => (first | trivial | decide | (simp only [inB, sliceOk, appendOk, rowsOk]; omega) | (simp [inB, sliceOk, appendOk, rowsOk]; omega))); (case hw => (intro g u; simp only [go_sem, hdec, hx, hy, Bool.and_false, Bool.false_and, Bool.and_self, Int.reduceToNat]; try rfl)); (case hσ => (intro g u; simp only [go_sem, hdec, hx, hy, Bool.and_false, Bool.false_and, Bool.and_self, Int.reduceToNat]; try rfl)); (case' hk => (intro g u; (try clear u); (try clear g))))
        | fail))); (case hB => kernel_rfl))
      | refine ev_step0 _ _ (by (simp only [go_sem, hdec, hx, hy, Bool.and_false, Bool.false_and, Bool.and_self, Int.reduceToNat]; rfl)) (by (first | trivial | decide | (simp only [inB, sliceOk, appendOk, rowsOk]; omega) | (simp [inB, sliceOk, appendOk, rowsOk]; omega))) _ (by (simp only [go_sem, hdec, hx, hy, Bool.and_false, Bool.false_and, Bool.and_self, Int.reduceToNat]; rfl)) ?_
      | (refine ev_step _ (by (simp only [go_sem, hdec, hx, hy, Bool.and_false, Bool.false_and, Bool.and_self, Int.reduceToNat]; rfl)) (by (first | trivial | decide | (simp only [inB, sliceOk, appendOk, rowsOk]; omega) | (simp [inB, sliceOk, appendOk, rowsOk]; omega))) _ (fun g u => by (simp only [go_sem, hdec, hx, hy, Bool.and_false, Bool.false_and, Bool.and_self, Int.reduceToNat]; rfl)) ?_; intro g u; (try clear u); (try clear g))
      | fail
    refine Exists.intro (k + 1) ⟨by omega, by omega, ?_⟩
    simp only [hsk, r1, Bool.true_or, Bool.and_self]
    refine Wk.mk ?_ ?_
    all_goals (repeat' first | exact trivial | exact LeA.refl _ | exact LeA.any _ | exact LeO.refl _ | exact LeO.no _ | exact LeA.nil _ | (refine LeA.i ?_; (first | rfl | (push_cast; rfl) | (rw [wrap_id (by omega)]; push_cast; omega) | (simp [wrap_id]; omega))) | refine ⟨?_, ?_⟩)
  | false =>
  cases r2 : inCut y.2.1 x.1.1 x.1.2 with
  | true =>
    rw [r1] at hy
    repeat' first
      | refine awp_seq ?_
      | refine awp_block ?_
      | refine awp_skip ?_
      | (refine reg _ (by (simp only [List.map_cons, List.map_nil]; rfl)) rfl ?_; intro K hK)
      | (refine awp_cond _ (by rfl) ?_ ?_ <;> (intro hb; first | (cases hb; done) | (have ht : true = true := hb; clear ht hb) | (have ht : false = false := hb; clear ht hb) | (simp only [hb]) | skip))
      | (refine awp_exit ?_; simp only [thenA, blockA, reduceIte, RetQ, Nat.reduceEqDiff])
      | (refine awp_ret ?_; simp only [thenA, blockA, RetQ])
      | (refine ev_nil (hK _ ?_); clear hK K)
      | refine ev_guardU _ (by (simp only [go_sem, hdec, hx, hy, r2, Bool.and_false, Bool.false_and, Bool.and_self, Int.reduceToNat]; rfl)) (by (simp only [go_sem, hdec, hx, hy, r2, Bool.and_false, Bool.false_and, Bool.and_self, Int.reduceToNat]; rfl)) _ (by (simp only [go_sem, hdec, hx, hy, r2, Bool.and_false, Bool.false_and, Bool.and_self, Int.reduceToNat]; rfl)) ?_
      | (refine ev_guardT _ _ (by (simp only [go_sem, hdec, hx, hy, r2, Bool.and_false, Bool.false_and, Bool.and_self, Int.reduceToNat]; rfl)) (by (simp only [go_sem, hdec, hx, hy, r2, Bool.and_false, Bool.false_and, Bool.and_self, Int.reduceToNat]; rfl)) ?_ ?_ <;> (intro hb; first | (cases hb; done) | (have ht : true = true := hb; clear ht hb) | (have ht : false = false := hb; clear ht hb) | (simp only [hb]) | skip))
      | (refine ev_guardF _ _ (by (simp only [go_sem, hdec, hx, hy, r2, Bool.and_false, Bool.false_and, Bool.and_self, Int.reduceToNat]; rfl)) (by (simp only [go_sem, hdec, hx, hy, r2, Bool.and_false, Bool.false_and, Bool.and_self, Int.reduceToNat]; rfl)) ?_ ?_ <;> (intro hb; first | (cases hb; done) | (have ht : true = true := hb; clear ht hb) | (have ht : false = false := hb; clear ht hb) | (simp only [hb]) | skip))
      | refine ev_call0 _ _ (by (simp only [go_sem, hdec, hx, hy, r2, Bool.and_false, Bool.false_and, Bool.and_self, Int.reduceToNat]; rfl)) (by first | exact f33_spec ..) (by (simp only [go_sem, hdec, hx, hy, r2, Bool.and_false, Bool.false_and, Bool.and_self, Int.reduceToNat])) _ (by (simp only [go_sem, hdec, hx, hy, r2, Bool.and_false, Bool.false_and, Bool.and_self, Int.reduceToNat]; rfl)) ?_
      | refine ev_callC _ _ _ _ (by (simp only [go_sem, hdec, hx, hy, r2, Bool.and_false, Bool.false_and, Bool.and_self, Int.reduceToNat]; rfl)) (by (simp only [go_sem, hdec, hx, hy, r2, Bool.and_false, Bool.false_and, Bool.and_self, Int.reduceToNat]; rfl)) (by first | exact f33_spec ..) (by (simp only [go_sem, hdec, hx, hy, r2, Bool.and_false, Bool.false_and, Bool.and_self, Int.reduceToNat])) _ (by (simp only [go_sem, hdec, hx, hy, r2, Bool.and_false, Bool.false_and, Bool.and_self, Int.reduceToNat]; rfl)) ?_
      | (apply regD; (case hd => (simp only [List.map_cons, List.map_nil]; rfl)); (case hok => rfl); (case' h => (intro K hK; (repeat' first
        | (apply evd_nil; refine (hK _ ?_); clear hK K)
        | (apply evd_guardU0; (case hj => (simp only [go_sem, hdec, hx, hy, r2, Bool.and_false, Bool.false_and, Bool.and_self, Int.reduceToNat]; try rfl)); (case hu => (simp only [go_sem, hdec, hx, hy, r2, Bool.and_false, Bool.false_and, Bool.and_self, Int.reduceToNat])); (case hσ => (simp only [go_sem, hdec, hx, hy, r2, Bool.and_false, Bool.false_and, Bool.and_self, Int.reduceToNat]; try rfl)))
        | (apply evd_skipT0; (case hj => (simp only [go_sem, hdec, hx, hy, r2, Bool.and_false, Bool.false_and, Bool.and_self, Int.reduceToNat]; try rfl)); (case hb => (simp only [go_sem, hdec, hx, hy, r2, Bool.and_false, Bool.false_and, Bool.and_self, Int.reduceToNat]; try rfl)); (case hσ => (simp only [go_sem, hdec, hx, hy, r2, Bool.and_false, Bool.false_and, Bool.and_self, Int.reduceToNat]; try rfl)))
        | (apply evd_skipF0; (case hj => (simp only [go_sem, hdec, hx, hy, r2, Bool.and_false, Bool.false_and, Bool.and_self, Int.reduceToNat]; try rfl)); (case hb => (simp only [go_sem, hdec, hx, hy, r2, Bool.and_false, Bool.false_and, Bool.and_self, Int.reduceToNat]; try rfl)); (case hσ => (simp only [go_sem, hdec, hx, hy, r2, Bool.and_false, Bool.false_and, Bool.and_self, Int.reduceToNat]; try rfl)))
        | (apply evd_guardU; (case hj => (simp only [go_sem, hdec, hx, hy, r2, Bool.and_false, Bool.false_and, Bool.and_self, Int.reduceToNat]; try rfl)); (case hu => (simp only [go_sem, hdec, hx, hy, r2, Bool.and_false, Bool.false_and, Bool.and_self, Int.reduceToNat])); (case hσ => (simp only [go_sem, hdec, hx, hy, r2, Bool.and_false, Bool.false_and, Bool.and_self, Int.reduceToNat]; try rfl)))
        | (apply evd_skipT; (case hj => (simp only [go_sem, hdec, hx, hy, r2, Bool.and_false, Bool.false_and, Bool.and_self, Int.reduceToNat]; try rfl)); (case hb => (simp only [go_sem, hdec, hx, hy, r2, Bool.and_false, Bool.false_and, Bool.and_self, Int.reduceToNat]; try rfl)); (case hσ => (simp only [go_sem, hdec, hx, hy, r2, Bool.and_false, Bool.false_and, Bool.and_self, Int.reduceToNat]; try rfl)))
        | (apply evd_skipF; (case hj => (simp only [go_sem, hdec, hx, hy, r2, Bool.and_false, Bool.false_and, Bool.and_self, Int.reduceToNat]; try rfl)); (case hb => (simp only [go_sem, hdec, hx, hy, r2, Bool.and_false, Bool.false_and, Bool.and_self, Int.reduceToNat]; try rfl)); (case hσ => (simp only [go_sem, hdec, hx, hy, r2, Bool.and_false, Bool.false_and, Bool.and_self, Int.reduceToNat]; try rfl)))
        | (apply evd_guardT; (case hj => (simp only [go_sem, hdec, hx, hy, r2, Bool.and_false, Bool.false_and, Bool.and_self, Int.reduceToNat]; try rfl)); (case hb => (simp only [go_sem, hdec, hx, hy, r2, Bool.and_false, Bool.false_and, Bool.and_self, Int.reduceToNat]; try rfl)); (case' h2 => (intro hb; first | (cases hb; done) | (simp only [hb]) | skip)); (case' h1 => (intro hb; first | (cases hb; done) | (simp only [hb]) | skip)))
        | (apply evd_guardF; (case hj => (simp only [go_sem, hdec, hx, hy, r2, Bool.and_false, Bool.false_and, Bool.and_self, Int.reduceToNat]; try rfl)); (case hb => (simp only [go_sem, hdec, hx, hy, r2, Bool.and_false, Bool.false_and, Bool.and_self, Int.reduceToNat]; try rfl)); (case' h2 => (intro hb; first | (cases hb; done) | (simp only [hb]) | skip)); (case' h1 => (intro hb; first | (cases hb; done) | (simp only [hb]) | skip)))
        | (apply evd_call0; (case hi => (simp only [go_sem, hdec, hx, hy, r2, Bool.and_false, Bool.false_and, Bool.and_self, Int.reduceToNat]; try rfl)); (case hys => (simp only [go_sem, hdec, hx, hy, r2, Bool.and_false, Bool.false_and, Bool.and_self, Int.reduceToNat]; try rfl)); (case hs => first | exact f33_spec ..); (case hok => (simp only [go_sem, hdec, hx, hy, r2, Bool.and_false, Bool.false_and, Bool.and_self, Int.reduceToNat])); (case hw => (simp only [go_sem, hdec, hx, hy, r2, Bool.and_false, Bool.false_and, Bool.and_self, Int.reduceToNat]; try rfl)); (case hσ => (simp only [go_sem, hdec, hx, hy, r2, Bool.and_false, Bool.false_and, Bool.and_self, Int.reduceToNat]; try rfl)))
        | (apply evd_callC; (case hf => (simp only [go_sem, hdec, hx, hy, r2, Bool.and_false, Bool.false_and, Bool.and_self, Int.reduceToNat]; try rfl)); (case hi => (simp only [go_sem, hdec, hx, hy, r2, Bool.and_false, Bool.false_and, Bool.and_self, Int.reduceToNat]; try rfl)); (case hys => (simp only [go_sem, hdec, hx, hy, r2, Bool.and_false, Bool.false_and, Bool.and_self, Int.reduceToNat]; try rfl)); (case hs => first | exact f33_spec ..); (case hok => (simp only [go_sem, hdec, hx, hy, r2, Bool.and_false, Bool.false_and, Bool.and_self, Int.reduceToNat])); (case hw => (simp only [go_sem, hdec, hx, hy, r2, Bool.and_false, Bool.false_and, Bool.and_self, Int.reduceToNat]; try rfl)); (case hσ => (simp only [go_sem, hdec, hx, hy, r2, Bool.and_false, Bool.false_and, Bool.and_self, Int.reduceToNat]; try rfl)))
        | (apply evd_step0; (case hr => (simp only [go_sem, hdec, hx, hy, r2, Bool.and_false, Bool.false_and, Bool.and_self, Int.reduceToNat]; try rfl)); (case hi => (simp only [go_sem, hdec, hx, hy, r2, Bool.and_false, Bool.false_and, Bool.and_self, Int.reduceToNat]; try rfl)); (case hc => (first | trivial | decide | (simp only [inB, sliceOk, appendOk, rowsOk]; omega) | (simp [inB, sliceOk, appendOk, rowsOk]; omega))); (case hσ => (simp only [go_sem, hdec, hx, hy, r2, Bool.and_false, Bool.false_and, Bool.and_self, Int.reduceToNat]; try rfl)))
        | (apply evd_step; (case hr => (simp only [go_sem, hdec, hx, hy, r2, Bool.and_false, Bool.false_and, Bool.and_self, Int.reduceToNat]; try rfl)); (case hi => (simp only [go_sem, hdec, hx, hy, r2, Bool.and_false, Bool.false_and, Bool.and_self, Int.reduceToNat]; try rfl)); (case hc => (first | trivial | decide | (simp only [inB, sliceOk, appendOk, rowsOk]; omega) | (simp [inB, sliceOk, appendOk, rowsOk]; omega))); (case hw => (intro g u; simp only [go_sem, hdec, hx, hy, r2, Bool.and_false, Bool.false_and, Bool.and_self, Int.reduceToNat]; try rfl)); (case hσ => (intro g u; simp only [go_sem, hdec, hx, hy, r2, Bool.and_false, Bool.false_and, Bool.and_self, Int.reduceToNat]; try rfl)); (case' hk => (intro g u; (try clear u); (try clear g))))
        | fail))); (case hB => kernel_rfl))
      | refine ev_step0 _ _ (by (simp only [go_sem, hdec, hx, hy, r2, Bool.and_false, Bool.false_and, Bool.and_self, Int.reduceToNat]; rfl)) (by (first | trivial | decide | (simp only [inB, sliceOk, appendOk, rowsOk]; omega) | (simp [inB, sliceOk, appendOk, rowsOk]; omega))) _ (by (simp only [go_sem, hdec, hx, hy, r2, Bool.and_false, Bool.false_and, Bool.and_self, Int.reduceToNat]; rfl)) ?_
      | (refine ev_step _ (by (simp only [go_sem, hdec, hx, hy, r2, Bool.and_false, Bool.false_and, Bool.and_self, Int.reduceToNat]; rfl)) (by (first | trivial | decide | (simp only [inB, sliceOk, appendOk, rowsOk]; omega) | (simp [inB, sliceOk, appendOk, rowsOk]; omega))) _ (fun g u => by (simp only [go_sem, hdec, hx, hy, r2, Bool.and_false, Bool.false_and, Bool.and_self, Int.reduceToNat]; rfl)) ?_; intro g u; (try clear u); (try clear g))
      | fail
    refine Exists.intro (k + 1) ⟨by omega, by omega, ?_⟩
    simp only [hsk, r1, r2, Bool.not_true, Bool.or_self, Bool.and_false]
    refine Wk.mk ?_ ?_
    all_goals (repeat' first | exact trivial | exact LeA.refl _ | exact LeA.any _ | exact LeO.refl _ | exact LeO.no _ | exact LeA.nil _ | (refine LeA.i ?_; (first | rfl | (push_cast; rfl) | (rw [wrap_id (by omega)]; push_cast; omega) | (simp [wrap_id]; omega))) | refine ⟨?_, ?_⟩)
  | false =>
    rw [r1] at hy
    repeat' first
      | refine awp_seq ?_
      | refine awp_block ?_
      | refine awp_skip ?_
      | (refine reg _ (by (simp only [List.map_cons, List.map_nil]; rfl)) rfl ?_; intro K hK)
      | (refine awp_cond _ (by rfl) ?_ ?_ <;> (intro hb; first | (cases hb; done) | (have ht : true = true := hb; clear ht hb) | (have ht : false = false := hb; clear ht hb) | (simp only [hb]) | skip))
      | (refine awp_exit ?_; simp only [thenA, blockA, reduceIte, RetQ, Nat.reduceEqDiff])
      | (refine awp_ret ?_; simp only [thenA, blockA, RetQ])
      | (refine ev_nil (hK _ ?_); clear hK K)
      | refine ev_guardU _ (by (simp only [go_sem, hdec, hx, hy, r2, Bool.and_false, Bool.false_and, Bool.and_self, Int.reduceToNat]; rfl)) (by (simp only [go_sem, hdec, hx, hy, r2, Bool.and_false, Bool.false_and, Bool.and_self, Int.reduceToNat]; rfl)) _ (by (simp only [go_sem, hdec, hx, hy, r2, Bool.and_false, Bool.false_and, Bool.and_self, Int.reduceToNat]; rfl)) ?_
      | (refine ev_guardT _ _ (by (simp only [go_sem, hdec, hx, hy, r2, Bool.and_false, Bool.false_and, Bool.and_self, Int.reduceToNat]; rfl)) (by (simp only [go_sem, hdec, hx, hy, r2, Bool.and_false, Bool.false_and, Bool.and_self, Int.reduceToNat]; rfl)) ?_ ?_ <;> (intro hb; first | (cases hb; done) | (have ht : true = true := hb; clear ht hb) | (have ht : false = false := hb; clear ht hb) | (simp only [hb]) | skip))
      | (refine ev_guardF _ _ (by (simp only [go_sem, hdec, hx, hy, r2, Bool.and_false, Bool.false_and, Bool.and_self, Int.reduceToNat]; rfl)) (by (simp only [go_sem, hdec, hx, hy, r2, Bool.and_false, Bool.false_and, Bool.and_self, Int.reduceToNat]; rfl)) ?_ ?_ <;> (intro hb; first | (cases hb; done) | (have ht : true = true := hb; clear ht hb) | (have ht : false = false := hb; clear ht hb) | (simp only [hb]) | skip))
      | refine ev_call0 _ _ (by (simp only [go_sem, hdec, hx, hy, r2, Bool.and_false, Bool.false_and, Bool.and_self, Int.reduceToNat]; rfl)) (by first | exact f33_spec ..) (by (simp only [go_sem, hdec, hx, hy, r2, Bool.and_false, Bool.false_and, Bool.and_self, Int.reduceToNat])) _ (by (simp only [go_sem, hdec, hx, hy, r2, Bool.and_false, Bool.false_and, Bool.and_self, Int.reduceToNat]; rfl)) ?_
      | refine ev_callC _ _ _ _ (by (simp only [go_sem, hdec, hx, hy, r2, Bool.and_false, Bool.false_and, Bool.and_self, Int.reduceToNat]; rfl)) (by (simp only [go_sem, hdec, hx, hy, r2, Bool.and_false, Bool.false_and, Bool.and_self, Int.reduceToNat]; rfl)) (by first | exact f33_spec ..) (by (simp only [go_sem, hdec, hx, hy, r2, Bool.and_false, Bool.false_and, Bool.and_self, Int.reduceToNat])) _ (by (simp only [go_sem, hdec, hx, hy, r2, Bool.and_false, Bool.false_and, Bool.and_self, Int.reduceToNat]; rfl)) ?_
      | (apply regD; (case hd => (simp only [List.map_cons, List.map_nil]; rfl)); (case hok => rfl); (case' h => (intro K hK; (repeat' first
        | (apply evd_nil; refine (hK _ ?_); clear hK K)
        | (apply evd_guardU0; (case hj => (simp only [go_sem, hdec, hx, hy, r2, Bool.and_false, Bool.false_and, Bool.and_self, Int.reduceToNat]; try rfl)); (case hu => (simp only [go_sem, hdec, hx, hy, r2, Bool.and_false, Bool.false_and, Bool.and_self, Int.reduceToNat])); (case hσ => (simp only [go_sem, hdec, hx, hy, r2, Bool.and_false, Bool.false_and, Bool.and_self, Int.reduceToNat]; try rfl)))
        | (apply evd_skipT0; (case hj => (simp only [go_sem, hdec, hx, hy, r2, Bool.and_false, Bool.false_and, Bool.and_self, Int.reduceToNat]; try rfl)); (case hb => (simp only [go_sem, hdec, hx, hy, r2, Bool.and_false, Bool.false_and, Bool.and_self, Int.reduceToNat]; try rfl)); (case hσ => (simp only [go_sem, hdec, hx, hy, r2, Bool.and_false, Bool.false_and, Bool.and_self, Int.reduceToNat]; try rfl)))
        | (apply evd_skipF0; (case hj => (simp only [go_sem, hdec, hx, hy, r2, Bool.and_false, Bool.false_and, Bool.and_self, Int.reduceToNat]; try rfl)); (case hb => (simp only [go_sem, hdec, hx, hy, r2, Bool.and_false, Bool.false_and, Bool.and_self, Int.reduceToNat]; try rfl)); (case hσ => (simp only [go_sem, hdec, hx, hy, r2, Bool.and_false, Bool.false_and, Bool.and_self, Int.reduceToNat]; try rfl)))
        | (apply evd_guardU; (case hj => (simp only [go_sem, hdec, hx, hy, r2, Bool.and_false, Bool.false_and, Bool.and_self, Int.reduceToNat]; try rfl)); (case hu => (simp only [go_sem, hdec, hx, hy, r2, Bool.and_false, Bool.false_and, Bool.and_self, Int.reduceToNat])); (case hσ => (simp only [go_sem, hdec, hx, hy, r2, Bool.and_false, Bool.false_and, Bool.and_self, Int.reduceToNat]; try rfl)))
        | (apply evd_skipT; (case hj => (simp only [go_sem, hdec, hx, hy, r2, Bool.and_false, Bool.false_and, Bool.and_self, Int.reduceToNat]; try rfl)); (case hb => (simp only [go_sem, hdec, hx, hy, r2, Bool.and_false, Bool.false_and, Bool.and_self, Int.reduceToNat]; try rfl)); (case hσ => (simp only [go_sem, hdec, hx, hy, r2, Bool.and_false, Bool.false_and, Bool.and_self, Int.reduceToNat]; try rfl)))
        | (apply evd_skipF; (case hj => (simp only [go_sem, hdec, hx, hy, r2, Bool.and_false, Bool.false_and, Bool.and_self, Int.reduceToNat]; try rfl)); (case hb => (simp only [go_sem, hdec, hx, hy, r2, Bool.and_false, Bool.false_and, Bool.and_self, Int.reduceToNat]; try rfl)); (case hσ => (simp only [go_sem, hdec, hx, hy, r2, Bool.and_false, Bool.false_and, Bool.and_self, Int.reduceToNat]; try rfl)))
        | (apply evd_guardT; (case hj => (simp only [go_sem, hdec, hx, hy, r2, Bool.and_false, Bool.false_and, Bool.and_self, Int.reduceToNat]; try rfl)); (case hb => (simp only [go_sem, hdec, hx, hy, r2, Bool.and_false, Bool.false_and, Bool.and_self, Int.reduceToNat]; try rfl)); (case' h2 => (intro hb; first | (cases hb; done) | (simp only [hb]) | skip)); (case' h1 => (intro hb; first | (cases hb; done) | (simp only [hb]) | skip)))
        | (apply evd_guardF; (case hj => (simp only [go_sem, hdec, hx, hy, r2, Bool.and_false, Bool.false_and, Bool.and_self, Int.reduceToNat]; try rfl)); (case hb => (simp only [go_sem, hdec, hx, hy, r2, Bool.and_false, Bool.false_and, Bool.and_self, Int.reduceToNat]; try rfl)); (case' h2 => (intro hb; first | (cases hb; done) | (simp only [hb]) | skip)); (case' h1 => (intro hb; first | (cases hb; done) | (simp only [hb]) | skip)))
        | (apply evd_call0; (case hi => (simp only [go_sem, hdec, hx, hy, r2, Bool.and_false, Bool.false_and, Bool.and_self, Int.reduceToNat]; try rfl)); (case hys => (simp only [go_sem, hdec, hx, hy, r2, Bool.and_false, Bool.false_and, Bool.and_self, Int.reduceToNat]; try rfl)); (case hs => first | exact f33_spec ..); (case hok => (simp only [go_sem, hdec, hx, hy, r2, Bool.and_false, Bool.false_and, Bool.and_self, Int.reduceToNat])); (case hw => (simp only [go_sem, hdec, hx, hy, r2, Bool.and_false, Bool.false_and, Bool.and_self, Int.reduceToNat]; try rfl)); (case hσ => (simp only [go_sem, hdec, hx, hy, r2, Bool.and_false, Bool.false_and, Bool.and_self, Int.reduceToNat]; try rfl)))
        | (apply evd_callC; (case hf => (simp only [go_sem, hdec, hx, hy, r2, Bool.and_false, Bool.false_and, Bool.and_self, Int.reduceToNat]; try rfl)); (case hi => (simp only [go_sem, hdec, hx, hy, r2, Bool.and_false, Bool.false_and, Bool.and_self, Int.reduceToNat]; try rfl)); (case hys => (simp only [go_sem, hdec, hx, hy, r2, Bool.and_false, Bool.false_and, Bool.and_self, Int.reduceToNat]; try rfl)); (case hs => first | exact f33_spec ..); (case hok => (simp only [go_sem, hdec, hx, hy, r2, Bool.and_false, Bool.false_and, Bool.and_self, Int.reduceToNat])); (case hw => (simp only [go_sem, hdec, hx, hy, r2, Bool.and_false, Bool.false_and, Bool.and_self, Int.reduceToNat]; try rfl)); (case hσ => (simp only [go_sem, hdec, hx, hy, r2, Bool.and_false, Bool.false_and, Bool.and_self, Int.reduceToNat]; try rfl)))
        | (apply evd_step0; (case hr => (simp only [go_sem, hdec, hx, hy, r2, Bool.and_false, Bool.false_and, Bool.and_self, Int.reduceToNat]; try rfl)); (case hi => (simp only [go_sem, hdec, hx, hy, r2, Bool.and_false, Bool.false_and, Bool.and_self, Int.reduceToNat]; try rfl)); (case hc => (first | trivial | decide | (simp only [inB, sliceOk, appendOk, rowsOk]; omega) | (simp [inB, sliceOk, appendOk, rowsOk]; omega))); (case hσ => (simp only [go_sem, hdec, hx, hy, r2, Bool.and_false, Bool.false_and, Bool.and_self, Int.reduceToNat]; try rfl)))
        | (apply evd_step; (case hr => (simp only [go_sem, hdec, hx, hy, r2, Bool.and_false, Bool.false_and, Bool.and_self, Int.reduceToNat]; try rfl)); (case hi => (simp only [go_sem, hdec, hx, hy, r2, Bool.and_false, Bool.false_and, Bool.and_self, Int.reduceToNat]; try rfl)); (case hc => (first | trivial | decide | (simp only [inB, sliceOk, appendOk, rowsOk]; omega) | (simp [inB, sliceOk, appendOk, rowsOk]; omega))); (case hw => (intro g u; simp only [go_sem, hdec, hx, hy, r2, Bool.and_false, Bool.false_and, Bool.and_self, Int.reduceToNat]; try rfl)); (case hσ => (intro g u; simp only [go_sem, hdec, hx, hy, r2, Bool.and_false, Bool.false_and, Bool.and_self, Int.reduceToNat]; try rfl)); (case' hk => (intro g u; (try clear u); (try clear g))))
        | fail))); (case hB => kernel_rfl))
      | refine ev_step0 _ _ (by (simp only [go_sem, hdec, hx, hy, r2, Bool.and_false, Bool.false_and, Bool.and_self, Int.reduceToNat]; rfl)) (by (first | trivial | decide | (simp only [inB, sliceOk, appendOk, rowsOk]; omega) | (simp [inB, sliceOk, appendOk, rowsOk]; omega))) _ (by (simp only [go_sem, hdec, hx, hy, r2, Bool.and_false, Bool.false_and, Bool.and_self, Int.reduceToNat]; rfl)) ?_
      | (refine ev_step _ (by (simp only [go_sem, hdec, hx, hy, r2, Bool.and_false, Bool.false_and, Bool.and_self, Int.reduceToNat]; rfl)) (by (first | trivial | decide | (simp only [inB, sliceOk, appendOk, rowsOk]; omega) | (simp [inB, sliceOk, appendOk, rowsOk]; omega))) _ (fun g u => by (simp only [go_sem, hdec, hx, hy, r2, Bool.and_false, Bool.false_and, Bool.and_self, Int.reduceToNat]; rfl)) ?_; intro g u; (try clear u); (try clear g))
      | fail
    refine Exists.intro (k + 1) ⟨by omega, by omega, ?_⟩
    simp only [hsk, r1, r2, Bool.not_false, Bool.or_true, Bool.and_self]
    refine Wk.mk ?_ ?_
    all_goals (repeat' first | exact trivial | exact LeA.refl _ | exact LeA.any _ | exact LeO.refl _ | exact LeO.no _ | exact LeA.nil _ | (refine LeA.i ?_; (first | rfl | (push_cast; rfl) | (rw [wrap_id (by omega)]; push_cast; omega) | (simp [wrap_id]; omega))) | refine ⟨?_, ?_⟩)
end
section
set_option linter.unusedVariables false
set_option linter.unusedSimpArgs false
open Go.RowKit
theorem i64_of {n : Int} (h : (Lit.int .i64 n).wf = true) : -9223372036854775808 ≤ n ∧ n ≤ 9223372036854775807 := bounds_i64 h
theorem ty3 {f : Nat} {ds : List Dat} (h : tyR T (f + 1) 3 ds) : ∃ n : Int, ds = [.lit (.int .i64 n)] := by
  simp only [tyR, T3, ti3] at h
  obtain ⟨n, h1, _⟩ := h
  exact ⟨n, h1⟩
theorem ty5 {f : Nat} {ds : List Dat} (h : tyR T (f + 1) 5 ds) : ∃ n : Int, ds = [.lit (.int .u8 n)] ∧ 0 ≤ n ∧ n < 256 := by
  simp only [tyR, T5, ti5] at h
  obtain ⟨n, h1, h2⟩ := h
  have := bounds_u8 h2
  exact ⟨n, h1, by omega⟩
theorem ty4 {f : Nat} {ds : List Dat} (h : tyR T (f + 1) 4 ds) : ∃ b : Bool, ds = [.lit (.bool b)] := by
  simp only [tyR, T4, ti4] at h
  exact h
theorem two_of {ds : List Dat} {a b : Dat} (h1 : ds.take 1 = [a]) (h2 : (ds.drop 1).take 1 = [b]) (h3 : (ds.drop 1).drop 1 = []) : ds = [a, b] := by
  match ds, h1, h2, h3 with
  | [x, y], h1, h2, _ => simp at h1 h2; rw [h1, h2]
  | [], h1, _, _ => simp at h1
  | [_], _, h2, _ => simp at h2
  | _ :: _ :: _ :: _, _, _, h3 => simp at h3
theorem ty25 {f : Nat} {ds : List Dat} (h : tyR T (f + 2) 25 ds) : ∃ n : Nm, ds = [.lit (.int .i64 n.1), .lit (.int .i64 n.2)] := by
  rw [tyR] at h
  simp only [T25, ti25, T3, ti3, List.map_cons, List.map_nil, StructR] at h
  obtain ⟨h1, h2, h3⟩ := h
  obtain ⟨a, h1⟩ := ty3 h1
  obtain ⟨b, h2⟩ := ty3 h2
  exact ⟨(a, b), two_of h1 h2 h3⟩
theorem ty23 {f : Nat} {ds : List Dat} (h : tyR T (f + 3) 23 ds) : ∃ l : List Nm, ds = [nms l] := by
  rw [tyR] at h
  simp only [T23, ti23, T25, ti25] at h
  obtain ⟨rows, rfl, h⟩ := h
  obtain ⟨l, rfl, _⟩ := rows_of (f := fun n : Nm => [Dat.lit (.int .i64 n.1), .lit (.int .i64 n.2)]) (Q := fun _ => True) h fun r hr => by
    obtain ⟨n, h⟩ := ty25 hr
    exact ⟨n, h, trivial⟩
  exact ⟨l, rfl⟩
theorem ty22 {f : Nat} {ds : List Dat} (h : tyR T (f + 2) 22 ds) : ∃ b : List Int, ds = [bytesD b] ∧ ∀ x ∈ b, 0 ≤ x ∧ x < 256 := by
  rw [tyR] at h
  simp only [T22, ti22, T5, ti5] at h
  obtain ⟨rows, rfl, h⟩ := h
  obtain ⟨l, rfl, hl⟩ := rows_of (f := fun n : Int => [Dat.lit (.int .u8 n)]) (Q := fun x => 0 ≤ x ∧ x < 256) h fun r hr => ty5 hr
  exact ⟨l, rfl, hl⟩
theorem ty26 {f : Nat} {ds : List Dat} (h : tyR T (f + 2) 26 ds) : ∃ b : List Int, ds = [ints b] := by
  rw [tyR] at h
  simp only [T26, ti26, T3, ti3] at h
  obtain ⟨rows, rfl, h⟩ := h
  obtain ⟨l, rfl, hl⟩ := rows_of (f := fun n : Int => [Dat.lit (.int .i64 n)]) (Q := fun x => True) h fun r hr => by
    obtain ⟨n, h⟩ := ty3 hr
    exact ⟨n, h, trivial⟩
  exact ⟨l, rfl⟩
theorem ty62 {f : Nat} {ds : List Dat} (h : tyR T (f + 3) 62 ds) : ∃ b c : List Int, ds = [bytesD b, bytesD c] ∧ (∀ x ∈ b, 0 ≤ x ∧ x < 256) ∧ ∀ x ∈ c, 0 ≤ x ∧ x < 256 := by
  rw [tyR] at h
  simp only [T62, ti62, T22, ti22, List.replicate_succ, List.replicate_zero, StructR] at h
  obtain ⟨h1, h2, h3⟩ := h
  obtain ⟨b, h1, hb⟩ := ty22 h1
  obtain ⟨c, h2, hc⟩ := ty22 h2
  exact ⟨b, c, two_of h1 h2 h3, hb, hc⟩
theorem tyRs_one {f t : Nat} {ts : List Nat} {dss : List (List Dat)} (h : tyRs T f (t :: ts) dss) : ∃ ds r, dss = ds :: r ∧ tyR T f t ds ∧ tyRs T f ts r := by
  cases dss with
  | nil => exact h.elim
  | cons ds r => exact ⟨ds, r, rfl, h.1, h.2⟩
theorem tyRs_nil {f : Nat} {dss : List (List Dat)} (h : tyRs T f [] dss) : dss = [] := by
  cases dss with
  | nil => rfl
  | cons ds r => exact h.elim
end
section
set_option linter.unusedVariables false
set_option linter.unusedSimpArgs false
theorem law5_spec : ∀ dss, tyRs T 8 [22, 22, 22] dss → Spec Try.prog 5 (avTys T [22, 22, 22] dss) (.d (.lit (.bool true))) := by
  intro dss h
  obtain ⟨d0, r0, rfl, h0, h⟩ := tyRs_one h
  obtain ⟨d1, r1, rfl, h1, h⟩ := tyRs_one h
  obtain ⟨d2, r2, rfl, h2, h⟩ := tyRs_one h
  obtain rfl := tyRs_nil h
  obtain ⟨b0, rfl, hb0⟩ := ty22 h0
  obtain ⟨b1, rfl, hb1⟩ := ty22 h1
  obtain ⟨b2, rfl, hb2⟩ := ty22 h2
  have := f5_spec b0 b1 b2 hb0 hb1 hb2
  simp only [avTys, avTy, T22, ti22, List.map_cons, List.map_nil, List.headD_cons, if_true, Bool.false_eq_true, if_false]
  exact this
end
end Go.Proofs.Ytalbfikfbejnfaa.A
