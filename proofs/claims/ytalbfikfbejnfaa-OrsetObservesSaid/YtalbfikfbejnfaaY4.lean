/- Headers: the walk. Made: the changes of a history. Changes that commute; the changes of a history: plain law. The reference's Fold and Join. The reference's additions, folds and joins are the program's: plain law. GreatestIn, CutOf: the walks. Histories: their order, closed cuts: plain law. Replicas of closed cuts: plain law. An order of changes that bytes say: plain law. -/
import Derived.Test.YtalbfikfbejnfaaY3
import Derived.Test.YtalbfikfbejnfaaE2
namespace Go.Proofs.Ytalbfikfbejnfaa.A
attribute [local go_sem] Nat.reduceAdd Nat.reduceSub Nat.reduceMul Nat.reduceLT Nat.reduceLeDiff Nat.reduceEqDiff Nat.reduceBEq reduceIte reduceCtorEq e_step_none e_slotU e_slotB e_move e_assign e_pick e_unOp e_binOp e_alloc e_box e_build e_buildSlice e_load e_store e_fieldAddr e_field e_indexAddr e_index e_slice e_makeSlice e_makeFunc e_convert e_extract e_nilCheck e_len e_append e_max e_min e_call e_callV e_clo e_ev_tmp e_ev_int e_ev_bool e_ev_string e_ev_slice e_ev_nilFunc e_ev_nilIface e_ev_pointer e_ev_agg e_ev_func e_pickT e_pickF e_not e_neg e_add e_sub e_mul e_quo e_rem e_eql e_neq e_lss e_leq e_gtr e_geq e_beq e_bne e_sadd e_seql e_sneq e_b2_d e_b2_nil e_b2_nnil e_b2_agg e_lits_nil e_lits_cons e_litC e_eqR e_eqO_e e_eqO_n e_eqV4 e_eqV3 e_eqV2 e_eqV1 e_eqFs_nil e_eqFs_cons e_and2 e_eq1 e_eqL_i e_eqL_s e_eqL_b e_allocR e_boxR e_box_agg e_box_d e_box_own e_box_clo e_one_nil e_one_d e_one_own e_one_clo e_one_ptr e_cells_agg e_cells_d e_cells_own e_cells_clo e_cells_ptr e_ob_own e_ob_ptr e_ob_elo e_ob_d e_ob_el e_ob_agg e_load_box e_load_fzb e_load_el e_load_elo e_store_box e_storeB e_store_elo e_store_elo_agg e_storeE e_fa_ptr e_fa_el e_fa_elo e_faR e_fd e_fdR e_ia_d e_ia_row e_ia_fz e_ia_ptr e_ia_el e_ix_s e_ix_a e_len_s e_len_nil e_len_d e_len_row e_len_fz e_conv_i e_conv_s e_extr e_maxR e_minR e_nil_ptr e_nil_el e_nil_elo e_rows_nil e_rows_d e_rows_row e_rows_fz e_rok_nil e_rok_d e_rok_row e_rok_fz e_app_row e_appR e_app_nil e_appN e_make e_bnd_none e_bnd_some e_optmap_none e_optmap_some e_slR e_slRe e_sl_s e_sl_d e_sl_nil e_sl_row e_sl_fz e_fill_nil e_fill_cons e_fill1 e_placeS e_plS e_placeE e_buildO e_build1 e_build2 e_build3 e_bindD e_bs e_bsR e_allD_nil e_allD_cons e_allD1 e_chunk0 e_chunkS e_clP_nil e_clP_cons e_cl_d e_cl_any e_cl_el e_cl_agg e_cl_tup e_cl_clo e_cl_own e_clOwn_row e_clOwn_fz e_cl_ptr e_clPtr_box e_clBox e_clPtr_fzb e_clL_nil e_clL_cons e_ok_d e_ok_any e_ok_el e_ok_agg e_ok_tup e_ok_clo e_ok_own e_okOwn_row e_okOwn_fz e_ok_ptr e_okPtr_box e_okPtr_fzb e_okL_nil e_okL_cons e_ids_d e_ids_any e_ids_el e_ids_own e_ids_ptr e_ids_agg e_ids_tup e_ids_clo e_idsL_nil e_idsL_cons e_frz_nil e_frz_cons e_frz_row e_frz_fz e_frz_fzb e_frz_box e_frzB e_flat_lit e_flat_sl e_flat_agg e_flat_tup e_flat_any e_flat_clo e_flatL_nil e_flatL_cons e_objD e_setMany e_takeA e_zerosA e_gdL e_idsG e_idsOp e_callV' e_callF' e_o_move e_o_assign e_o_pick e_o_unOp e_o_binOp e_o_alloc e_o_box e_o_build e_o_buildSlice e_o_load e_o_store e_o_fieldAddr e_o_field e_o_indexAddr e_o_index e_o_slice0 e_o_slice1 e_o_slice2 e_o_slice3 e_o_makeSlice e_o_makeFunc e_o_convert e_o_extract e_o_nilCheck e_o_bcall e_o_vcall litI litB litS List.map_cons List.map_nil List.getD_cons_zero List.getD_cons_succ List.getD_nil List.getElem?_cons_zero List.getElem?_cons_succ List.getElem?_nil Option.getD_some Option.getD_none Option.map_some Option.map_none List.length_cons List.length_nil List.all_cons List.all_nil Bool.and_true Bool.true_and and_true true_and and_self
attribute [local go_sem] List.take_zero List.take_succ_cons List.drop_zero List.drop_succ_cons List.nil_append List.cons_append List.append_nil List.replicate_succ List.replicate_zero List.flatten_cons List.flatten_nil Nat.zero_add Nat.add_zero Nat.mul_one Nat.zero_mul Nat.one_mul Nat.mul_zero List.set_cons_zero List.set_cons_succ List.foldl_cons List.foldl_nil appendOk rowsOk inB sliceOk cutRows mtake mdrop List.length_append List.length_take List.length_drop if_true if_false or_false or_true true_or Bool.not_true Bool.not_false Bool.false_eq_true List.length_map Int.toNat_natCast Int.toNat_zero Int.toNat_one eq_self St.after St.put applyEff R0 T1 T2 T3 T4 T5 T6 T7 T8 T9 T10 T11 T12 T13 T14 T15 T16 T17 T18 T19 T20 T21 T22 T23 T24 T25 T26 T27 T28 T29 T30 T31 T32 T33 T34 T35 T36 T37 T38 T39 T40 T41 T42 T43 T44 T45 T46 T47 T48 T49 T50 T51 T52 T53 T54 T55 T56 T57 T58 T59 T60 T61 T62 T63 T64 T65 T66 T67 T68 T69 T70 T71 T72 T73 T74 T75 T76 T77 T78 T79 T80 T81 T82 T83 T84 T85 T86 T87 T88 T89 T90 T91 T92 T93 T94 T95 T96 T97 T98 T99 T100 T101 T102 T103 T105 T106 T107 T108 T109 T110 T111 T112 T113 T114 T117 T118 T119 T120 T121 T122 T123 T124 T125 T126 T127 T130 T131 T132 T133 T134 ti1 ti2 ti3 ti4 ti5 ti6 ti7 ti8 ti9 ti10 ti11 ti12 ti13 ti14 ti15 ti16 ti17 ti18 ti19 ti20 ti21 ti22 ti23 ti24 ti25 ti26 ti27 ti28 ti29 ti30 ti31 ti32 ti33 ti34 ti35 ti36 ti37 ti38 ti39 ti40 ti41 ti42 ti43 ti44 ti45 ti46 ti47 ti48 ti49 ti50 ti51 ti52 ti53 ti54 ti55 ti56 ti57 ti58 ti59 ti60 ti61 ti62 ti63 ti64 ti65 ti66 ti67 ti68 ti69 ti70 ti71 ti72 ti73 ti74 ti75 ti76 ti77 ti78 ti79 ti80 ti81 ti82 ti83 ti84 ti85 ti86 ti87 ti88 ti89 ti90 ti91 ti92 ti93 ti94 ti95 ti96 ti97 ti98 ti99 ti100 ti101 ti102 ti103 ti105 ti106 ti107 ti108 ti109 ti110 ti111 ti112 ti113 ti114 ti117 ti118 ti119 ti120 ti121 ti122 ti123 ti124 ti125 ti126 ti127 ti130 ti131 ti132 ti133 ti134
section
set_option linter.unusedVariables false
set_option linter.unusedSimpArgs false
open Go.RowKit
attribute [local irreducible] AWp evOps evD
theorem wrap_u8 {n : Int} (h : 0 ≤ n ∧ n < 256) : IntKind.u8.wrap n = n := by
  simp [IntKind.wrap, IntKind.bits, IntKind.signed]; omega
set_option maxHeartbeats 4000000 in
set_option maxRecDepth 4000 in
theorem f12_spec (b : List Int) (hb : ∀ x ∈ b, 0 ≤ x ∧ x < 256) : Spec Try.prog 12 [.d (bytesD b)] (.d (cms (hdrL b))) := by
  refine spec_of_awp (fn := Try.f12) Try.func12 (by kernel_rfl) rfl ?_
  intro w0 C0
  simp only [Try.ntmps12, litI, litB, litS, List.length_cons, List.length_nil, Nat.reduceAdd, Nat.reduceSub, List.replicate_succ, List.replicate_zero, List.cons_append, List.nil_append]
  repeat' first
    | refine awp_seq ?_
    | refine awp_block ?_
    | refine awp_skip ?_
    | (refine reg _ (by (simp only [List.map_cons, List.map_nil]; rfl)) rfl ?_; intro K hK)
    | (refine awp_cond _ (by rfl) ?_ ?_ <;> (intro hb; first | (cases hb; done) | (have ht : true = true := hb; clear ht hb) | (have ht : false = false := hb; clear ht hb) | (simp only [hb]) | skip))
    | (refine awp_exit ?_; simp only [thenA, blockA, reduceIte, RetQ, Nat.reduceEqDiff])
    | (refine awp_ret ?_; simp only [thenA, blockA, RetQ])
    | (refine ev_nil (hK _ ?_); clear hK K)
    | refine ev_guardU _ (by (simp only [go_sem]; rfl)) (by (simp only [go_sem]; rfl)) _ (by (simp only [go_sem]; rfl)) ?_
    | (refine ev_guardT _ _ (by (simp only [go_sem]; rfl)) (by (simp only [go_sem]; rfl)) ?_ ?_ <;> (intro hb; first | (cases hb; done) | (have ht : true = true := hb; clear ht hb) | (have ht : false = false := hb; clear ht hb) | (simp only [hb]) | skip))
    | (refine ev_guardF _ _ (by (simp only [go_sem]; rfl)) (by (simp only [go_sem]; rfl)) ?_ ?_ <;> (intro hb; first | (cases hb; done) | (have ht : true = true := hb; clear ht hb) | (have ht : false = false := hb; clear ht hb) | (simp only [hb]) | skip))
    | refine ev_call0 _ _ (by (simp only [go_sem]; rfl)) (by first | exact f44_val ..) (by (simp only [go_sem])) _ (by (simp only [go_sem]; rfl)) ?_
    | refine ev_callC _ _ _ _ (by (simp only [go_sem]; rfl)) (by (simp only [go_sem]; rfl)) (by first | exact f44_val ..) (by (simp only [go_sem])) _ (by (simp only [go_sem]; rfl)) ?_
    | refine ev_step0 _ _ (by (simp only [go_sem]; rfl)) (by (first | trivial | decide | (simp only [inB, sliceOk, appendOk, rowsOk]; omega) | (simp [inB, sliceOk, appendOk, rowsOk]; omega))) _ (by (simp only [go_sem]; rfl)) ?_
    | (refine ev_step _ (by (simp only [go_sem]; rfl)) (by (first | trivial | decide | (simp only [inB, sliceOk, appendOk, rowsOk]; omega) | (simp [inB, sliceOk, appendOk, rowsOk]; omega))) _ (fun g u => by (simp only [go_sem]; rfl)) ?_; intro g u; (try clear u); (try clear g))
    | fail
  rename_i ua
  refine awp_loopI (fun j : Nat × Value × Value => j.1 ≤ 12 ∧ j.1 ≤ b.length) (fun j => 12 - j.1) (fun j => ⟨[.d (bytesD b), .any, .d (.lit (.slice none 0 0)), .own 8 j.2.1, .own 12 j.2.2, litI .i64 j.1, .any, .any, .any, .any, .any, .any, .any, .any, .any, .any, .any, .any, .any, .any, .any, .any, .any, .any, .any, .any, .any, .any, .any, .any, .any, .any, .any, .any, .any, .any, .any, .any, .any, .any, .any, .any, .any, .any, .any, .any, .any, .any, .any, .any, .any, .any, .any, .any, .any, .any, .any, .any, .any, .any, .any, .any, .any, .any, .any, .any, .any, .any, .any, .any, .any, .any, .any, .any, .any, .any, .any, .any, .any, .any, .any, .any, .any, .any, .any], [.no, .no, .no, .no, .no, .no, .no, .no, .row j.2.1 79 5 ((hdrI b j.1).2.map fun c => [.lit (.int .i64 c.1.1), .lit (.int .i64 c.1.2), ints c.2, .lit (.int .i64 0), .lit (.slice none 0 0)]), .no, .no, .no, .row j.2.2 26 1 ((hdrI b j.1).1.map fun l => [ints l]), .no, .no, .no, .no, .no, .no, .no, .no, .no, .no, .no, .no, .no, .no, .no, .no, .no, .no, .no, .no, .no, .no, .no, .no, .no, .no, .no, .no, .no, .no, .no, .no, .no, .no, .no, .no, .no, .no, .no, .no, .no, .no, .no, .no, .no, .no, .no, .no, .no, .no, .no, .no, .no, .no, .no, .no, .no, .no, .no, .no, .no, .no, .no, .no, .no, .no, .no, .no, .no, .no, .no, .no]⟩) (0, ua, u) (by simp) ?_ ?_
  · refine Wk.mk ?_ ?_
    all_goals (repeat' first | exact trivial | exact LeA.refl _ | exact LeA.any _ | exact LeO.refl _ | exact LeO.no _ | exact LeA.nil _ | (refine LeA.i ?_; (first | rfl | (push_cast; rfl) | (rw [wrap_id (by omega)]; push_cast; omega) | (simp [wrap_id]; omega))) | refine ⟨?_, ?_⟩)
  rintro ⟨i, v, v2⟩ ⟨hi, hib⟩
  simp only [litI, litB] at hi hib ⊢
  by_cases hlt : i < b.length ∧ i < 12
  · have h1 : decide ((i : Int) < (b.length : Int)) = true := by simp; omega
    have h2 : decide ((i : Int) < 12) = true := by simp; omega
    have hx := bytes_at b hlt.1
    have hxr := hb _ (getD_mem' hlt.1 0)
    have hS := hdrI_succ b hlt.1
    have hok := hdrI_ok hb i (by omega) hib
    generalize b.getD i 0 = x at *
    generalize hdrI b i = a at *
    obtain ⟨K, o⟩ := a
    obtain ⟨s, t, hs, ht, e1, e2⟩ := byte_st hxr
    obtain ⟨hk3, hcut, hol, -⟩ := hok
    simp only at hk3 hcut hol
    have w3 : IntKind.u8.wrap (x.tdiv 3) = x.tdiv 3 := wrap_u8 (by rw [Int.tdiv_eq_ediv_of_nonneg hxr.1]; omega)
    have w9 : IntKind.u8.wrap (x.tdiv 9) = x.tdiv 9 := wrap_u8 (by rw [Int.tdiv_eq_ediv_of_nonneg hxr.1]; omega)
    have ws : IntKind.i64.wrap (s : Int) = s := wrap_id (by omega)
    have wt : IntKind.i64.wrap (t : Int) = t := wrap_id (by omega)
    have wi : IntKind.i64.wrap (((i + 1 : Nat) : Int) - 1) = i := by rw [show (((i + 1 : Nat) : Int) - 1) = i from by push_cast; omega]; exact wrap_id (by omega)
    have hgs := krow_at K (i := s) (by omega)
    have hgt := krow_at K (i := t) (by omega)
    have hcs := hcut _ (getD_mem' (i := s) (by omega) [])
    have hct := hcut _ (getD_mem' (i := t) (by omega) [])
    by_cases h9 : 0 < (x.tdiv 9).tmod 3
    · have h9' : decide ((x.tdiv 9).tmod 3 > 0) = true := decide_eq_true h9
      have hS' : hdrS (K, o) x = ((K.set s (joinL (K.getD s []) (K.getD t []))).set s (ownL ((K.set s (joinL (K.getD s []) (K.getD t []))).getD s []) ((s : Int), ((K.set s (joinL (K.getD s []) (K.getD t []))).getD s []).getD s 0 + 1)), o ++ [(((s : Int), ((K.set s (joinL (K.getD s []) (K.getD t []))).getD s []).getD s 0 + 1), (K.set s (joinL (K.getD s []) (K.getD t []))).getD s [])]) := by
        simp only [hdrS, e1, e2, Int.toNat_natCast, if_pos h9]
      rw [hS'] at hS
      have hJ := cutB_join hcs hct (by omega)
      have hset := krow_set K s (joinL (K.getD s []) (K.getD t []))
      have hgJ : (K.set s (joinL (K.getD s []) (K.getD t []))).getD s [] = joinL (K.getD s []) (K.getD t []) := by
        rw [List.getD_eq_getElem?_getD, List.getElem?_set_self (by omega)]; rfl
      rw [hgJ] at hS
      have hg1 := krow_at (K.set s (joinL (K.getD s []) (K.getD t []))) (i := s) (by rw [List.length_set]; omega)
      rw [hgJ] at hg1
      have hK1l : (K.set s (joinL (K.getD s []) (K.getD t []))).length = 3 := by rw [List.length_set]; exact hk3
      generalize hKs : K.getD s [] = ks at *
      generalize hKt : K.getD t [] = kt at *
      have f38 : Spec Try.prog 38 [.d (ints ks), .d (ints kt)] (.agg [.d (ints (joinL ks kt)), litI .i64 (joinE ks kt)]) := f38_spec ks kt
      generalize joinL ks kt = k at *
      generalize hK1 : K.set s k = K1 at *
      have h6 : k.length = 6 := hJ.1
      have hk := ints_at k (i := s) (by omega)
      have hkr := cutB_at hJ (i := s) (by omega)
      have hset2 := krow_set K1 s (ownL k ((s : Int), k.getD s 0 + 1))
      have h43 : Spec Try.prog 43 [.agg [litI .i64 s, litI .i64 (k.getD s 0 + 1), .d (ints k), litI .i64 0, .d (.lit (.slice none 0 0))]] (.d (ints (ownL k ((s : Int), k.getD s 0 + 1)))) := f43_spec ((s : Int), k.getD s 0 + 1) k (by omega) ⟨by show (0 : Int) ≤ s; omega, by show (s : Int) < k.length; omega⟩
      generalize k.getD s 0 = q at *
      have wq : IntKind.i64.wrap (q + 1) = q + 1 := wrap_id (by omega)
      have hap : ((o.map fun c => [Dat.lit (.int .i64 c.1.1), .lit (.int .i64 c.1.2), ints c.2, .lit (.int .i64 0), .lit (.slice none 0 0)]) ++ [[Dat.lit (.int .i64 s), .lit (.int .i64 (q + 1)), ints k, .lit (.int .i64 0), .lit (.slice none 0 0)]]).getD i [] = [Dat.lit (.int .i64 s), .lit (.int .i64 (q + 1)), ints k, .lit (.int .i64 0), .lit (.slice none 0 0)] := by
        rw [List.getD_eq_getElem?_getD, List.getElem?_append_right (by simp [hol])]
        simp [hol]
      repeat' first
        | refine awp_seq ?_
        | refine awp_block ?_
        | refine awp_skip ?_
        | (refine reg _ (by (simp only [List.map_cons, List.map_nil]; rfl)) rfl ?_; intro K hK)
        | (refine awp_cond _ (by rfl) ?_ ?_ <;> (intro hb; first | (cases hb; done) | (have ht : true = true := hb; clear ht hb) | (have ht : false = false := hb; clear ht hb) | (simp only [hb]) | skip))
        | (refine awp_exit ?_; simp only [thenA, blockA, reduceIte, RetQ, Nat.reduceEqDiff])
        | (refine awp_ret ?_; simp only [thenA, blockA, RetQ])
        | (refine ev_nil (hK _ ?_); clear hK K)
        | refine ev_guardU _ (by (simp only [go_sem, h1, h2, hx, e1, e2, w3, w9, ws, wt, wi, h9', hgs, hgt, hg1, hk, wq, hap, hset, hol]; rfl)) (by (simp only [go_sem, h1, h2, hx, e1, e2, w3, w9, ws, wt, wi, h9', hgs, hgt, hg1, hk, wq, hap, hset, hol]; rfl)) _ (by (simp only [go_sem, h1, h2, hx, e1, e2, w3, w9, ws, wt, wi, h9', hgs, hgt, hg1, hk, wq, hap, hset, hol]; rfl)) ?_
        | (refine ev_guardT _ _ (by (simp only [go_sem, h1, h2, hx, e1, e2, w3, w9, ws, wt, wi, h9', hgs, hgt, hg1, hk, wq, hap, hset, hol]; rfl)) (by (simp only [go_sem, h1, h2, hx, e1, e2, w3, w9, ws, wt, wi, h9', hgs, hgt, hg1, hk, wq, hap, hset, hol]; rfl)) ?_ ?_ <;> (intro hb; first | (cases hb; done) | (have ht : true = true := hb; clear ht hb) | (have ht : false = false := hb; clear ht hb) | (simp only [hb]) | skip))
        | (refine ev_guardF _ _ (by (simp only [go_sem, h1, h2, hx, e1, e2, w3, w9, ws, wt, wi, h9', hgs, hgt, hg1, hk, wq, hap, hset, hol]; rfl)) (by (simp only [go_sem, h1, h2, hx, e1, e2, w3, w9, ws, wt, wi, h9', hgs, hgt, hg1, hk, wq, hap, hset, hol]; rfl)) ?_ ?_ <;> (intro hb; first | (cases hb; done) | (have ht : true = true := hb; clear ht hb) | (have ht : false = false := hb; clear ht hb) | (simp only [hb]) | skip))
        | refine ev_call0 _ _ (by (simp only [go_sem, h1, h2, hx, e1, e2, w3, w9, ws, wt, wi, h9', hgs, hgt, hg1, hk, wq, hap, hset, hol]; rfl)) (by first | exact f38 .. | exact h43 ..) (by (simp only [go_sem, h1, h2, hx, e1, e2, w3, w9, ws, wt, wi, h9', hgs, hgt, hg1, hk, wq, hap, hset, hol])) _ (by (simp only [go_sem, h1, h2, hx, e1, e2, w3, w9, ws, wt, wi, h9', hgs, hgt, hg1, hk, wq, hap, hset, hol]; rfl)) ?_
        | refine ev_callC _ _ _ _ (by (simp only [go_sem, h1, h2, hx, e1, e2, w3, w9, ws, wt, wi, h9', hgs, hgt, hg1, hk, wq, hap, hset, hol]; rfl)) (by (simp only [go_sem, h1, h2, hx, e1, e2, w3, w9, ws, wt, wi, h9', hgs, hgt, hg1, hk, wq, hap, hset, hol]; rfl)) (by first | exact f38 .. | exact h43 ..) (by (simp only [go_sem, h1, h2, hx, e1, e2, w3, w9, ws, wt, wi, h9', hgs, hgt, hg1, hk, wq, hap, hset, hol])) _ (by (simp only [go_sem, h1, h2, hx, e1, e2, w3, w9, ws, wt, wi, h9', hgs, hgt, hg1, hk, wq, hap, hset, hol]; rfl)) ?_
        | (apply regD; (case hd => (simp only [List.map_cons, List.map_nil]; rfl)); (case hok => rfl); (case' h => (intro K hK; (repeat' first
        | (apply evd_nil; refine (hK _ ?_); clear hK K)
        | (apply evd_guardU0; (case hj => (simp only [go_sem, h1, h2, hx, e1, e2, w3, w9, ws, wt, wi, h9', hgs, hgt, hg1, hk, wq, hap, hset, hol]; try rfl)); (case hu => (simp only [go_sem, h1, h2, hx, e1, e2, w3, w9, ws, wt, wi, h9', hgs, hgt, hg1, hk, wq, hap, hset, hol])); (case hσ => (simp only [go_sem, h1, h2, hx, e1, e2, w3, w9, ws, wt, wi, h9', hgs, hgt, hg1, hk, wq, hap, hset, hol]; try rfl)))
        | (apply evd_skipT0; (case hj => (simp only [go_sem, h1, h2, hx, e1, e2, w3, w9, ws, wt, wi, h9', hgs, hgt, hg1, hk, wq, hap, hset, hol]; try rfl)); (case hb => (simp only [go_sem, h1, h2, hx, e1, e2, w3, w9, ws, wt, wi, h9', hgs, hgt, hg1, hk, wq, hap, hset, hol]; try rfl)); (case hσ => (simp only [go_sem, h1, h2, hx, e1, e2, w3, w9, ws, wt, wi, h9', hgs, hgt, hg1, hk, wq, hap, hset, hol]; try rfl)))
        | (apply evd_skipF0; (case hj => (simp only [go_sem, h1, h2, hx, e1, e2, w3, w9, ws, wt, wi, h9', hgs, hgt, hg1, hk, wq, hap, hset, hol]; try rfl)); (case hb => (simp only [go_sem, h1, h2, hx, e1, e2, w3, w9, ws, wt, wi, h9', hgs, hgt, hg1, hk, wq, hap, hset, hol]; try rfl)); (case hσ => (simp only [go_sem, h1, h2, hx, e1, e2, w3, w9, ws, wt, wi, h9', hgs, hgt, hg1, hk, wq, hap, hset, hol]; try rfl)))
        | (apply evd_guardU; (case hj => (simp only [go_sem, h1, h2, hx, e1, e2, w3, w9, ws, wt, wi, h9', hgs, hgt, hg1, hk, wq, hap, hset, hol]; try rfl)); (case hu => (simp only [go_sem, h1, h2, hx, e1, e2, w3, w9, ws, wt, wi, h9', hgs, hgt, hg1, hk, wq, hap, hset, hol])); (case hσ => (simp only [go_sem, h1, h2, hx, e1, e2, w3, w9, ws, wt, wi, h9', hgs, hgt, hg1, hk, wq, hap, hset, hol]; try rfl)))
        | (apply evd_skipT; (case hj => (simp only [go_sem, h1, h2, hx, e1, e2, w3, w9, ws, wt, wi, h9', hgs, hgt, hg1, hk, wq, hap, hset, hol]; try rfl)); (case hb => (simp only [go_sem, h1, h2, hx, e1, e2, w3, w9, ws, wt, wi, h9', hgs, hgt, hg1, hk, wq, hap, hset, hol]; try rfl)); (case hσ => (simp only [go_sem, h1, h2, hx, e1, e2, w3, w9, ws, wt, wi, h9', hgs, hgt, hg1, hk, wq, hap, hset, hol]; try rfl)))
        | (apply evd_skipF; (case hj => (simp only [go_sem, h1, h2, hx, e1, e2, w3, w9, ws, wt, wi, h9', hgs, hgt, hg1, hk, wq, hap, hset, hol]; try rfl)); (case hb => (simp only [go_sem, h1, h2, hx, e1, e2, w3, w9, ws, wt, wi, h9', hgs, hgt, hg1, hk, wq, hap, hset, hol]; try rfl)); (case hσ => (simp only [go_sem, h1, h2, hx, e1, e2, w3, w9, ws, wt, wi, h9', hgs, hgt, hg1, hk, wq, hap, hset, hol]; try rfl)))
        | (apply evd_guardT; (case hj => (simp only [go_sem, h1, h2, hx, e1, e2, w3, w9, ws, wt, wi, h9', hgs, hgt, hg1, hk, wq, hap, hset, hol]; try rfl)); (case hb => (simp only [go_sem, h1, h2, hx, e1, e2, w3, w9, ws, wt, wi, h9', hgs, hgt, hg1, hk, wq, hap, hset, hol]; try rfl)); (case' h2 => (intro hb; first | (cases hb; done) | (simp only [hb]) | skip)); (case' h1 => (intro hb; first | (cases hb; done) | (simp only [hb]) | skip)))
        | (apply evd_guardF; (case hj => (simp only [go_sem, h1, h2, hx, e1, e2, w3, w9, ws, wt, wi, h9', hgs, hgt, hg1, hk, wq, hap, hset, hol]; try rfl)); (case hb => (simp only [go_sem, h1, h2, hx, e1, e2, w3, w9, ws, wt, wi, h9', hgs, hgt, hg1, hk, wq, hap, hset, hol]; try rfl)); (case' h2 => (intro hb; first | (cases hb; done) | (simp only [hb]) | skip)); (case' h1 => (intro hb; first | (cases hb; done) | (simp only [hb]) | skip)))
        | (apply evd_call0; (case hi => (simp only [go_sem, h1, h2, hx, e1, e2, w3, w9, ws, wt, wi, h9', hgs, hgt, hg1, hk, wq, hap, hset, hol]; try rfl)); (case hys => (simp only [go_sem, h1, h2, hx, e1, e2, w3, w9, ws, wt, wi, h9', hgs, hgt, hg1, hk, wq, hap, hset, hol]; try rfl)); (case hs => first | exact f38 .. | exact h43 ..); (case hok => (simp only [go_sem, h1, h2, hx, e1, e2, w3, w9, ws, wt, wi, h9', hgs, hgt, hg1, hk, wq, hap, hset, hol])); (case hw => (simp only [go_sem, h1, h2, hx, e1, e2, w3, w9, ws, wt, wi, h9', hgs, hgt, hg1, hk, wq, hap, hset, hol]; try rfl)); (case hσ => (simp only [go_sem, h1, h2, hx, e1, e2, w3, w9, ws, wt, wi, h9', hgs, hgt, hg1, hk, wq, hap, hset, hol]; try rfl)))
        | (apply evd_callC; (case hf => (simp only [go_sem, h1, h2, hx, e1, e2, w3, w9, ws, wt, wi, h9', hgs, hgt, hg1, hk, wq, hap, hset, hol]; try rfl)); (case hi => (simp only [go_sem, h1, h2, hx, e1, e2, w3, w9, ws, wt, wi, h9', hgs, hgt, hg1, hk, wq, hap, hset, hol]; try rfl)); (case hys => (simp only [go_sem, h1, h2, hx, e1, e2, w3, w9, ws, wt, wi, h9', hgs, hgt, hg1, hk, wq, hap, hset, hol]; try rfl)); (case hs => first | exact f38 .. | exact h43 ..); (case hok => (simp only [go_sem, h1, h2, hx, e1, e2, w3, w9, ws, wt, wi, h9', hgs, hgt, hg1, hk, wq, hap, hset, hol])); (case hw => (simp only [go_sem, h1, h2, hx, e1, e2, w3, w9, ws, wt, wi, h9', hgs, hgt, hg1, hk, wq, hap, hset, hol]; try rfl)); (case hσ => (simp only [go_sem, h1, h2, hx, e1, e2, w3, w9, ws, wt, wi, h9', hgs, hgt, hg1, hk, wq, hap, hset, hol]; try rfl)))
        | (apply evd_step0; (case hr => (simp only [go_sem, h1, h2, hx, e1, e2, w3, w9, ws, wt, wi, h9', hgs, hgt, hg1, hk, wq, hap, hset, hol]; try rfl)); (case hi => (simp only [go_sem, h1, h2, hx, e1, e2, w3, w9, ws, wt, wi, h9', hgs, hgt, hg1, hk, wq, hap, hset, hol]; try rfl)); (case hc => (first | trivial | decide | (simp only [inB, sliceOk, appendOk, rowsOk]; omega) | (simp [inB, sliceOk, appendOk, rowsOk]; omega))); (case hσ => (simp only [go_sem, h1, h2, hx, e1, e2, w3, w9, ws, wt, wi, h9', hgs, hgt, hg1, hk, wq, hap, hset, hol]; try rfl)))
        | (apply evd_step; (case hr => (simp only [go_sem, h1, h2, hx, e1, e2, w3, w9, ws, wt, wi, h9', hgs, hgt, hg1, hk, wq, hap, hset, hol]; try rfl)); (case hi => (simp only [go_sem, h1, h2, hx, e1, e2, w3, w9, ws, wt, wi, h9', hgs, hgt, hg1, hk, wq, hap, hset, hol]; try rfl)); (case hc => (first | trivial | decide | (simp only [inB, sliceOk, appendOk, rowsOk]; omega) | (simp [inB, sliceOk, appendOk, rowsOk]; omega))); (case hw => (intro g u; simp only [go_sem, h1, h2, hx, e1, e2, w3, w9, ws, wt, wi, h9', hgs, hgt, hg1, hk, wq, hap, hset, hol]; try rfl)); (case hσ => (intro g u; simp only [go_sem, h1, h2, hx, e1, e2, w3, w9, ws, wt, wi, h9', hgs, hgt, hg1, hk, wq, hap, hset, hol]; try rfl)); (case' hk => (intro g u; (try clear u); (try clear g))))
        | fail))); (case hB => kernel_rfl))
        | refine ev_step0 _ _ (by (simp only [go_sem, h1, h2, hx, e1, e2, w3, w9, ws, wt, wi, h9', hgs, hgt, hg1, hk, wq, hap, hset, hol]; rfl)) (by (first | trivial | decide | (simp only [inB, sliceOk, appendOk, rowsOk]; omega) | (simp [inB, sliceOk, appendOk, rowsOk]; omega))) _ (by (simp only [go_sem, h1, h2, hx, e1, e2, w3, w9, ws, wt, wi, h9', hgs, hgt, hg1, hk, wq, hap, hset, hol]; rfl)) ?_
        | (refine ev_step _ (by (simp only [go_sem, h1, h2, hx, e1, e2, w3, w9, ws, wt, wi, h9', hgs, hgt, hg1, hk, wq, hap, hset, hol]; rfl)) (by (first | trivial | decide | (simp only [inB, sliceOk, appendOk, rowsOk]; omega) | (simp [inB, sliceOk, appendOk, rowsOk]; omega))) _ (fun g u => by (simp only [go_sem, h1, h2, hx, e1, e2, w3, w9, ws, wt, wi, h9', hgs, hgt, hg1, hk, wq, hap, hset, hol]; rfl)) ?_; intro g u; (try clear u); (try clear g))
        | fail
      refine Exists.intro (i + 1, u, v2) ⟨⟨by show i + 1 ≤ 12; omega, by show i + 1 ≤ b.length; omega⟩, by show 12 - (i + 1) < 12 - i; omega, ?_⟩
      simp only [hS, hset2, List.map_append, List.map_cons, List.map_nil]
      refine Wk.mk ?_ ?_
      all_goals (repeat' first | exact trivial | exact LeA.refl _ | exact LeA.any _ | exact LeO.refl _ | exact LeO.no _ | exact LeA.nil _ | (refine LeA.i ?_; (first | rfl | (push_cast; rfl) | (rw [wrap_id (by omega)]; push_cast; omega) | (simp [wrap_id]; omega))) | refine ⟨?_, ?_⟩)
    · have h9' : decide ((x.tdiv 9).tmod 3 > 0) = false := decide_eq_false h9
      have hS' : hdrS (K, o) x = (K.set s (ownL (K.getD s []) ((s : Int), (K.getD s []).getD s 0 + 1)), o ++ [(((s : Int), (K.getD s []).getD s 0 + 1), K.getD s [])]) := by
        simp only [hdrS, e1, e2, Int.toNat_natCast, if_neg h9]
      rw [hS'] at hS
      generalize hKs : K.getD s [] = k at *
      have h6 : k.length = 6 := hcs.1
      have hk := ints_at k (i := s) (by omega)
      have hkr := cutB_at hcs (i := s) (by omega)
      have hset2 := krow_set K s (ownL k ((s : Int), k.getD s 0 + 1))
      have h43 : Spec Try.prog 43 [.agg [litI .i64 s, litI .i64 (k.getD s 0 + 1), .d (ints k), litI .i64 0, .d (.lit (.slice none 0 0))]] (.d (ints (ownL k ((s : Int), k.getD s 0 + 1)))) := f43_spec ((s : Int), k.getD s 0 + 1) k (by omega) ⟨by show (0 : Int) ≤ s; omega, by show (s : Int) < k.length; omega⟩
      generalize k.getD s 0 = q at *
      have wq : IntKind.i64.wrap (q + 1) = q + 1 := wrap_id (by omega)
      have hap : ((o.map fun c => [Dat.lit (.int .i64 c.1.1), .lit (.int .i64 c.1.2), ints c.2, .lit (.int .i64 0), .lit (.slice none 0 0)]) ++ [[Dat.lit (.int .i64 s), .lit (.int .i64 (q + 1)), ints k, .lit (.int .i64 0), .lit (.slice none 0 0)]]).getD i [] = [Dat.lit (.int .i64 s), .lit (.int .i64 (q + 1)), ints k, .lit (.int .i64 0), .lit (.slice none 0 0)] := by
        rw [List.getD_eq_getElem?_getD, List.getElem?_append_right (by simp [hol])]
        simp [hol]
      repeat' first
        | refine awp_seq ?_
        | refine awp_block ?_
        | refine awp_skip ?_
        | (refine reg _ (by (simp only [List.map_cons, List.map_nil]; rfl)) rfl ?_; intro K hK)
        | (refine awp_cond _ (by rfl) ?_ ?_ <;> (intro hb; first | (cases hb; done) | (have ht : true = true := hb; clear ht hb) | (have ht : false = false := hb; clear ht hb) | (simp only [hb]) | skip))
        | (refine awp_exit ?_; simp only [thenA, blockA, reduceIte, RetQ, Nat.reduceEqDiff])
        | (refine awp_ret ?_; simp only [thenA, blockA, RetQ])
        | (refine ev_nil (hK _ ?_); clear hK K)
        | refine ev_guardU _ (by (simp only [go_sem, h1, h2, hx, e1, e2, w3, w9, ws, wt, wi, h9', hgs, hk, wq, hap, hol]; rfl)) (by (simp only [go_sem, h1, h2, hx, e1, e2, w3, w9, ws, wt, wi, h9', hgs, hk, wq, hap, hol]; rfl)) _ (by (simp only [go_sem, h1, h2, hx, e1, e2, w3, w9, ws, wt, wi, h9', hgs, hk, wq, hap, hol]; rfl)) ?_
        | (refine ev_guardT _ _ (by (simp only [go_sem, h1, h2, hx, e1, e2, w3, w9, ws, wt, wi, h9', hgs, hk, wq, hap, hol]; rfl)) (by (simp only [go_sem, h1, h2, hx, e1, e2, w3, w9, ws, wt, wi, h9', hgs, hk, wq, hap, hol]; rfl)) ?_ ?_ <;> (intro hb; first | (cases hb; done) | (have ht : true = true := hb; clear ht hb) | (have ht : false = false := hb; clear ht hb) | (simp only [hb]) | skip))
        | (refine ev_guardF _ _ (by (simp only [go_sem, h1, h2, hx, e1, e2, w3, w9, ws, wt, wi, h9', hgs, hk, wq, hap, hol]; rfl)) (by (simp only [go_sem, h1, h2, hx, e1, e2, w3, w9, ws, wt, wi, h9', hgs, hk, wq, hap, hol]; rfl)) ?_ ?_ <;> (intro hb; first | (cases hb; done) | (have ht : true = true := hb; clear ht hb) | (have ht : false = false := hb; clear ht hb) | (simp only [hb]) | skip))
        | refine ev_call0 _ _ (by (simp only [go_sem, h1, h2, hx, e1, e2, w3, w9, ws, wt, wi, h9', hgs, hk, wq, hap, hol]; rfl)) (by first | exact h43 ..) (by (simp only [go_sem, h1, h2, hx, e1, e2, w3, w9, ws, wt, wi, h9', hgs, hk, wq, hap, hol])) _ (by (simp only [go_sem, h1, h2, hx, e1, e2, w3, w9, ws, wt, wi, h9', hgs, hk, wq, hap, hol]; rfl)) ?_
        | refine ev_callC _ _ _ _ (by (simp only [go_sem, h1, h2, hx, e1, e2, w3, w9, ws, wt, wi, h9', hgs, hk, wq, hap, hol]; rfl)) (by (simp only [go_sem, h1, h2, hx, e1, e2, w3, w9, ws, wt, wi, h9', hgs, hk, wq, hap, hol]; rfl)) (by first | exact h43 ..) (by (simp only [go_sem, h1, h2, hx, e1, e2, w3, w9, ws, wt, wi, h9', hgs, hk, wq, hap, hol])) _ (by (simp only [go_sem, h1, h2, hx, e1, e2, w3, w9, ws, wt, wi, h9', hgs, hk, wq, hap, hol]; rfl)) ?_
        | (apply regD; (case hd => (simp only [List.map_cons, List.map_nil]; rfl)); (case hok => rfl); (case' h => (intro K hK; (repeat' first
        | (apply evd_nil; refine (hK _ ?_); clear hK K)
        | (apply evd_guardU0; (case hj => (simp only [go_sem, h1, h2, hx, e1, e2, w3, w9, ws, wt, wi, h9', hgs, hk, wq, hap, hol]; try rfl)); (case hu => (simp only [go_sem, h1, h2, hx, e1, e2, w3, w9, ws, wt, wi, h9', hgs, hk, wq, hap, hol])); (case hσ => (simp only [go_sem, h1, h2, hx, e1, e2, w3, w9, ws, wt, wi, h9', hgs, hk, wq, hap, hol]; try rfl)))
        | (apply evd_skipT0; (case hj => (simp only [go_sem, h1, h2, hx, e1, e2, w3, w9, ws, wt, wi, h9', hgs, hk, wq, hap, hol]; try rfl)); (case hb => (simp only [go_sem, h1, h2, hx, e1, e2, w3, w9, ws, wt, wi, h9', hgs, hk, wq, hap, hol]; try rfl)); (case hσ => (simp only [go_sem, h1, h2, hx, e1, e2, w3, w9, ws, wt, wi, h9', hgs, hk, wq, hap, hol]; try rfl)))
        | (apply evd_skipF0; (case hj => (simp only [go_sem, h1, h2, hx, e1, e2, w3, w9, ws, wt, wi, h9', hgs, hk, wq, hap, hol]; try rfl)); (case hb => (simp only [go_sem, h1, h2, hx, e1, e2, w3, w9, ws, wt, wi, h9', hgs, hk, wq, hap, hol]; try rfl)); (case hσ => (simp only [go_sem, h1, h2, hx, e1, e2, w3, w9, ws, wt, wi, h9', hgs, hk, wq, hap, hol]; try rfl)))
        | (apply evd_guardU; (case hj => (simp only [go_sem, h1, h2, hx, e1, e2, w3, w9, ws, wt, wi, h9', hgs, hk, wq, hap, hol]; try rfl)); (case hu => (simp only [go_sem, h1, h2, hx, e1, e2, w3, w9, ws, wt, wi, h9', hgs, hk, wq, hap, hol])); (case hσ => (simp only [go_sem, h1, h2, hx, e1, e2, w3, w9, ws, wt, wi, h9', hgs, hk, wq, hap, hol]; try rfl)))
        | (apply evd_skipT; (case hj => (simp only [go_sem, h1, h2, hx, e1, e2, w3, w9, ws, wt, wi, h9', hgs, hk, wq, hap, hol]; try rfl)); (case hb => (simp only [go_sem, h1, h2, hx, e1, e2, w3, w9, ws, wt, wi, h9', hgs, hk, wq, hap, hol]; try rfl)); (case hσ => (simp only [go_sem, h1, h2, hx, e1, e2, w3, w9, ws, wt, wi, h9', hgs, hk, wq, hap, hol]; try rfl)))
        | (apply evd_skipF; (case hj => (simp only [go_sem, h1, h2, hx, e1, e2, w3, w9, ws, wt, wi, h9', hgs, hk, wq, hap, hol]; try rfl)); (case hb => (simp only [go_sem, h1, h2, hx, e1, e2, w3, w9, ws, wt, wi, h9', hgs, hk, wq, hap, hol]; try rfl)); (case hσ => (simp only [go_sem, h1, h2, hx, e1, e2, w3, w9, ws, wt, wi, h9', hgs, hk, wq, hap, hol]; try rfl)))
        | (apply evd_guardT; (case hj => (simp only [go_sem, h1, h2, hx, e1, e2, w3, w9, ws, wt, wi, h9', hgs, hk, wq, hap, hol]; try rfl)); (case hb => (simp only [go_sem, h1, h2, hx, e1, e2, w3, w9, ws, wt, wi, h9', hgs, hk, wq, hap, hol]; try rfl)); (case' h2 => (intro hb; first | (cases hb; done) | (simp only [hb]) | skip)); (case' h1 => (intro hb; first | (cases hb; done) | (simp only [hb]) | skip)))
        | (apply evd_guardF; (case hj => (simp only [go_sem, h1, h2, hx, e1, e2, w3, w9, ws, wt, wi, h9', hgs, hk, wq, hap, hol]; try rfl)); (case hb => (simp only [go_sem, h1, h2, hx, e1, e2, w3, w9, ws, wt, wi, h9', hgs, hk, wq, hap, hol]; try rfl)); (case' h2 => (intro hb; first | (cases hb; done) | (simp only [hb]) | skip)); (case' h1 => (intro hb; first | (cases hb; done) | (simp only [hb]) | skip)))
        | (apply evd_call0; (case hi => (simp only [go_sem, h1, h2, hx, e1, e2, w3, w9, ws, wt, wi, h9', hgs, hk, wq, hap, hol]; try rfl)); (case hys => (simp only [go_sem, h1, h2, hx, e1, e2, w3, w9, ws, wt, wi, h9', hgs, hk, wq, hap, hol]; try rfl)); (case hs => first | exact h43 ..); (case hok => (simp only [go_sem, h1, h2, hx, e1, e2, w3, w9, ws, wt, wi, h9', hgs, hk, wq, hap, hol])); (case hw => (simp only [go_sem, h1, h2, hx, e1, e2, w3, w9, ws, wt, wi, h9', hgs, hk, wq, hap, hol]; try rfl)); (case hσ => (simp only [go_sem, h1, h2, hx, e1, e2, w3, w9, ws, wt, wi, h9', hgs, hk, wq, hap, hol]; try rfl)))
        | (apply evd_callC; (case hf => (simp only [go_sem, h1, h2, hx, e1, e2, w3, w9, ws, wt, wi, h9', hgs, hk, wq, hap, hol]; try rfl)); (case hi => (simp only [go_sem, h1, h2, hx, e1, e2, w3, w9, ws, wt, wi, h9', hgs, hk, wq, hap, hol]; try rfl)); (case hys => (simp only [go_sem, h1, h2, hx, e1, e2, w3, w9, ws, wt, wi, h9', hgs, hk, wq, hap, hol]; try rfl)); (case hs => first | exact h43 ..); (case hok => (simp only [go_sem, h1, h2, hx, e1, e2, w3, w9, ws, wt, wi, h9', hgs, hk, wq, hap, hol])); (case hw => (simp only [go_sem, h1, h2, hx, e1, e2, w3, w9, ws, wt, wi, h9', hgs, hk, wq, hap, hol]; try rfl)); (case hσ => (simp only [go_sem, h1, h2, hx, e1, e2, w3, w9, ws, wt, wi, h9', hgs, hk, wq, hap, hol]; try rfl)))
        | (apply evd_step0; (case hr => (simp only [go_sem, h1, h2, hx, e1, e2, w3, w9, ws, wt, wi, h9', hgs, hk, wq, hap, hol]; try rfl)); (case hi => (simp only [go_sem, h1, h2, hx, e1, e2, w3, w9, ws, wt, wi, h9', hgs, hk, wq, hap, hol]; try rfl)); (case hc => (first | trivial | decide | (simp only [inB, sliceOk, appendOk, rowsOk]; omega) | (simp [inB, sliceOk, appendOk, rowsOk]; omega))); (case hσ => (simp only [go_sem, h1, h2, hx, e1, e2, w3, w9, ws, wt, wi, h9', hgs, hk, wq, hap, hol]; try rfl)))
        | (apply evd_step; (case hr => (simp only [go_sem, h1, h2, hx, e1, e2, w3, w9, ws, wt, wi, h9', hgs, hk, wq, hap, hol]; try rfl)); (case hi => (simp only [go_sem, h1, h2, hx, e1, e2, w3, w9, ws, wt, wi, h9', hgs, hk, wq, hap, hol]; try rfl)); (case hc => (first | trivial | decide | (simp only [inB, sliceOk, appendOk, rowsOk]; omega) | (simp [inB, sliceOk, appendOk, rowsOk]; omega))); (case hw => (intro g u; simp only [go_sem, h1, h2, hx, e1, e2, w3, w9, ws, wt, wi, h9', hgs, hk, wq, hap, hol]; try rfl)); (case hσ => (intro g u; simp only [go_sem, h1, h2, hx, e1, e2, w3, w9, ws, wt, wi, h9', hgs, hk, wq, hap, hol]; try rfl)); (case' hk => (intro g u; (try clear u); (try clear g))))
        | fail))); (case hB => kernel_rfl))
        | refine ev_step0 _ _ (by (simp only [go_sem, h1, h2, hx, e1, e2, w3, w9, ws, wt, wi, h9', hgs, hk, wq, hap, hol]; rfl)) (by (first | trivial | decide | (simp only [inB, sliceOk, appendOk, rowsOk]; omega) | (simp [inB, sliceOk, appendOk, rowsOk]; omega))) _ (by (simp only [go_sem, h1, h2, hx, e1, e2, w3, w9, ws, wt, wi, h9', hgs, hk, wq, hap, hol]; rfl)) ?_
        | (refine ev_step _ (by (simp only [go_sem, h1, h2, hx, e1, e2, w3, w9, ws, wt, wi, h9', hgs, hk, wq, hap, hol]; rfl)) (by (first | trivial | decide | (simp only [inB, sliceOk, appendOk, rowsOk]; omega) | (simp [inB, sliceOk, appendOk, rowsOk]; omega))) _ (fun g u => by (simp only [go_sem, h1, h2, hx, e1, e2, w3, w9, ws, wt, wi, h9', hgs, hk, wq, hap, hol]; rfl)) ?_; intro g u; (try clear u); (try clear g))
        | fail
      refine Exists.intro (i + 1, u, v2) ⟨⟨by show i + 1 ≤ 12; omega, by show i + 1 ≤ b.length; omega⟩, by show 12 - (i + 1) < 12 - i; omega, ?_⟩
      simp only [hS, hset2, List.map_append, List.map_cons, List.map_nil]
      refine Wk.mk ?_ ?_
      all_goals (repeat' first | exact trivial | exact LeA.refl _ | exact LeA.any _ | exact LeO.refl _ | exact LeO.no _ | exact LeA.nil _ | (refine LeA.i ?_; (first | rfl | (push_cast; rfl) | (rw [wrap_id (by omega)]; push_cast; omega) | (simp [wrap_id]; omega))) | refine ⟨?_, ?_⟩)
  by_cases hlb : i < b.length
  · have h1 : decide ((i : Int) < (b.length : Int)) = true := by simp; omega
    have h2 : decide ((i : Int) < 12) = false := by simp; omega
    repeat' first
      | refine awp_seq ?_
      | refine awp_block ?_
      | refine awp_skip ?_
      | (refine reg _ (by (simp only [List.map_cons, List.map_nil]; rfl)) rfl ?_; intro K hK)
      | (refine awp_cond _ (by rfl) ?_ ?_ <;> (intro hb; first | (cases hb; done) | (have ht : true = true := hb; clear ht hb) | (have ht : false = false := hb; clear ht hb) | (simp only [hb]) | skip))
      | (refine awp_exit ?_; simp only [thenA, blockA, reduceIte, RetQ, Nat.reduceEqDiff])
      | (refine awp_ret ?_; simp only [thenA, blockA, RetQ])
      | (refine ev_nil (hK _ ?_); clear hK K)
      | refine ev_guardU _ (by (simp only [go_sem, h1, h2]; rfl)) (by (simp only [go_sem, h1, h2]; rfl)) _ (by (simp only [go_sem, h1, h2]; rfl)) ?_
      | (refine ev_guardT _ _ (by (simp only [go_sem, h1, h2]; rfl)) (by (simp only [go_sem, h1, h2]; rfl)) ?_ ?_ <;> (intro hb; first | (cases hb; done) | (have ht : true = true := hb; clear ht hb) | (have ht : false = false := hb; clear ht hb) | (simp only [hb]) | skip))
      | (refine ev_guardF _ _ (by (simp only [go_sem, h1, h2]; rfl)) (by (simp only [go_sem, h1, h2]; rfl)) ?_ ?_ <;> (intro hb; first | (cases hb; done) | (have ht : true = true := hb; clear ht hb) | (have ht : false = false := hb; clear ht hb) | (simp only [hb]) | skip))
      | refine ev_step0 _ _ (by (simp only [go_sem, h1, h2]; rfl)) (by (first | trivial | decide | (simp only [inB, sliceOk, appendOk, rowsOk]; omega) | (simp [inB, sliceOk, appendOk, rowsOk]; omega))) _ (by (simp only [go_sem, h1, h2]; rfl)) ?_
      | (refine ev_step _ (by (simp only [go_sem, h1, h2]; rfl)) (by (first | trivial | decide | (simp only [inB, sliceOk, appendOk, rowsOk]; omega) | (simp [inB, sliceOk, appendOk, rowsOk]; omega))) _ (fun g u => by (simp only [go_sem, h1, h2]; rfl)) ?_; intro g u; (try clear u); (try clear g))
      | fail
    all_goals (refine resR_one T_ok rfl _ (by (simp only [go_sem, resA]; rfl)) (by first | trivial | (simp only [go_sem, resA])) (by first | trivial | (simp only [go_sem])) ?_; simp only [go_sem])
    exact LeA.s (by rw [hdrI_end b hlt hi]; rfl)
  · have h1 : decide ((i : Int) < (b.length : Int)) = false := by simp; omega
    repeat' first
      | refine awp_seq ?_
      | refine awp_block ?_
      | refine awp_skip ?_
      | (refine reg _ (by (simp only [List.map_cons, List.map_nil]; rfl)) rfl ?_; intro K hK)
      | (refine awp_cond _ (by rfl) ?_ ?_ <;> (intro hb; first | (cases hb; done) | (have ht : true = true := hb; clear ht hb) | (have ht : false = false := hb; clear ht hb) | (simp only [hb]) | skip))
      | (refine awp_exit ?_; simp only [thenA, blockA, reduceIte, RetQ, Nat.reduceEqDiff])
      | (refine awp_ret ?_; simp only [thenA, blockA, RetQ])
      | (refine ev_nil (hK _ ?_); clear hK K)
      | refine ev_guardU _ (by (simp only [go_sem, h1]; rfl)) (by (simp only [go_sem, h1]; rfl)) _ (by (simp only [go_sem, h1]; rfl)) ?_
      | (refine ev_guardT _ _ (by (simp only [go_sem, h1]; rfl)) (by (simp only [go_sem, h1]; rfl)) ?_ ?_ <;> (intro hb; first | (cases hb; done) | (have ht : true = true := hb; clear ht hb) | (have ht : false = false := hb; clear ht hb) | (simp only [hb]) | skip))
      | (refine ev_guardF _ _ (by (simp only [go_sem, h1]; rfl)) (by (simp only [go_sem, h1]; rfl)) ?_ ?_ <;> (intro hb; first | (cases hb; done) | (have ht : true = true := hb; clear ht hb) | (have ht : false = false := hb; clear ht hb) | (simp only [hb]) | skip))
      | refine ev_step0 _ _ (by (simp only [go_sem, h1]; rfl)) (by (first | trivial | decide | (simp only [inB, sliceOk, appendOk, rowsOk]; omega) | (simp [inB, sliceOk, appendOk, rowsOk]; omega))) _ (by (simp only [go_sem, h1]; rfl)) ?_
      | (refine ev_step _ (by (simp only [go_sem, h1]; rfl)) (by (first | trivial | decide | (simp only [inB, sliceOk, appendOk, rowsOk]; omega) | (simp [inB, sliceOk, appendOk, rowsOk]; omega))) _ (fun g u => by (simp only [go_sem, h1]; rfl)) ?_; intro g u; (try clear u); (try clear g))
      | fail
    all_goals (refine resR_one T_ok rfl _ (by (simp only [go_sem, resA]; rfl)) (by first | trivial | (simp only [go_sem, resA])) (by first | trivial | (simp only [go_sem])) ?_; simp only [go_sem])
    exact LeA.s (by rw [hdrI_end b hlt hi]; rfl)
end
section
set_option linter.unusedVariables false
set_option linter.unusedSimpArgs false
open Go.RowKit
attribute [local irreducible] AWp evOps evD
/-- The number for the commit k. -/
def numB (b : List Int) (k : Nat) : Int := if b.length = 0 then 0 else b.getD (k % b.length) 0
def mkC (l : List Cm) (b : List Int) (k : Nat) : List Ch :=
  let c := l.getD k ((0, 0), [])
  if (numB b k).tmod 7 < 6 then [(c.1, ownL c.2 c.1, decide ((numB b k).tmod 7 < 4))] else []
def madeI (l : List Cm) (b : List Int) (i : Nat) : List Ch := ((List.range i).map (mkC l b)).flatten
/-- The changes of a history. -/
def madeL (l : List Cm) (b : List Int) : List Ch := madeI l b l.length
theorem madeI_succ (l : List Cm) (b : List Int) (i : Nat) : madeI l b (i + 1) = madeI l b i ++ mkC l b i := by
  simp [madeI, List.range_succ]
theorem madeI_len (l : List Cm) (b : List Int) : ∀ i, (madeI l b i).length ≤ i
  | 0 => by simp [madeI]
  | i + 1 => by
    rw [madeI_succ, List.length_append]
    have := madeI_len l b i
    have h : (mkC l b i).length ≤ 1 := by simp only [mkC]; split <;> simp
    omega
set_option maxHeartbeats 4000000 in
theorem f11_spec (l : List Cm) (b : List Int) (hb : ∀ x ∈ b, 0 ≤ x ∧ x < 256) (hb0 : l.length ≤ 1000) (hl : ∀ c ∈ l, (0 ≤ c.1.1 ∧ c.1.1 < 3) ∧ c.2.length = 6) : Spec Try.prog 11 [.d (cms l), .d (bytesD b)] (.d (chs (madeL l b))) := by
  refine spec_of_awp (fn := Try.f11) Try.func11 (by kernel_rfl) rfl ?_
  intro w0 C0
  simp only [Try.ntmps11, litI, litB, litS, List.length_cons, List.length_nil, Nat.reduceAdd, Nat.reduceSub, List.replicate_succ, List.replicate_zero, List.cons_append, List.nil_append]
  refine awp_len 1 rfl fun hbl => ?_
  simp only [List.length_map] at hbl
  repeat' first
    | refine awp_seq ?_
    | refine awp_block ?_
    | refine awp_skip ?_
    | (refine reg _ (by (simp only [List.map_cons, List.map_nil]; rfl)) rfl ?_; intro K hK)
    | (refine awp_cond _ (by rfl) ?_ ?_ <;> (intro hb; first | (cases hb; done) | (have ht : true = true := hb; clear ht hb) | (have ht : false = false := hb; clear ht hb) | (simp only [hb]) | skip))
    | (refine awp_exit ?_; simp only [thenA, blockA, reduceIte, RetQ, Nat.reduceEqDiff])
    | (refine awp_ret ?_; simp only [thenA, blockA, RetQ])
    | (refine ev_nil (hK _ ?_); clear hK K)
    | refine ev_step0 _ _ (by (simp only [go_sem]; rfl)) (by (first | trivial | decide | (simp only [inB, sliceOk, appendOk, rowsOk]; omega) | (simp [inB, sliceOk, appendOk, rowsOk]; omega))) _ (by (simp only [go_sem]; rfl)) ?_
    | (refine ev_step _ (by (simp only [go_sem]; rfl)) (by (first | trivial | decide | (simp only [inB, sliceOk, appendOk, rowsOk]; omega) | (simp [inB, sliceOk, appendOk, rowsOk]; omega))) _ (fun g u => by (simp only [go_sem]; rfl)) ?_; intro g u; (try clear u); (try clear g))
    | fail
  refine awp_loopI (fun j : Nat × Value => j.1 ≤ l.length) (fun j => l.length - j.1) (fun j => ⟨[.d (cms l), .d (bytesD b), .any, .any, .d (.lit (.slice none 0 0)), .own 8 j.2, litI .i64 j.1, .any, .any, .any, .any, .any, .any, .any, .any, .any, .any, .any, .any, .any, .any, .any, .any, .any, .any, .any, .any, .any, .any, .any, .any, .any, .any, .any, .any, .any, .any, .any, .any, .any, .any, .any, .any, .any, .any, .any, .any], [.no, .no, .no, .no, .no, .no, .no, .no, .row j.2 28 4 ((madeI l b j.1).map fun c => [.lit (.int .i64 c.1.1), .lit (.int .i64 c.1.2), ints c.2.1, .lit (.bool c.2.2)]), .no, .no, .no, .no, .no, .no, .no, .no, .no, .no, .no, .no, .no, .no, .no, .no, .no, .no, .no, .no, .no, .no, .no, .no, .no, .no, .no, .no, .no, .no, .no, .no, .no, .no, .no, .no, .no, .no]⟩) (0, u) (by simp) ?_ ?_
  · refine Wk.mk ?_ ?_
    all_goals (repeat' first | exact trivial | exact LeA.refl _ | exact LeA.any _ | exact LeO.refl _ | exact LeO.no _ | exact LeA.nil _ | (refine LeA.i ?_; (first | rfl | (push_cast; rfl) | (rw [wrap_id (by omega)]; push_cast; omega) | (simp [wrap_id]; omega))) | refine ⟨?_, ?_⟩)
  rintro ⟨i, v⟩ hi
  simp only [litI, litB] at hi ⊢
  by_cases hlt : i < l.length
  rotate_left
  have hdec : decide ((i : Int) < (l.length : Int)) = false := by simp; omega
  · have : i = l.length := by omega
    repeat' first
      | refine awp_seq ?_
      | refine awp_block ?_
      | refine awp_skip ?_
      | (refine reg _ (by (simp only [List.map_cons, List.map_nil]; rfl)) rfl ?_; intro K hK)
      | (refine awp_cond _ (by rfl) ?_ ?_ <;> (intro hb; first | (cases hb; done) | (have ht : true = true := hb; clear ht hb) | (have ht : false = false := hb; clear ht hb) | (simp only [hb]) | skip))
      | (refine awp_exit ?_; simp only [thenA, blockA, reduceIte, RetQ, Nat.reduceEqDiff])
      | (refine awp_ret ?_; simp only [thenA, blockA, RetQ])
      | (refine ev_nil (hK _ ?_); clear hK K)
      | refine ev_step0 _ _ (by (simp only [go_sem, hdec]; rfl)) (by (first | trivial | decide | (simp only [inB, sliceOk, appendOk, rowsOk]; omega) | (simp [inB, sliceOk, appendOk, rowsOk]; omega))) _ (by (simp only [go_sem, hdec]; rfl)) ?_
      | (refine ev_step _ (by (simp only [go_sem, hdec]; rfl)) (by (first | trivial | decide | (simp only [inB, sliceOk, appendOk, rowsOk]; omega) | (simp [inB, sliceOk, appendOk, rowsOk]; omega))) _ (fun g u => by (simp only [go_sem, hdec]; rfl)) ?_; intro g u; (try clear u); (try clear g))
      | fail
    all_goals (refine resR_one T_ok rfl _ (by (simp only [go_sem, resA]; rfl)) (by first | trivial | (simp only [go_sem, resA])) (by first | trivial | (simp only [go_sem])) ?_; simp only [go_sem])
    exact LeA.s (by rw [this]; rfl)
  have hdec : decide ((i : Int) < (l.length : Int)) = true := by simp; omega
  have hx := cms_at l hlt
  have hS := madeI_succ l b i
  have hlen := madeI_len l b i
  have hc := hl _ (getD_mem' hlt ((0, 0), []))
  simp only [mkC] at hS
  generalize l.getD i ((0, 0), []) = c at *
  generalize madeI l b i = o at *
  obtain ⟨n, past⟩ := c
  simp only at hc hS hx
  have h43 : Spec Try.prog 43 [.agg [litI .i64 n.1, litI .i64 n.2, .d (ints past), litI .i64 0, .d (.lit (.slice none 0 0))]] (.d (ints (ownL past n))) := f43_spec n past (by omega) (by omega)
  generalize ownL past n = pn at *
  by_cases hbz : b.length = 0
  · have hd : decide ((b.length : Int) > 0) = false := decide_eq_false (by omega)
    have hn : numB b i = 0 := by simp [numB, hbz]
    rw [hn] at hS
    have hS' : madeI l b (i + 1) = o ++ [(n, pn, true)] := hS
    repeat' first
      | refine awp_seq ?_
      | refine awp_block ?_
      | refine awp_skip ?_
      | (refine reg _ (by (simp only [List.map_cons, List.map_nil]; rfl)) rfl ?_; intro K hK)
      | (refine awp_cond _ (by rfl) ?_ ?_ <;> (intro hb; first | (cases hb; done) | (have ht : true = true := hb; clear ht hb) | (have ht : false = false := hb; clear ht hb) | (simp only [hb]) | skip))
      | (refine awp_exit ?_; simp only [thenA, blockA, reduceIte, RetQ, Nat.reduceEqDiff])
      | (refine awp_ret ?_; simp only [thenA, blockA, RetQ])
      | (refine ev_nil (hK _ ?_); clear hK K)
      | refine ev_call0 _ _ (by (simp only [go_sem, hdec, hx, hd]; rfl)) (by first | exact h43 ..) (by (simp only [go_sem, hdec, hx, hd])) _ (by (simp only [go_sem, hdec, hx, hd]; rfl)) ?_
      | refine ev_callC _ _ _ _ (by (simp only [go_sem, hdec, hx, hd]; rfl)) (by (simp only [go_sem, hdec, hx, hd]; rfl)) (by first | exact h43 ..) (by (simp only [go_sem, hdec, hx, hd])) _ (by (simp only [go_sem, hdec, hx, hd]; rfl)) ?_
      | (apply regD; (case hd => (simp only [List.map_cons, List.map_nil]; rfl)); (case hok => rfl); (case' h => (intro K hK; (repeat' first
        | (apply evd_nil; refine (hK _ ?_); clear hK K)
        | (apply evd_call0; (case hi => (simp only [go_sem, hdec, hx, hd]; try rfl)); (case hys => (simp only [go_sem, hdec, hx, hd]; try rfl)); (case hs => first | exact h43 ..); (case hok => (simp only [go_sem, hdec, hx, hd])); (case hw => (simp only [go_sem, hdec, hx, hd]; try rfl)); (case hσ => (simp only [go_sem, hdec, hx, hd]; try rfl)))
        | (apply evd_callC; (case hf => (simp only [go_sem, hdec, hx, hd]; try rfl)); (case hi => (simp only [go_sem, hdec, hx, hd]; try rfl)); (case hys => (simp only [go_sem, hdec, hx, hd]; try rfl)); (case hs => first | exact h43 ..); (case hok => (simp only [go_sem, hdec, hx, hd])); (case hw => (simp only [go_sem, hdec, hx, hd]; try rfl)); (case hσ => (simp only [go_sem, hdec, hx, hd]; try rfl)))
        | (apply evd_step0; (case hr => (simp only [go_sem, hdec, hx, hd]; try rfl)); (case hi => (simp only [go_sem, hdec, hx, hd]; try rfl)); (case hc => (first | trivial | decide | (simp only [inB, sliceOk, appendOk, rowsOk]; omega) | (simp [inB, sliceOk, appendOk, rowsOk]; omega))); (case hσ => (simp only [go_sem, hdec, hx, hd]; try rfl)))
        | (apply evd_step; (case hr => (simp only [go_sem, hdec, hx, hd]; try rfl)); (case hi => (simp only [go_sem, hdec, hx, hd]; try rfl)); (case hc => (first | trivial | decide | (simp only [inB, sliceOk, appendOk, rowsOk]; omega) | (simp [inB, sliceOk, appendOk, rowsOk]; omega))); (case hw => (intro g u; simp only [go_sem, hdec, hx, hd]; try rfl)); (case hσ => (intro g u; simp only [go_sem, hdec, hx, hd]; try rfl)); (case' hk => (intro g u; (try clear u); (try clear g))))
        | fail))); (case hB => kernel_rfl))
      | refine ev_step0 _ _ (by (simp only [go_sem, hdec, hx, hd]; rfl)) (by (first | trivial | decide | (simp only [inB, sliceOk, appendOk, rowsOk]; omega) | (simp [inB, sliceOk, appendOk, rowsOk]; omega))) _ (by (simp only [go_sem, hdec, hx, hd]; rfl)) ?_
      | (refine ev_step _ (by (simp only [go_sem, hdec, hx, hd]; rfl)) (by (first | trivial | decide | (simp only [inB, sliceOk, appendOk, rowsOk]; omega) | (simp [inB, sliceOk, appendOk, rowsOk]; omega))) _ (fun g u => by (simp only [go_sem, hdec, hx, hd]; rfl)) ?_; intro g u; (try clear u); (try clear g))
      | fail
    refine Exists.intro (i + 1, u) ⟨by show i + 1 ≤ l.length; omega, by show l.length - (i + 1) < l.length - i; omega, ?_⟩
    simp only [hS', List.map_append, List.map_cons, List.map_nil]
    refine Wk.mk ?_ ?_
    all_goals (repeat' first | exact trivial | exact LeA.refl _ | exact LeA.any _ | exact LeO.refl _ | exact LeO.no _ | exact LeA.nil _ | (refine LeA.i ?_; (first | rfl | (push_cast; rfl) | (rw [wrap_id (by omega)]; push_cast; omega) | (simp [wrap_id]; omega))) | refine ⟨?_, ?_⟩)
  · have hd : decide ((b.length : Int) > 0) = true := decide_eq_true (by omega)
    have hbi : i % b.length < b.length := Nat.mod_lt _ (by omega)
    have hm : (i : Int).tmod (b.length : Int) = ((i % b.length : Nat) : Int) := by rw [Int.tmod_eq_emod_of_nonneg (by omega)]; rfl
    have hy := bytes_at b hbi
    have hyr := hb _ (getD_mem' hbi 0)
    have hn : numB b i = b.getD (i % b.length) 0 := by simp [numB, hbz]
    rw [hn] at hS
    generalize b.getD (i % b.length) 0 = y at *
    generalize i % b.length = bi at *
    have wy : IntKind.i64.wrap y = y := wrap_id (by omega)
    repeat' first
      | refine awp_seq ?_
      | refine awp_block ?_
      | refine awp_skip ?_
      | (refine reg _ (by (simp only [List.map_cons, List.map_nil]; rfl)) rfl ?_; intro K hK)
      | (refine awp_cond _ (by rfl) ?_ ?_ <;> (intro hb; first | (cases hb; done) | (have ht : true = true := hb; clear ht hb) | (have ht : false = false := hb; clear ht hb) | (simp only [hb]) | skip))
      | (refine awp_exit ?_; simp only [thenA, blockA, reduceIte, RetQ, Nat.reduceEqDiff])
      | (refine awp_ret ?_; simp only [thenA, blockA, RetQ])
      | (refine ev_nil (hK _ ?_); clear hK K)
      | refine ev_call0 _ _ (by (simp only [go_sem, hdec, hx, hd, hm, hy, wy]; rfl)) (by first | exact h43 ..) (by (simp only [go_sem, hdec, hx, hd, hm, hy, wy])) _ (by (simp only [go_sem, hdec, hx, hd, hm, hy, wy]; rfl)) ?_
      | refine ev_callC _ _ _ _ (by (simp only [go_sem, hdec, hx, hd, hm, hy, wy]; rfl)) (by (simp only [go_sem, hdec, hx, hd, hm, hy, wy]; rfl)) (by first | exact h43 ..) (by (simp only [go_sem, hdec, hx, hd, hm, hy, wy])) _ (by (simp only [go_sem, hdec, hx, hd, hm, hy, wy]; rfl)) ?_
      | (apply regD; (case hd => (simp only [List.map_cons, List.map_nil]; rfl)); (case hok => rfl); (case' h => (intro K hK; (repeat' first
        | (apply evd_nil; refine (hK _ ?_); clear hK K)
        | (apply evd_call0; (case hi => (simp only [go_sem, hdec, hx, hd, hm, hy, wy]; try rfl)); (case hys => (simp only [go_sem, hdec, hx, hd, hm, hy, wy]; try rfl)); (case hs => first | exact h43 ..); (case hok => (simp only [go_sem, hdec, hx, hd, hm, hy, wy])); (case hw => (simp only [go_sem, hdec, hx, hd, hm, hy, wy]; try rfl)); (case hσ => (simp only [go_sem, hdec, hx, hd, hm, hy, wy]; try rfl)))
        | (apply evd_callC; (case hf => (simp only [go_sem, hdec, hx, hd, hm, hy, wy]; try rfl)); (case hi => (simp only [go_sem, hdec, hx, hd, hm, hy, wy]; try rfl)); (case hys => (simp only [go_sem, hdec, hx, hd, hm, hy, wy]; try rfl)); (case hs => first | exact h43 ..); (case hok => (simp only [go_sem, hdec, hx, hd, hm, hy, wy])); (case hw => (simp only [go_sem, hdec, hx, hd, hm, hy, wy]; try rfl)); (case hσ => (simp only [go_sem, hdec, hx, hd, hm, hy, wy]; try rfl)))
        | (apply evd_step0; (case hr => (simp only [go_sem, hdec, hx, hd, hm, hy, wy]; try rfl)); (case hi => (simp only [go_sem, hdec, hx, hd, hm, hy, wy]; try rfl)); (case hc => (first | trivial | decide | (simp only [inB, sliceOk, appendOk, rowsOk]; omega) | (simp [inB, sliceOk, appendOk, rowsOk]; omega))); (case hσ => (simp only [go_sem, hdec, hx, hd, hm, hy, wy]; try rfl)))
        | (apply evd_step; (case hr => (simp only [go_sem, hdec, hx, hd, hm, hy, wy]; try rfl)); (case hi => (simp only [go_sem, hdec, hx, hd, hm, hy, wy]; try rfl)); (case hc => (first | trivial | decide | (simp only [inB, sliceOk, appendOk, rowsOk]; omega) | (simp [inB, sliceOk, appendOk, rowsOk]; omega))); (case hw => (intro g u; simp only [go_sem, hdec, hx, hd, hm, hy, wy]; try rfl)); (case hσ => (intro g u; simp only [go_sem, hdec, hx, hd, hm, hy, wy]; try rfl)); (case' hk => (intro g u; (try clear u); (try clear g))))
        | fail))); (case hB => kernel_rfl))
      | refine ev_step0 _ _ (by (simp only [go_sem, hdec, hx, hd, hm, hy, wy]; rfl)) (by (first | trivial | decide | (simp only [inB, sliceOk, appendOk, rowsOk]; omega) | (simp [inB, sliceOk, appendOk, rowsOk]; omega))) _ (by (simp only [go_sem, hdec, hx, hd, hm, hy, wy]; rfl)) ?_
      | (refine ev_step _ (by (simp only [go_sem, hdec, hx, hd, hm, hy, wy]; rfl)) (by (first | trivial | decide | (simp only [inB, sliceOk, appendOk, rowsOk]; omega) | (simp [inB, sliceOk, appendOk, rowsOk]; omega))) _ (fun g u => by (simp only [go_sem, hdec, hx, hd, hm, hy, wy]; rfl)) ?_; intro g u; (try clear u); (try clear g))
      | fail
    · have hS' : madeI l b (i + 1) = o ++ [(n, pn, decide (y.tmod 7 < 4))] := by rw [hS, if_pos (by simpa using hb)]
      refine Exists.intro (i + 1, u) ⟨by show i + 1 ≤ l.length; omega, by show l.length - (i + 1) < l.length - i; omega, ?_⟩
      simp only [hS', List.map_append, List.map_cons, List.map_nil]
      refine Wk.mk ?_ ?_
      all_goals (repeat' first | exact trivial | exact LeA.refl _ | exact LeA.any _ | exact LeO.refl _ | exact LeO.no _ | exact LeA.nil _ | (refine LeA.i ?_; (first | rfl | (push_cast; rfl) | (rw [wrap_id (by omega)]; push_cast; omega) | (simp [wrap_id]; omega))) | refine ⟨?_, ?_⟩)
    · have hS' : madeI l b (i + 1) = o := by rw [hS, if_neg (by simpa using hb)]; simp
      refine Exists.intro (i + 1, v) ⟨by show i + 1 ≤ l.length; omega, by show l.length - (i + 1) < l.length - i; omega, ?_⟩
      simp only [hS']
      refine Wk.mk ?_ ?_
      all_goals (repeat' first | exact trivial | exact LeA.refl _ | exact LeA.any _ | exact LeO.refl _ | exact LeO.no _ | exact LeA.nil _ | (refine LeA.i ?_; (first | rfl | (push_cast; rfl) | (rw [wrap_id (by omega)]; push_cast; omega) | (simp [wrap_id]; omega))) | refine ⟨?_, ?_⟩)
end
section
set_option linter.unusedVariables false
set_option linter.unusedSimpArgs false
theorem sorted_eq : ∀ {l m : List Nm}, l.Pairwise lt → m.Pairwise lt → (∀ x, x ∈ l ↔ x ∈ m) → l = m
  | [], [], _, _, _ => rfl
  | [], y :: m, _, _, h => absurd ((h y).2 (.head _)) (by simp)
  | x :: l, [], _, _, h => absurd ((h x).1 (.head _)) (by simp)
  | x :: l, y :: m, hl, hm, h => by
    rw [List.pairwise_cons] at hl hm
    have hxy : x = y := by
      rcases List.mem_cons.1 ((h x).1 (.head _)) with e | hx
      · exact e
      · rcases List.mem_cons.1 ((h y).2 (.head _)) with e | hy
        · exact e.symm
        · exact absurd (lt_trans (hl.1 y hy) (hm.1 x hx)) (lt_irrefl x)
    subst hxy
    rw [sorted_eq hl.2 hm.2 fun z => ?_]
    constructor
    · intro hz
      rcases List.mem_cons.1 ((h z).1 (.tail _ hz)) with e | h'
      · subst e; exact absurd (hl.1 z hz) (lt_irrefl z)
      · exact h'
    · intro hz
      rcases List.mem_cons.1 ((h z).2 (.tail _ hz)) with e | h'
      · subst e; exact absurd (hm.1 z hz) (lt_irrefl z)
      · exact h'
theorem mem_apply {l : List Nm} {c : Ch} {x : Nm} : x ∈ applyO l c ↔ if c.2.2 = true then x = c.1 ∨ x ∈ l else x ∈ l ∧ inCut c.2.1 x.1 x.2 = false := by
  unfold applyO
  split
  · rw [uniL_ins, mem_ins]
  · rw [keepN, List.mem_filter]
    simp
theorem sorted_apply {l : List Nm} (h : sortedN (-1, 0) l = true) {c : Ch} (hn : named c.1.1 c.1.2 = true) : sortedN (-1, 0) (applyO l c) = true := by
  unfold applyO
  split
  · exact sorted_add h hn
  · exact sorted_keep h _
theorem apply_comm {l : List Nm} (h : sortedN (-1, 0) l = true) {c d : Ch} (hc : named c.1.1 c.1.2 = true) (hd : named d.1.1 d.1.2 = true)
    (h1 : inCut c.2.1 d.1.1 d.1.2 = false) (h2 : inCut d.2.1 c.1.1 c.1.2 = false) : applyO (applyO l c) d = applyO (applyO l d) c := by
  refine sorted_eq ((sorted0_iff _).1 (sorted_apply (sorted_apply h hc) hd)).2 ((sorted0_iff _).1 (sorted_apply (sorted_apply h hd) hc)).2 fun x => ?_
  simp only [mem_apply]
  cases c.2.2 <;> cases d.2.2 <;> simp only [if_true, if_false, Bool.false_eq_true]
  · constructor <;> (rintro ⟨⟨p, q⟩, r⟩; exact ⟨⟨p, r⟩, q⟩)
  · constructor
    · rintro (rfl | ⟨p, q⟩)
      · exact ⟨.inl rfl, h1⟩
      · exact ⟨.inr p, q⟩
    · rintro ⟨rfl | p, q⟩
      · exact .inl rfl
      · exact .inr ⟨p, q⟩
  · constructor
    · rintro ⟨rfl | p, q⟩
      · exact .inl rfl
      · exact .inr ⟨p, q⟩
    · rintro (rfl | ⟨p, q⟩)
      · exact ⟨.inl rfl, h2⟩
      · exact ⟨.inr p, q⟩
  · constructor
    · rintro (h | h | h)
      · exact .inr (.inl h)
      · exact .inl h
      · exact .inr (.inr h)
    · rintro (h | h | h)
      · exact .inr (.inl h)
      · exact .inl h
      · exact .inr (.inr h)
/-- What is known of a change of a history. -/
structure ChOk (c : Ch) : Prop where
  st : 0 ≤ c.1.1 ∧ c.1.1 < 3
  sq : 1 ≤ c.1.2 ∧ c.1.2 ≤ 12
  p : c.2.1.length = 6
theorem ChOk.named {c : Ch} (h : ChOk c) : named c.1.1 c.1.2 = true := by
  have h1 := h.st; have h2 := h.sq
  simp only [A.named, Bool.and_eq_true, decide_eq_true_eq]
  omega
theorem made_mem {l : List Cm} {b : List Int} {c : Ch} (h : c ∈ madeL l b) : ∃ k, k < l.length ∧ c.1 = (l.getD k ((0, 0), [])).1 ∧ c.2.1 = ownL (l.getD k ((0, 0), [])).2 (l.getD k ((0, 0), [])).1 := by
  simp only [madeL, madeI, List.mem_flatten, List.mem_map, List.mem_range] at h
  obtain ⟨_, ⟨k, hk, rfl⟩, hc⟩ := h
  simp only [mkC] at hc
  split at hc
  · rw [List.mem_singleton] at hc
    subst hc
    exact ⟨k, hk, rfl, rfl⟩
  · simp at hc
theorem made_ok {h b : List Int} (hh : ∀ x ∈ h, 0 ≤ x ∧ x < 256) : (madeL (hdrL h) b).length ≤ 12 ∧ ∀ c ∈ madeL (hdrL h) b, ChOk c := by
  obtain ⟨h1, h2⟩ := hdrL_ok hh
  refine ⟨Nat.le_trans (madeI_len _ _ _) h1, fun c hc => ?_⟩
  obtain ⟨k, hk, e1, e2⟩ := made_mem hc
  obtain ⟨h3, h4, h5⟩ := h2 _ (getD_mem' hk ((0, 0), []))
  exact ⟨e1 ▸ h3, e1 ▸ h4, by rw [e2, ownL, List.length_set]; exact h5.1⟩
end
section
set_option linter.unusedVariables false
set_option linter.unusedSimpArgs false
open Go.RowKit
attribute [local irreducible] AWp evOps evD
theorem addN_len (l : List Nm) (n : Nm) : (addN l n).length ≤ l.length + 1 := by
  unfold addN
  split
  · omega
  · simp only [List.length_append, List.length_cons, List.length_nil, List.length_take, List.length_drop]; omega
abbrev applyR (l : List Nm) (c : Ch) : List Nm := applyN l c.1 c.2.1 c.2.2
theorem applyR_len (l : List Nm) (c : Ch) : (applyR l c).length ≤ l.length + 1 := by
  unfold applyR applyN
  split
  · exact addN_len _ _
  · have := keepN_len c.2.1 l; omega
def foldR (l : List Ch) : List Nm := l.foldl applyR []
theorem foldR_snoc (l : List Ch) (c : Ch) : foldR (l ++ [c]) = applyR (foldR l) c := by simp [foldR]
theorem foldl_len {α β : Type} (f : List α → β → List α) (hf : ∀ t c, (f t c).length ≤ t.length + 1) : ∀ (l : List β) (t : List α), (l.foldl f t).length ≤ t.length + l.length
  | [], t => by simp
  | c :: l, t => by
    have h1 := foldl_len f hf l (f t c)
    have h2 := hf t c
    simp only [List.foldl_cons, List.length_cons]
    omega
theorem foldR_len (l : List Ch) : (foldR l).length ≤ l.length := by
  have h := foldl_len _ applyR_len l []
  simp only [List.length_nil, Nat.zero_add] at h
  exact h
def stepA (b : List Nm) (y : List Int) (t : List Nm) (n : Nm) : List Nm := if (inL b n || !inCut y n.1 n.2) = true then addN t n else t
def stepB (x : List Int) (t : List Nm) (n : Nm) : List Nm := if inCut x n.1 n.2 = true then t else addN t n
theorem stepA_len (b : List Nm) (y : List Int) (t : List Nm) (n : Nm) : (stepA b y t n).length ≤ t.length + 1 := by
  unfold stepA
  split
  · exact addN_len _ _
  · omega
theorem stepB_len (x : List Int) (t : List Nm) (n : Nm) : (stepB x t n).length ≤ t.length + 1 := by
  unfold stepB
  split
  · omega
  · exact addN_len _ _
def halfR (a b : List Nm) (y : List Int) : List Nm := a.foldl (stepA b y) []
def joinR (a : List Nm) (x : List Int) (b : List Nm) (y : List Int) : List Nm := b.foldl (stepB x) (halfR a b y)
theorem f15_spec (l : List Ch) (hb0 : l.length ≤ 16777215) : Spec Try.prog 15 [.d (chs l)] (.d (nms (foldR l))) := by
  refine spec_of_awp (fn := Try.f15) Try.func15 (by kernel_rfl) rfl ?_
  intro w0 C0
  simp only [Try.ntmps15, litI, litB, litS, List.length_cons, List.length_nil, Nat.reduceAdd, Nat.reduceSub, List.replicate_succ, List.replicate_zero, List.cons_append, List.nil_append]
  refine awp_len 0 rfl fun hl => ?_
  simp only [List.length_map] at hl
  repeat' first
    | refine awp_seq ?_
    | refine awp_block ?_
    | refine awp_skip ?_
    | (refine reg _ (by (simp only [List.map_cons, List.map_nil]; rfl)) rfl ?_; intro K hK)
    | (refine awp_cond _ (by rfl) ?_ ?_ <;> (intro hb; first | (cases hb; done) | (have ht : true = true := hb; clear ht hb) | (have ht : false = false := hb; clear ht hb) | (simp only [hb]) | skip))
    | (refine awp_exit ?_; simp only [thenA, blockA, reduceIte, RetQ, Nat.reduceEqDiff])
    | (refine awp_ret ?_; simp only [thenA, blockA, RetQ])
    | (refine ev_nil (hK _ ?_); clear hK K)
    | refine ev_step0 _ _ (by (simp only [go_sem]; rfl)) (by (first | trivial | decide | (simp only [inB, sliceOk, appendOk, rowsOk]; omega) | (simp [inB, sliceOk, appendOk, rowsOk]; omega))) _ (by (simp only [go_sem]; rfl)) ?_
    | (refine ev_step _ (by (simp only [go_sem]; rfl)) (by (first | trivial | decide | (simp only [inB, sliceOk, appendOk, rowsOk]; omega) | (simp [inB, sliceOk, appendOk, rowsOk]; omega))) _ (fun g u => by (simp only [go_sem]; rfl)) ?_; intro g u; (try clear u); (try clear g))
    | fail
  refine awp_loopI (fun i : Nat => i ≤ l.length) (fun i => l.length - i) (fun i => ⟨[.d (chs l), .any, .d (.lit (.slice none 0 0)), .d (nms (foldR (l.take i))), litI .i64 i, .any, .any, .any, .any, .any, .any, .any, .any, .any, .any, .any, .any, .any, .any], [.no, .no, .no, .no, .no, .no, .no, .no, .no, .no, .no, .no, .no, .no, .no, .no, .no, .no, .no]⟩) 0 (by simp) ?_ ?_
  · refine Wk.trans (Wk.close (by simp [clOkL, clOk, objD])) ?_
    simp only [clL, cl, objD, frzEff, idsOfL, idsOf, applyEff, List.append_nil, List.nil_append, go_sem]
    refine Wk.mk ?_ ?_
    all_goals (repeat' first | exact trivial | exact LeA.refl _ | exact LeA.any _ | exact LeO.refl _ | exact LeO.no _ | exact LeA.nil _ | (refine LeA.i ?_; (first | rfl | (push_cast; rfl) | (rw [wrap_id (by omega)]; push_cast; omega) | (simp [wrap_id]; omega))) | refine ⟨?_, ?_⟩)
  intro i hi
  simp only [litI, litB] at hi ⊢
  by_cases hlt : i < l.length
  rotate_left
  have hdec : decide ((i : Int) < (l.length : Int)) = false := by simp; omega
  · repeat' first
      | refine awp_seq ?_
      | refine awp_block ?_
      | refine awp_skip ?_
      | (refine reg _ (by (simp only [List.map_cons, List.map_nil]; rfl)) rfl ?_; intro K hK)
      | (refine awp_cond _ (by rfl) ?_ ?_ <;> (intro hb; first | (cases hb; done) | (have ht : true = true := hb; clear ht hb) | (have ht : false = false := hb; clear ht hb) | (simp only [hb]) | skip))
      | (refine awp_exit ?_; simp only [thenA, blockA, reduceIte, RetQ, Nat.reduceEqDiff])
      | (refine awp_ret ?_; simp only [thenA, blockA, RetQ])
      | (refine ev_nil (hK _ ?_); clear hK K)
      | refine ev_step0 _ _ (by (simp only [go_sem, hdec]; rfl)) (by (first | trivial | decide | (simp only [inB, sliceOk, appendOk, rowsOk]; omega) | (simp [inB, sliceOk, appendOk, rowsOk]; omega))) _ (by (simp only [go_sem, hdec]; rfl)) ?_
      | (refine ev_step _ (by (simp only [go_sem, hdec]; rfl)) (by (first | trivial | decide | (simp only [inB, sliceOk, appendOk, rowsOk]; omega) | (simp [inB, sliceOk, appendOk, rowsOk]; omega))) _ (fun g u => by (simp only [go_sem, hdec]; rfl)) ?_; intro g u; (try clear u); (try clear g))
      | fail
    all_goals (refine resR_one T_ok rfl _ (by (simp only [go_sem, resA]; rfl)) (by first | trivial | (simp only [go_sem, resA])) (by first | trivial | (simp only [go_sem])) ?_; simp only [go_sem])
    refine LeA.s ?_
    rw [List.take_of_length_le (by omega)]
  have hdec : decide ((i : Int) < (l.length : Int)) = true := by simp; omega
  have hx := chs_at l hlt
  have hab1 : l.take (i + 1) = l.take i ++ [l.getD i ch0] := by rw [List.take_succ_eq_append_getElem hlt]; simp [List.getD_eq_getElem?_getD, hlt]
  have hlen := foldR_len (l.take i)
  rw [List.length_take] at hlen
  have hsn := foldR_snoc (l.take i) (l.getD i ch0)
  rw [← hab1] at hsn
  generalize l.getD i ch0 = x at *
  generalize foldR (l.take i) = tl at *
  have h25 := f25_spec tl x.1 x.2.1 x.2.2 (by omega)
  repeat' first
    | refine awp_seq ?_
    | refine awp_block ?_
    | refine awp_skip ?_
    | (refine reg _ (by (simp only [List.map_cons, List.map_nil]; rfl)) rfl ?_; intro K hK)
    | (refine awp_cond _ (by rfl) ?_ ?_ <;> (intro hb; first | (cases hb; done) | (have ht : true = true := hb; clear ht hb) | (have ht : false = false := hb; clear ht hb) | (simp only [hb]) | skip))
    | (refine awp_exit ?_; simp only [thenA, blockA, reduceIte, RetQ, Nat.reduceEqDiff])
    | (refine awp_ret ?_; simp only [thenA, blockA, RetQ])
    | (refine ev_nil (hK _ ?_); clear hK K)
    | refine ev_call0 _ _ (by (simp only [go_sem, hdec, hx]; rfl)) (by first | exact h25 ..) (by (simp only [go_sem, hdec, hx])) _ (by (simp only [go_sem, hdec, hx]; rfl)) ?_
    | refine ev_callC _ _ _ _ (by (simp only [go_sem, hdec, hx]; rfl)) (by (simp only [go_sem, hdec, hx]; rfl)) (by first | exact h25 ..) (by (simp only [go_sem, hdec, hx])) _ (by (simp only [go_sem, hdec, hx]; rfl)) ?_
    | refine ev_step0 _ _ (by (simp only [go_sem, hdec, hx]; rfl)) (by (first | trivial | decide | (simp only [inB, sliceOk, appendOk, rowsOk]; omega) | (simp [inB, sliceOk, appendOk, rowsOk]; omega))) _ (by (simp only [go_sem, hdec, hx]; rfl)) ?_
    | (refine ev_step _ (by (simp only [go_sem, hdec, hx]; rfl)) (by (first | trivial | decide | (simp only [inB, sliceOk, appendOk, rowsOk]; omega) | (simp [inB, sliceOk, appendOk, rowsOk]; omega))) _ (fun g u => by (simp only [go_sem, hdec, hx]; rfl)) ?_; intro g u; (try clear u); (try clear g))
    | fail
  refine Exists.intro (i + 1) ⟨by omega, by omega, ?_⟩
  simp only [hsn]
  refine Wk.mk ?_ ?_
  all_goals (repeat' first | exact trivial | exact LeA.refl _ | exact LeA.any _ | exact LeO.refl _ | exact LeO.no _ | exact LeA.nil _ | (refine LeA.i ?_; (first | rfl | (push_cast; rfl) | (rw [wrap_id (by omega)]; push_cast; omega) | (simp [wrap_id]; omega))) | refine ⟨?_, ?_⟩)
end
section
set_option linter.unusedVariables false
set_option linter.unusedSimpArgs false
theorem addN_ins : ∀ {l : List Nm}, l.Pairwise lt → ∀ n : Nm, addN l n = insN l n
  | [], _, n => by simp [addN, inL, addAt, insN]
  | x :: r, h, n => by
    rw [List.pairwise_cons] at h
    simp only [insN]
    split
    · rename_i he
      subst he
      have : inL (x :: r) x = true := inL_iff.2 (.head _)
      simp [addN, this]
    · rename_i hne
      have hin : inL (x :: r) n = inL r n := by
        rw [Bool.eq_iff_iff, inL_iff, inL_iff, List.mem_cons]
        exact ⟨fun h => h.resolve_left (fun e => hne e.symm), .inr⟩
      split
      · rename_i hl
        rw [← addN_ins h.2 n]
        have hat : addAt (x :: r) n = addAt r n + 1 := by
          have hl' : less x.1 x.2 n.1 n.2 = true := hl
          simp [addAt, List.takeWhile_cons, hl']
        unfold addN
        rw [hin, hat]
        split
        · rfl
        · simp
      · rename_i hl
        have hg : lt n x := ((lt_total x n).resolve_left hne).resolve_left hl
        have hat : addAt (x :: r) n = 0 := by
          have hl' : less x.1 x.2 n.1 n.2 = false := by rw [Bool.eq_false_iff]; exact hl
          simp [addAt, List.takeWhile_cons, hl']
        have hr : inL r n = false := by
          rw [Bool.eq_false_iff, Ne, inL_iff]
          exact fun hh => lt_irrefl n (lt_trans hg (h.1 n hh))
        unfold addN
        rw [hin, hat, hr]
        simp
theorem add_same {l : List Nm} (h : l.Pairwise lt) (n : Nm) : uniL l [n] = addN l n := by rw [uniL_ins, addN_ins h]
theorem apply_same {l : List Nm} (h : l.Pairwise lt) (c : Ch) : applyO l c = applyN l c.1 c.2.1 c.2.2 := by
  unfold applyO applyN
  split
  · exact add_same h c.1
  · rfl
theorem pw_apply {l : List Nm} (h : l.Pairwise lt) (c : Ch) : (applyO l c).Pairwise lt := by
  unfold applyO
  split
  · rw [uniL_ins]; exact sorted_ins h
  · exact h.filter _
theorem foldl_same : ∀ (l : List Ch) (t : List Nm), t.Pairwise lt → l.foldl applyO t = l.foldl applyR t
  | [], _, _ => rfl
  | c :: l, t, h => by
    simp only [List.foldl_cons]
    rw [show applyR t c = applyO t c from (apply_same h c).symm]
    exact foldl_same l _ (pw_apply h c)
theorem fold_same (l : List Ch) : foldO l = foldR l := foldl_same l [] .nil
/-! ### The union of sorted lists -/
theorem offHd_mem {n : Nm} : ∀ {a : List Nm}, a.Pairwise lt → (∀ z ∈ a, z = n ∨ lt n z) → ∀ z, z ∈ offHd n a ↔ z ∈ a ∧ z ≠ n
  | [], _, _, z => by simp [offHd]
  | x :: r, h, hn, z => by
    rw [List.pairwise_cons] at h
    simp only [offHd]
    split
    · rename_i he
      rw [nmEq_iff] at he
      subst he
      rw [List.mem_cons]
      constructor
      · intro hz
        exact ⟨.inr hz, fun e => by subst e; exact lt_irrefl _ (h.1 _ hz)⟩
      · rintro ⟨e | hz, hne⟩
        · exact absurd e hne
        · exact hz
    · rename_i he
      have hx : lt n x := (hn x (.head _)).resolve_left fun e => he ((nmEq_iff _ _).2 e)
      refine ⟨fun hz => ⟨hz, fun e => ?_⟩, fun hz => hz.1⟩
      subst e
      rcases List.mem_cons.1 hz with e | hz
      · subst e; exact lt_irrefl _ hx
      · exact lt_irrefl _ (lt_trans hx (h.1 _ hz))
theorem offHd_pw {n : Nm} {a : List Nm} (h : a.Pairwise lt) : (offHd n a).Pairwise lt := by
  cases a with
  | nil => exact .nil
  | cons x r =>
    simp only [offHd]
    split
    · exact (List.pairwise_cons.1 h).2
    · exact h
theorem uniHd_min {a b : List Nm} (ha : a.Pairwise lt) (hb : b.Pairwise lt) (h : (a.isEmpty && b.isEmpty) = false) :
    (uniHd a b ∈ a ∨ uniHd a b ∈ b) ∧ (∀ z ∈ a, z = uniHd a b ∨ lt (uniHd a b) z) ∧ (∀ z ∈ b, z = uniHd a b ∨ lt (uniHd a b) z) := by
  match a, b with
  | [], [] => simp at h
  | [], y :: s =>
    rw [List.pairwise_cons] at hb
    refine ⟨.inr (.head _), by simp, fun z hz => ?_⟩
    rcases List.mem_cons.1 hz with e | hz
    · exact .inl e
    · exact .inr (hb.1 z hz)
  | x :: r, [] =>
    rw [List.pairwise_cons] at ha
    refine ⟨.inl (.head _), fun z hz => ?_, by simp⟩
    rcases List.mem_cons.1 hz with e | hz
    · exact .inl e
    · exact .inr (ha.1 z hz)
  | x :: r, y :: s =>
    rw [List.pairwise_cons] at ha hb
    simp only [uniHd]
    split
    · rename_i hc
      have hyx := (cmpN_le x y).1 hc
      have hxy : y = x ∨ lt x y := by
        rcases lt_total x y with e | e | e
        · exact .inl e.symm
        · exact .inr e
        · exact absurd e hyx
      refine ⟨.inl (.head _), fun z hz => ?_, fun z hz => ?_⟩
      · rcases List.mem_cons.1 hz with e | hz
        · exact .inl e
        · exact .inr (ha.1 z hz)
      · rcases List.mem_cons.1 hz with e | hz
        · exact e ▸ hxy
        · rcases hxy with e | e
          · exact .inr (e ▸ hb.1 z hz)
          · exact .inr (lt_trans e (hb.1 z hz))
    · rename_i hc
      have hyx : lt y x := Decidable.byContradiction fun k => hc ((cmpN_le x y).2 k)
      refine ⟨.inr (.head _), fun z hz => ?_, fun z hz => ?_⟩
      · rcases List.mem_cons.1 hz with e | hz
        · exact .inr (e ▸ hyx)
        · exact .inr (lt_trans hyx (ha.1 z hz))
      · rcases List.mem_cons.1 hz with e | hz
        · exact .inl e
        · exact .inr (hb.1 z hz)
theorem uniL_ok : ∀ (k : Nat) (a b : List Nm), a.length + b.length ≤ k → a.Pairwise lt → b.Pairwise lt → (uniL a b).Pairwise lt ∧ ∀ z, z ∈ uniL a b ↔ z ∈ a ∨ z ∈ b
  | 0, a, b, hk, _, _ => by
    have ha : a = [] := List.eq_nil_of_length_eq_zero (by omega)
    have hb : b = [] := List.eq_nil_of_length_eq_zero (by omega)
    subst ha; subst hb
    rw [uniL_nil]
    exact ⟨.nil, by simp⟩
  | k + 1, a, b, hk, ha, hb => by
    cases he : a.isEmpty && b.isEmpty with
    | true =>
      simp only [Bool.and_eq_true, List.isEmpty_iff] at he
      obtain ⟨rfl, rfl⟩ := he
      rw [uniL_nil]
      exact ⟨.nil, by simp⟩
    | false =>
      have hl := uni_less a b he
      obtain ⟨h1, h2, h3⟩ := uniHd_min ha hb he
      rw [uniL_step a b he]
      obtain ⟨ih1, ih2⟩ := uniL_ok k (offHd (uniHd a b) a) (offHd (uniHd a b) b) (by omega) (offHd_pw ha) (offHd_pw hb)
      generalize uniHd a b = n at *
      have ma := offHd_mem ha h2
      have mb := offHd_mem hb h3
      refine ⟨List.pairwise_cons.2 ⟨fun z hz => ?_, ih1⟩, fun z => ?_⟩
      · rcases (ih2 z).1 hz with hz | hz
        · exact (h2 z ((ma z).1 hz).1).resolve_left ((ma z).1 hz).2
        · exact (h3 z ((mb z).1 hz).1).resolve_left ((mb z).1 hz).2
      · rw [List.mem_cons, ih2, ma, mb]
        by_cases e : z = n
        · subst e
          simp only [true_or, true_iff]
          exact h1
        · simp only [e, false_or, Ne, not_false_eq_true, and_true]
theorem uniL_pw {a b : List Nm} (ha : a.Pairwise lt) (hb : b.Pairwise lt) : (uniL a b).Pairwise lt := (uniL_ok _ a b (Nat.le_refl _) ha hb).1
theorem uniL_mem {a b : List Nm} (ha : a.Pairwise lt) (hb : b.Pairwise lt) (z : Nm) : z ∈ uniL a b ↔ z ∈ a ∨ z ∈ b := (uniL_ok _ a b (Nat.le_refl _) ha hb).2 z
theorem isIn_iff {l : List Nm} {n : Nm} : isIn l n = true ↔ n ∈ l := by
  simp only [isIn, List.any_eq_true, nmEq_iff]
  exact ⟨fun ⟨x, h, e⟩ => e ▸ h, fun h => ⟨n, h, rfl⟩⟩
theorem pw_add {l : List Nm} (h : l.Pairwise lt) (n : Nm) : (addN l n).Pairwise lt ∧ ∀ z, z ∈ addN l n ↔ z = n ∨ z ∈ l := by
  rw [addN_ins h]
  exact ⟨sorted_ins h, fun z => mem_ins⟩
theorem foldl_add (p : Nm → Bool) : ∀ (l t : List Nm), t.Pairwise lt → (l.foldl (fun t n => if p n = true then addN t n else t) t).Pairwise lt ∧
    ∀ z, z ∈ l.foldl (fun t n => if p n = true then addN t n else t) t ↔ z ∈ t ∨ (z ∈ l ∧ p z = true)
  | [], t, h => ⟨h, fun z => by simp⟩
  | x :: l, t, h => by
    simp only [List.foldl_cons]
    cases hp : p x with
    | true =>
      simp only [if_true]
      obtain ⟨h1, h2⟩ := pw_add h x
      obtain ⟨h3, h4⟩ := foldl_add p l (addN t x) h1
      refine ⟨h3, fun z => ?_⟩
      rw [h4, h2, List.mem_cons]
      constructor
      · rintro ((e | h) | h)
        · exact .inr ⟨.inl e, by rw [e]; exact hp⟩
        · exact .inl h
        · exact .inr ⟨.inr h.1, h.2⟩
      · rintro (h | ⟨e | h, k⟩)
        · exact .inl (.inr h)
        · exact .inl (.inl e)
        · exact .inr ⟨h, k⟩
    | false =>
      simp only [Bool.false_eq_true, if_false]
      obtain ⟨h3, h4⟩ := foldl_add p l t h
      refine ⟨h3, fun z => ?_⟩
      rw [h4, List.mem_cons]
      constructor
      · rintro (h | h)
        · exact .inl h
        · exact .inr ⟨.inr h.1, h.2⟩
      · rintro (h | ⟨e | h, k⟩)
        · exact .inl h
        · rw [e, hp] at k; cases k
        · exact .inr ⟨h, k⟩
theorem joinR_ok (a : List Nm) (x : List Int) (b : List Nm) (y : List Int) : (joinR a x b y).Pairwise lt ∧
    ∀ z, z ∈ joinR a x b y ↔ (z ∈ a ∧ (z ∈ b ∨ inCut y z.1 z.2 = false)) ∨ (z ∈ b ∧ inCut x z.1 z.2 = false) := by
  obtain ⟨h1, h2⟩ := foldl_add (fun n => inL b n || !inCut y n.1 n.2) a [] .nil
  have e : stepB x = fun t n => if (!inCut x n.1 n.2) = true then addN t n else t := by
    funext t n
    simp only [stepB]
    cases inCut x n.1 n.2 <;> rfl
  obtain ⟨h3, h4⟩ := foldl_add (fun n => !inCut x n.1 n.2) b (halfR a b y) h1
  rw [joinR, e]
  refine ⟨h3, fun z => ?_⟩
  rw [h4, show (z ∈ halfR a b y ↔ _) from h2 z]
  simp only [List.not_mem_nil, false_or, Bool.or_eq_true, inL_iff, Bool.not_eq_true']
theorem joinT_ok {a b : List Nm} (ha : a.Pairwise lt) (hb : b.Pairwise lt) (x y : List Int) : (joinT a x b y).Pairwise lt ∧
    ∀ z, z ∈ joinT a x b y ↔ (z ∈ a ∧ (z ∈ b ∨ inCut y z.1 z.2 = false)) ∨ (z ∈ b ∧ inCut x z.1 z.2 = false) := by
  refine ⟨(uniL_pw ha hb).filter _, fun z => ?_⟩
  rw [joinT, List.mem_filter, uniL_mem ha hb]
  simp only [keepJ, Bool.or_eq_true, Bool.and_eq_true, isIn_iff, Bool.not_eq_true']
  constructor
  · rintro ⟨-, (⟨h1, h2⟩ | ⟨h1, h2⟩) | ⟨h1, h2⟩⟩
    · exact .inl ⟨h1, .inl h2⟩
    · exact .inl ⟨h1, .inr h2⟩
    · exact .inr ⟨h1, h2⟩
  · rintro (⟨h1, h2 | h2⟩ | ⟨h1, h2⟩)
    · exact ⟨.inl h1, .inl (.inl ⟨h1, h2⟩)⟩
    · exact ⟨.inl h1, .inl (.inr ⟨h1, h2⟩)⟩
    · exact ⟨.inr h1, .inr ⟨h1, h2⟩⟩
theorem join_same {a b : List Nm} (ha : a.Pairwise lt) (hb : b.Pairwise lt) (x y : List Int) : joinT a x b y = joinR a x b y := by
  obtain ⟨h1, h2⟩ := joinT_ok ha hb x y
  obtain ⟨h3, h4⟩ := joinR_ok a x b y
  exact sorted_eq h1 h3 fun z => (h2 z).trans (h4 z).symm
end
section
set_option linter.unusedVariables false
set_option linter.unusedSimpArgs false
open Go.RowKit
attribute [local irreducible] AWp evOps evD
set_option maxHeartbeats 4000000 in
theorem f61_spec (h : List Cm) (w : List Int) (hw : cutV w = true) : Spec Try.prog 61 [.d (cms h), .d (ints w)] (.agg [.d (ints (greatest h w)), litI .i64 0]) := by
  have hw6 := cutV_len hw
  refine spec_of_awp (fn := Try.f61) Try.func61 (by kernel_rfl) rfl ?_
  intro w0 C0
  simp only [Try.ntmps61, litI, litB, litS, List.length_cons, List.length_nil, Nat.reduceAdd, Nat.reduceSub, List.replicate_succ, List.replicate_zero, List.cons_append, List.nil_append]
  repeat' first
    | refine awp_seq ?_
    | refine awp_block ?_
    | refine awp_skip ?_
    | (refine reg _ (by (simp only [List.map_cons, List.map_nil]; rfl)) rfl ?_; intro K hK)
    | (refine awp_cond _ (by rfl) ?_ ?_ <;> (intro hb; first | (cases hb; done) | (have ht : true = true := hb; clear ht hb) | (have ht : false = false := hb; clear ht hb) | (simp only [hb]) | skip))
    | (refine awp_exit ?_; simp only [thenA, blockA, reduceIte, RetQ, Nat.reduceEqDiff])
    | (refine awp_ret ?_; simp only [thenA, blockA, RetQ])
    | (refine ev_nil (hK _ ?_); clear hK K)
    | refine ev_call0 _ _ (by (simp only [go_sem, hw]; rfl)) (by first | exact f53_spec ..) (by (simp only [go_sem, hw])) _ (by (simp only [go_sem, hw]; rfl)) ?_
    | refine ev_callC _ _ _ _ (by (simp only [go_sem, hw]; rfl)) (by (simp only [go_sem, hw]; rfl)) (by first | exact f53_spec ..) (by (simp only [go_sem, hw])) _ (by (simp only [go_sem, hw]; rfl)) ?_
    | refine ev_step0 _ _ (by (simp only [go_sem, hw]; rfl)) (by (first | trivial | decide | (simp only [inB, sliceOk, appendOk, rowsOk]; omega) | (simp [inB, sliceOk, appendOk, rowsOk]; omega))) _ (by (simp only [go_sem, hw]; rfl)) ?_
    | (refine ev_step _ (by (simp only [go_sem, hw]; rfl)) (by (first | trivial | decide | (simp only [inB, sliceOk, appendOk, rowsOk]; omega) | (simp [inB, sliceOk, appendOk, rowsOk]; omega))) _ (fun g u => by (simp only [go_sem, hw]; rfl)) ?_; intro g u; (try clear u); (try clear g))
    | fail
  refine awp_loopI (fun j : List Int × Value => cutV j.1 = true ∧ greatest h j.1 = greatest h w) (fun j => sumC j.1) (fun j => ⟨[.d (cms h), .d (ints w), .any, .any, .ptr 4 g 0, .own 11 j.2, .any, .any, .any, .any, .any, .any, .any, .any, .any, .any, .any, .any, .any, .any, .any, .any, .any, .any, .any, .any, .any, .any, .any, .any, .any, .any, .any], [.no, .no, .no, .no, .box g [.d (.lit (.slice none 0 0)), litI .i64 0], .no, .no, .no, .no, .no, .no, .row j.2 3 1 (j.1.map fun n => [.lit (.int .i64 n)]), .no, .no, .no, .no, .no, .no, .no, .no, .no, .no, .no, .no, .no, .no, .no, .no, .no, .no, .no, .no, .no]⟩) (w, u) ⟨hw, rfl⟩ ?_ ?_
  · refine Wk.mk ?_ ?_
    all_goals (repeat' first | exact trivial | exact LeA.refl _ | exact LeA.any _ | exact LeO.refl _ | exact LeO.no _ | exact LeA.nil _ | (refine LeA.i ?_; (first | rfl | (push_cast; rfl) | (rw [wrap_id (by omega)]; push_cast; omega) | (simp [wrap_id]; omega))) | refine ⟨?_, ?_⟩)
  rintro ⟨c, v⟩ ⟨hc, hg⟩
  simp only [litI, litB] at hc hg ⊢
  cases r1 : closedC h c with
  | true =>
    repeat' first
      | refine awp_seq ?_
      | refine awp_block ?_
      | refine awp_skip ?_
      | (refine reg _ (by (simp only [List.map_cons, List.map_nil]; rfl)) rfl ?_; intro K hK)
      | (refine awp_cond _ (by rfl) ?_ ?_ <;> (intro hb; first | (cases hb; done) | (have ht : true = true := hb; clear ht hb) | (have ht : false = false := hb; clear ht hb) | (simp only [hb]) | skip))
      | (refine awp_exit ?_; simp only [thenA, blockA, reduceIte, RetQ, Nat.reduceEqDiff])
      | (refine awp_ret ?_; simp only [thenA, blockA, RetQ])
      | (refine ev_nil (hK _ ?_); clear hK K)
      | refine ev_call0 _ _ (by (simp only [go_sem, r1]; rfl)) (by first | exact f72_spec ..) (by (simp only [go_sem, r1])) _ (by (simp only [go_sem, r1]; rfl)) ?_
      | refine ev_callC _ _ _ _ (by (simp only [go_sem, r1]; rfl)) (by (simp only [go_sem, r1]; rfl)) (by first | exact f72_spec ..) (by (simp only [go_sem, r1])) _ (by (simp only [go_sem, r1]; rfl)) ?_
      | refine ev_step0 _ _ (by (simp only [go_sem, r1]; rfl)) (by (first | trivial | decide | (simp only [inB, sliceOk, appendOk, rowsOk]; omega) | (simp [inB, sliceOk, appendOk, rowsOk]; omega))) _ (by (simp only [go_sem, r1]; rfl)) ?_
      | (refine ev_step _ (by (simp only [go_sem, r1]; rfl)) (by (first | trivial | decide | (simp only [inB, sliceOk, appendOk, rowsOk]; omega) | (simp [inB, sliceOk, appendOk, rowsOk]; omega))) _ (fun g u => by (simp only [go_sem, r1]; rfl)) ?_; intro g u; (try clear u); (try clear g))
      | fail
    all_goals (refine resR_one T_ok rfl _ (by (simp only [go_sem, resA]; rfl)) (by first | trivial | (simp only [go_sem, resA])) (by first | trivial | (simp only [go_sem])) ?_; simp only [go_sem])
    refine LeA.agg ⟨LeA.s ?_, LeA.i rfl, trivial⟩
    rw [← hg, greatest, grC_closed r1]
  | false =>
  have hl6 : ∀ j, j ≤ 6 → (roundC h c j).length = 6 := fun j hj => cutV_len (roundC_ok hc j hj)
  repeat' first
    | refine awp_seq ?_
    | refine awp_block ?_
    | refine awp_skip ?_
    | (refine reg _ (by (simp only [List.map_cons, List.map_nil]; rfl)) rfl ?_; intro K hK)
    | (refine awp_cond _ (by rfl) ?_ ?_ <;> (intro hb; first | (cases hb; done) | (have ht : true = true := hb; clear ht hb) | (have ht : false = false := hb; clear ht hb) | (simp only [hb]) | skip))
    | (refine awp_exit ?_; simp only [thenA, blockA, reduceIte, RetQ, Nat.reduceEqDiff])
    | (refine awp_ret ?_; simp only [thenA, blockA, RetQ])
    | (refine ev_nil (hK _ ?_); clear hK K)
    | refine ev_call0 _ _ (by (simp only [go_sem, r1]; rfl)) (by first | exact f72_spec ..) (by (simp only [go_sem, r1])) _ (by (simp only [go_sem, r1]; rfl)) ?_
    | refine ev_callC _ _ _ _ (by (simp only [go_sem, r1]; rfl)) (by (simp only [go_sem, r1]; rfl)) (by first | exact f72_spec ..) (by (simp only [go_sem, r1])) _ (by (simp only [go_sem, r1]; rfl)) ?_
    | refine ev_step0 _ _ (by (simp only [go_sem, r1]; rfl)) (by (first | trivial | decide | (simp only [inB, sliceOk, appendOk, rowsOk]; omega) | (simp [inB, sliceOk, appendOk, rowsOk]; omega))) _ (by (simp only [go_sem, r1]; rfl)) ?_
    | (refine ev_step _ (by (simp only [go_sem, r1]; rfl)) (by (first | trivial | decide | (simp only [inB, sliceOk, appendOk, rowsOk]; omega) | (simp [inB, sliceOk, appendOk, rowsOk]; omega))) _ (fun g u => by (simp only [go_sem, r1]; rfl)) ?_; intro g u; (try clear u); (try clear g))
    | fail
  refine awp_loopI (fun j : Nat => j ≤ 6) (fun j => 6 - j) (fun j => ⟨[.d (cms h), .d (ints w), .any, .any, .ptr 4 g 0, .own 11 v, litI .i64 j, .any, .any, .any, .any, .any, .any, .any, .any, .any, .any, .any, .any, .any, .any, .any, .any, .any, .any, .any, .any, .any, .any, .any, .any, .any, .any], [.no, .no, .no, .no, .box g [.d (.lit (.slice none 0 0)), litI .i64 0], .no, .no, .no, .no, .no, .no, .row v 3 1 ((roundC h c j).map fun n => [.lit (.int .i64 n)]), .no, .no, .no, .no, .no, .no, .no, .no, .no, .no, .no, .no, .no, .no, .no, .no, .no, .no, .no, .no, .no]⟩) 0 (by omega) ?_ ?_
  · refine Wk.mk ?_ ?_
    all_goals (repeat' first | exact trivial | exact LeA.refl _ | exact LeA.any _ | exact LeO.refl _ | exact LeO.no _ | exact LeA.nil _ | (refine LeA.i ?_; (first | rfl | (push_cast; rfl) | (rw [wrap_id (by omega)]; push_cast; omega) | (simp [wrap_id]; omega))) | refine ⟨?_, ?_⟩)
  intro j hj
  simp only [litI, litB] at hj ⊢
  have hj6 := hl6 j hj
  by_cases hlt : j < 6
  · have hdec : decide ((j : Int) < ((6 : Nat) : Int)) = true := decide_eq_true (by omega)
    have h73 := f73_spec h (roundC h c j) j (by omega) (roundC_ok hc j hj)
    have hx := ints_at (roundC h c j) (i := j) (by omega)
    have hs : ((roundC h c j).map fun n => [Dat.lit (.int .i64 n)]).set j [.lit (.int .i64 (fitV h (roundC h c j) (j : Int)))] = (roundC h c (j + 1)).map fun n => [Dat.lit (.int .i64 n)] := by
      simp only [roundC, stepC, List.map_set]
    generalize hR : roundC h c j = R at *
    repeat' first
      | refine awp_seq ?_
      | refine awp_block ?_
      | refine awp_skip ?_
      | (refine reg _ (by (simp only [List.map_cons, List.map_nil]; rfl)) rfl ?_; intro K hK)
      | (refine awp_cond _ (by rfl) ?_ ?_ <;> (intro hb; first | (cases hb; done) | (have ht : true = true := hb; clear ht hb) | (have ht : false = false := hb; clear ht hb) | (simp only [hb]) | skip))
      | (refine awp_exit ?_; simp only [thenA, blockA, reduceIte, RetQ, Nat.reduceEqDiff])
      | (refine awp_ret ?_; simp only [thenA, blockA, RetQ])
      | (refine ev_nil (hK _ ?_); clear hK K)
      | refine ev_call0 _ _ (by (simp only [go_sem, hdec, hj6, hx, hs]; rfl)) (by first | exact h73 ..) (by (simp only [go_sem, hdec, hj6, hx, hs])) _ (by (simp only [go_sem, hdec, hj6, hx, hs]; rfl)) ?_
      | refine ev_callC _ _ _ _ (by (simp only [go_sem, hdec, hj6, hx, hs]; rfl)) (by (simp only [go_sem, hdec, hj6, hx, hs]; rfl)) (by first | exact h73 ..) (by (simp only [go_sem, hdec, hj6, hx, hs])) _ (by (simp only [go_sem, hdec, hj6, hx, hs]; rfl)) ?_
      | refine ev_step0 _ _ (by (simp only [go_sem, hdec, hj6, hx, hs]; rfl)) (by (first | trivial | decide | (simp only [inB, sliceOk, appendOk, rowsOk]; omega) | (simp [inB, sliceOk, appendOk, rowsOk]; omega))) _ (by (simp only [go_sem, hdec, hj6, hx, hs]; rfl)) ?_
      | (refine ev_step _ (by (simp only [go_sem, hdec, hj6, hx, hs]; rfl)) (by (first | trivial | decide | (simp only [inB, sliceOk, appendOk, rowsOk]; omega) | (simp [inB, sliceOk, appendOk, rowsOk]; omega))) _ (fun g u => by (simp only [go_sem, hdec, hj6, hx, hs]; rfl)) ?_; intro g u; (try clear u); (try clear g))
      | fail
    refine Exists.intro (j + 1) ⟨by omega, by omega, ?_⟩
    refine Wk.mk ?_ ?_
    all_goals (repeat' first | exact trivial | exact LeA.refl _ | exact LeA.any _ | exact LeO.refl _ | exact LeO.no _ | exact LeA.nil _ | (refine LeA.i ?_; (first | rfl | (push_cast; rfl) | (rw [wrap_id (by omega)]; push_cast; omega) | (simp [wrap_id]; omega))) | refine ⟨?_, ?_⟩)
  · have hdec : decide ((j : Int) < ((6 : Nat) : Int)) = false := decide_eq_false (by omega)
    have : j = 6 := by omega
    subst this
    repeat' first
      | refine awp_seq ?_
      | refine awp_block ?_
      | refine awp_skip ?_
      | (refine reg _ (by (simp only [List.map_cons, List.map_nil]; rfl)) rfl ?_; intro K hK)
      | (refine awp_cond _ (by rfl) ?_ ?_ <;> (intro hb; first | (cases hb; done) | (have ht : true = true := hb; clear ht hb) | (have ht : false = false := hb; clear ht hb) | (simp only [hb]) | skip))
      | (refine awp_exit ?_; simp only [thenA, blockA, reduceIte, RetQ, Nat.reduceEqDiff])
      | (refine awp_ret ?_; simp only [thenA, blockA, RetQ])
      | (refine ev_nil (hK _ ?_); clear hK K)
      | refine ev_step0 _ _ (by (simp only [go_sem, hdec, hj6]; rfl)) (by (first | trivial | decide | (simp only [inB, sliceOk, appendOk, rowsOk]; omega) | (simp [inB, sliceOk, appendOk, rowsOk]; omega))) _ (by (simp only [go_sem, hdec, hj6]; rfl)) ?_
      | (refine ev_step _ (by (simp only [go_sem, hdec, hj6]; rfl)) (by (first | trivial | decide | (simp only [inB, sliceOk, appendOk, rowsOk]; omega) | (simp [inB, sliceOk, appendOk, rowsOk]; omega))) _ (fun g u => by (simp only [go_sem, hdec, hj6]; rfl)) ?_; intro g u; (try clear u); (try clear g))
      | fail
    refine Exists.intro (roundC h c 6, v) ⟨⟨roundC_ok hc 6 (by omega), ?_⟩, round_less hc r1, ?_⟩
    · rw [← hg]; exact (greatest_step hc r1).symm
    · refine Wk.mk ?_ ?_
      all_goals (repeat' first | exact trivial | exact LeA.refl _ | exact LeA.any _ | exact LeO.refl _ | exact LeO.no _ | exact LeA.nil _ | (refine LeA.i ?_; (first | rfl | (push_cast; rfl) | (rw [wrap_id (by omega)]; push_cast; omega) | (simp [wrap_id]; omega))) | refine ⟨?_, ?_⟩)
/-- The cut that bytes describe. -/
def cutOf (h : List Cm) (b : List Int) : List Int := if b.length = 0 then greatest h (List.replicate 6 999) else greatest h (limL b 6)
theorem f40_spec (h : List Cm) (b : List Int) (hb : ∀ x ∈ b, 0 ≤ x ∧ x < 256) : Spec Try.prog 40 [.d (cms h), .d (bytesD b)] (.d (ints (cutOf h b))) := by
  have h61a := f61_spec h (List.replicate 6 999) (by decide)
  have h61b := f61_spec h (limL b 6) (cutV_lim b hb)
  have h37 := f37_spec b hb
  by_cases h0 : b.length = 0
  · have hd : ((b.length : Int) == 0) = true := by simp; exact List.eq_nil_of_length_eq_zero h0
    simp only [cutOf, if_pos h0]
    refine spec_of_awp (fn := Try.f40) Try.func40 (by kernel_rfl) rfl ?_
    intro w0 C0
    simp only [Try.ntmps40, litI, litB, litS, List.length_cons, List.length_nil, Nat.reduceAdd, Nat.reduceSub, List.replicate_succ, List.replicate_zero, List.cons_append, List.nil_append]
    repeat' first
      | refine awp_seq ?_
      | refine awp_block ?_
      | refine awp_skip ?_
      | (refine reg _ (by (simp only [List.map_cons, List.map_nil]; rfl)) rfl ?_; intro K hK)
      | (refine awp_cond _ (by rfl) ?_ ?_ <;> (intro hb; first | (cases hb; done) | (have ht : true = true := hb; clear ht hb) | (have ht : false = false := hb; clear ht hb) | (simp only [hb]) | skip))
      | (refine awp_exit ?_; simp only [thenA, blockA, reduceIte, RetQ, Nat.reduceEqDiff])
      | (refine awp_ret ?_; simp only [thenA, blockA, RetQ])
      | (refine ev_nil (hK _ ?_); clear hK K)
      | refine ev_call0 _ _ (by (simp only [go_sem, hd]; rfl)) (by first | exact f62_spec .. | exact h61a ..) (by (simp only [go_sem, hd])) _ (by (simp only [go_sem, hd]; rfl)) ?_
      | refine ev_callC _ _ _ _ (by (simp only [go_sem, hd]; rfl)) (by (simp only [go_sem, hd]; rfl)) (by first | exact f62_spec .. | exact h61a ..) (by (simp only [go_sem, hd])) _ (by (simp only [go_sem, hd]; rfl)) ?_
      | refine ev_step0 _ _ (by (simp only [go_sem, hd]; rfl)) (by (first | trivial | decide | (simp only [inB, sliceOk, appendOk, rowsOk]; omega) | (simp [inB, sliceOk, appendOk, rowsOk]; omega))) _ (by (simp only [go_sem, hd]; rfl)) ?_
      | (refine ev_step _ (by (simp only [go_sem, hd]; rfl)) (by (first | trivial | decide | (simp only [inB, sliceOk, appendOk, rowsOk]; omega) | (simp [inB, sliceOk, appendOk, rowsOk]; omega))) _ (fun g u => by (simp only [go_sem, hd]; rfl)) ?_; intro g u; (try clear u); (try clear g))
      | fail
    all_goals (refine resR_one T_ok rfl _ (by (simp only [go_sem, resA]; rfl)) (by first | trivial | (simp only [go_sem, resA])) (by first | trivial | (simp only [go_sem])) ?_; simp only [go_sem])
    exact LeA.refl _
  · have hd : ((b.length : Int) == 0) = false := by simp; exact fun e => h0 (by rw [e]; rfl)
    simp only [cutOf, if_neg h0]
    refine spec_of_awp (fn := Try.f40) Try.func40 (by kernel_rfl) rfl ?_
    intro w0 C0
    simp only [Try.ntmps40, litI, litB, litS, List.length_cons, List.length_nil, Nat.reduceAdd, Nat.reduceSub, List.replicate_succ, List.replicate_zero, List.cons_append, List.nil_append]
    repeat' first
      | refine awp_seq ?_
      | refine awp_block ?_
      | refine awp_skip ?_
      | (refine reg _ (by (simp only [List.map_cons, List.map_nil]; rfl)) rfl ?_; intro K hK)
      | (refine awp_cond _ (by rfl) ?_ ?_ <;> (intro hb; first | (cases hb; done) | (have ht : true = true := hb; clear ht hb) | (have ht : false = false := hb; clear ht hb) | (simp only [hb]) | skip))
      | (refine awp_exit ?_; simp only [thenA, blockA, reduceIte, RetQ, Nat.reduceEqDiff])
      | (refine awp_ret ?_; simp only [thenA, blockA, RetQ])
      | (refine ev_nil (hK _ ?_); clear hK K)
      | refine ev_call0 _ _ (by (simp only [go_sem, hd]; rfl)) (by first | exact h37 .. | exact h61b ..) (by (simp only [go_sem, hd])) _ (by (simp only [go_sem, hd]; rfl)) ?_
      | refine ev_callC _ _ _ _ (by (simp only [go_sem, hd]; rfl)) (by (simp only [go_sem, hd]; rfl)) (by first | exact h37 .. | exact h61b ..) (by (simp only [go_sem, hd])) _ (by (simp only [go_sem, hd]; rfl)) ?_
      | refine ev_step0 _ _ (by (simp only [go_sem, hd]; rfl)) (by (first | trivial | decide | (simp only [inB, sliceOk, appendOk, rowsOk]; omega) | (simp [inB, sliceOk, appendOk, rowsOk]; omega))) _ (by (simp only [go_sem, hd]; rfl)) ?_
      | (refine ev_step _ (by (simp only [go_sem, hd]; rfl)) (by (first | trivial | decide | (simp only [inB, sliceOk, appendOk, rowsOk]; omega) | (simp [inB, sliceOk, appendOk, rowsOk]; omega))) _ (fun g u => by (simp only [go_sem, hd]; rfl)) ?_; intro g u; (try clear u); (try clear g))
      | fail
    all_goals (refine resR_one T_ok rfl _ (by (simp only [go_sem, resA]; rfl)) (by first | trivial | (simp only [go_sem, resA])) (by first | trivial | (simp only [go_sem])) ?_; simp only [go_sem])
    exact LeA.refl _
end
section
set_option linter.unusedVariables false
set_option linter.unusedSimpArgs false
abbrev cm0 : Cm := ((0, 0), [])
/-- How many commits of a station. -/
def cnt (l : List Cm) (s : Int) : Nat := (l.filter fun c => decide (c.1.1 = s)).length
theorem cnt_snoc (l : List Cm) (c : Cm) (s : Int) : cnt (l ++ [c]) s = cnt l s + if c.1.1 = s then 1 else 0 := by
  simp only [cnt, List.filter_append, List.length_append, List.filter_cons, List.filter_nil]
  by_cases h : c.1.1 = s <;> simp [h]
theorem take_snoc {l : List Cm} {i : Nat} (h : i < l.length) : l.take (i + 1) = l.take i ++ [l.getD i cm0] := by
  rw [List.take_succ_eq_append_getElem h]; simp [List.getD_eq_getElem?_getD, h]
theorem cnt_mono (l : List Cm) (s : Int) {i : Nat} : ∀ {j : Nat}, i ≤ j → cnt (l.take i) s ≤ cnt (l.take j) s
  | 0, h => by
    have : i = 0 := by omega
    subst this; exact Nat.le_refl _
  | j + 1, h => by
    by_cases e : i = j + 1
    · subst e; exact Nat.le_refl _
    · have ih := cnt_mono l s (i := i) (j := j) (by omega)
      by_cases hj : j < l.length
      · rw [take_snoc hj, cnt_snoc]; omega
      · rw [List.take_of_length_le (i := j + 1) (by omega)]
        rw [List.take_of_length_le (i := j) (by omega)] at ih
        exact ih
/-- Each commit bears the next number of its station, and knows of what was there alone. -/
def HistOk (l : List Cm) : Prop := ∀ i, i < l.length → (l.getD i cm0).1.2 = cnt (l.take i) (l.getD i cm0).1.1 + 1 ∧ ∀ s : Nat, s < 6 → (l.getD i cm0).2.getD s 0 ≤ cnt (l.take i) s
theorem hist_snoc {l : List Cm} (h : HistOk l) {c : Cm} (h1 : c.1.2 = cnt l c.1.1 + 1) (h2 : ∀ s : Nat, s < 6 → c.2.getD s 0 ≤ cnt l s) : HistOk (l ++ [c]) := by
  intro i hi
  rw [List.length_append, List.length_cons, List.length_nil] at hi
  by_cases hl : i < l.length
  · have e1 : (l ++ [c]).getD i cm0 = l.getD i cm0 := by
      rw [List.getD_eq_getElem?_getD, List.getD_eq_getElem?_getD, List.getElem?_append_left hl]
    have e2 : (l ++ [c]).take i = l.take i := by rw [List.take_append_of_le_length (by omega)]
    rw [e1, e2]
    exact h i hl
  · have hi' : i = l.length := by omega
    subst hi'
    have e1 : (l ++ [c]).getD l.length cm0 = c := by
      rw [List.getD_eq_getElem?_getD, List.getElem?_append_right (by omega)]; simp
    have e2 : (l ++ [c]).take l.length = l := by rw [List.take_append_of_le_length (by omega), List.take_length]
    rw [e1, e2]
    exact ⟨h1, h2⟩
theorem getD_set' {α : Type} (l : List α) (i j : Nat) (v d : α) (hi : i < l.length) : (l.set i v).getD j d = if i = j then v else l.getD j d := by
  rw [List.getD_eq_getElem?_getD, List.getD_eq_getElem?_getD, List.getElem?_set]
  by_cases h : i = j
  · subst h; simp [hi]
  · simp [h]
theorem joinL_at {x y : List Int} (hx : cutV x = true) (hy : cutV y = true) {u : Nat} (hu : u < 6) : (joinL x y).getD u 0 = max (x.getD u 0) (y.getD u 0) := by
  rw [(cutV_join hx hy).1]
  have i1 : u < x.length := by rw [cutV_len hx]; exact hu
  have i2 : u < y.length := by rw [cutV_len hy]; exact hu
  simp only [List.getD_eq_getElem?_getD, List.getElem?_zipWith, List.getElem?_eq_getElem i1, List.getElem?_eq_getElem i2, Option.getD_some]
structure KOk (K : List (List Int)) (o : List Cm) : Prop where
  e : ∀ t : Nat, t < 3 → (K.getD t []).getD t 0 = cnt o t
  le : ∀ t : Nat, t < 3 → ∀ s : Nat, s < 6 → (K.getD t []).getD s 0 ≤ cnt o s
theorem hdrS_hist {n : Nat} (hn : n ≤ 900) {a : List (List Int) × List Cm} (h : HdrOk n a) (hk : KOk a.1 a.2) (ho : HistOk a.2) {x : Int} (hx : 0 ≤ x ∧ x < 256) : KOk (hdrS a x).1 (hdrS a x).2 ∧ HistOk (hdrS a x).2 := by
  obtain ⟨s, t, hs, ht, e1, e2⟩ := byte_st hx
  obtain ⟨K, o⟩ := a
  have h3 : K.length = 3 := h.k
  have hcs := cutB_V (h.c _ (getD_mem' (l := K) (i := s) (by omega) [])) (by omega)
  have hct := cutB_V (h.c _ (getD_mem' (l := K) (i := t) (by omega) [])) (by omega)
  have hC : ∀ u : Nat, u < 3 → cutB n (K.getD u []) := fun u hu => h.c _ (getD_mem' (l := K) (i := u) (by omega) [])
  have hK : ∃ K' : List (List Int), (if 0 < (x.tdiv 9).tmod 3 then K.set s (joinL (K.getD s []) (K.getD t [])) else K) = K' ∧ KOk K' o ∧ K'.length = 3 ∧ (K'.getD s []).length = 6 := by
    refine ⟨_, rfl, ?_⟩
    split
    · refine ⟨⟨fun u hu => ?_, fun u hu r hr => ?_⟩, by simp [h3], ?_⟩
      · rw [getD_set' _ _ _ _ _ (by omega)]
        split
        · rename_i e
          subst e
          rw [joinL_at hcs hct (by omega)]
          have p1 := hk.e s hs
          have p2 := hk.le t ht s (by omega)
          simp only at p1 p2
          omega
        · exact hk.e u hu
      · rw [getD_set' _ _ _ _ _ (by omega)]
        split
        · rw [joinL_at hcs hct hr]
          have p1 := hk.le s hs r hr
          have p2 := hk.le t ht r hr
          simp only at p1 p2
          omega
        · exact hk.le u hu r hr
      · rw [getD_set' _ _ _ _ _ (by omega), if_pos rfl]
        exact cutV_len (cutV_join hcs hct).2.2
    · exact ⟨hk, h3, (hC s hs).1⟩
  obtain ⟨K', eK, hk', h3', h6⟩ := hK
  simp only [hdrS, e1, e2, Int.toNat_natCast, eK]
  have p1 := hk'.e s hs
  have q : ∀ u : Nat, (ownL (K'.getD s []) ((s : Int), (K'.getD s []).getD s 0 + 1)).getD u 0 = if s = u then (K'.getD s []).getD s 0 + 1 else (K'.getD s []).getD u 0 := fun u => by
    simp only [ownL, Int.toNat_natCast]
    exact getD_set' _ _ _ _ _ (by omega)
  refine ⟨⟨fun u hu => ?_, fun u hu r hr => ?_⟩, hist_snoc ho ?_ ?_⟩
  · rw [getD_set' _ _ _ _ _ (by omega), cnt_snoc]
    split
    · rename_i e
      subst e
      rw [q, if_pos rfl, p1]
      simp
    · rename_i e
      have p2 := hk'.e u hu
      have : ¬ ((s : Int) = (u : Int)) := by omega
      rw [p2, if_neg this]
      simp
  · rw [getD_set' _ _ _ _ _ (by omega), cnt_snoc]
    split
    · rw [q]
      split
      · rename_i e
        subst e
        rw [p1]
        simp
      · have := hk'.le s hs r hr
        omega
    · have := hk'.le u hu r hr
      omega
  · exact congrArg (· + 1) p1
  · exact fun r hr => hk'.le s hs r hr
theorem hdrI_hist {b : List Int} (hb : ∀ x ∈ b, 0 ≤ x ∧ x < 256) : ∀ i : Nat, i ≤ 12 → i ≤ b.length → KOk (hdrI b i).1 (hdrI b i).2 ∧ HistOk (hdrI b i).2
  | 0, _, _ => by
    refine ⟨⟨fun t ht => ?_, fun t ht s hs => ?_⟩, fun i hi => by simp [hdrI] at hi⟩
    · have : t = 0 ∨ t = 1 ∨ t = 2 := by omega
      rcases this with rfl | rfl | rfl <;> rfl
    · have h3 : t = 0 ∨ t = 1 ∨ t = 2 := by omega
      have h6 : s = 0 ∨ s = 1 ∨ s = 2 ∨ s = 3 ∨ s = 4 ∨ s = 5 := by omega
      rcases h3 with rfl | rfl | rfl <;> rcases h6 with rfl | rfl | rfl | rfl | rfl | rfl <;> exact Int.le_refl _
  | i + 1, h1, h2 => by
    rw [hdrI_succ b (by omega)]
    obtain ⟨k1, k2⟩ := hdrI_hist hb i (by omega) (by omega)
    exact hdrS_hist (by omega) (hdrI_ok hb i (by omega) (by omega)) k1 k2 (hb _ (getD_mem' (by omega) _))
theorem hdrL_hist {b : List Int} (hb : ∀ x ∈ b, 0 ≤ x ∧ x < 256) : HistOk (hdrL b) := by
  have h := (hdrI_hist hb (min b.length 12) (by omega) (by omega)).2
  rw [hdrI_end b (by omega) (by omega)] at h
  exact h
theorem cutV_zero : cutV zero6 = true := by decide
/-- What a commit's own cut has comes not behind it. -/
theorem hist_before {l : List Cm} (h : HistOk l) (hc : ∀ c ∈ l, (0 ≤ c.1.1 ∧ c.1.1 < 3) ∧ (1 ≤ c.1.2 ∧ c.1.2 ≤ 12) ∧ cutB 12 c.2) {i j : Nat} (hi : i < l.length) (hj : j < l.length)
    (hin : inCut (ownL (l.getD i cm0).2 (l.getD i cm0).1) (l.getD j cm0).1.1 (l.getD j cm0).1.2 = true) : j ≤ i := by
  obtain ⟨p1, p2⟩ := h i hi
  obtain ⟨q1, q2⟩ := h j hj
  obtain ⟨r1, r2, r3⟩ := hc _ (getD_mem' hi cm0)
  obtain ⟨s1, s2, s3⟩ := hc _ (getD_mem' hj cm0)
  refine Decidable.byContradiction fun hji => ?_
  have hij : i + 1 ≤ j := by omega
  have hm := cnt_mono l (l.getD j cm0).1.1 hij
  rw [take_snoc hi, cnt_snoc] at hm
  generalize l.getD i cm0 = c at *
  generalize l.getD j cm0 = d at *
  obtain ⟨⟨cs, cq⟩, cp⟩ := c
  obtain ⟨⟨ds, dq⟩, dp⟩ := d
  simp only at p1 p2 q1 q2 r1 r2 r3 s1 s2 s3 hm hin
  simp only [inCut, Bool.and_eq_true, decide_eq_true_eq] at hin
  have hle := hin.2
  have hds : ds.toNat < 6 := by omega
  have hdn : ((ds.toNat : Nat) : Int) = ds := by omega
  have hat : (ownL cp (cs, cq)).getD ds.toNat 0 = if cs = ds then cq else cp.getD ds.toNat 0 := by
    simp only [ownL]
    rw [getD_set' _ _ _ _ _ (by rw [r3.1]; omega)]
    by_cases e : cs = ds
    · rw [if_pos e, if_pos (by rw [e])]
    · rw [if_neg e, if_neg (by omega)]
  rw [hat] at hle
  have p3 := p2 ds.toNat hds
  rw [hdn] at p3
  by_cases e : cs = ds
  · subst e
    rw [if_pos rfl] at hle hm
    omega
  · rw [if_neg e] at hle hm
    omega
theorem hist_name {l : List Cm} (h : HistOk l) {i j : Nat} (hi : i < l.length) (hj : j < l.length) (he : (l.getD i cm0).1 = (l.getD j cm0).1) : i = j := by
  have key : ∀ i j, i < l.length → j < l.length → (l.getD i cm0).1 = (l.getD j cm0).1 → ¬ i < j := fun i j hi hj he hlt => by
    obtain ⟨p1, -⟩ := h i hi
    obtain ⟨q1, -⟩ := h j hj
    have hm := cnt_mono l (l.getD j cm0).1.1 (show i + 1 ≤ j from hlt)
    rw [take_snoc hi, cnt_snoc, ← he, if_pos rfl] at hm
    rw [← he] at q1
    omega
  rcases Nat.lt_trichotomy i j with h1 | h1 | h1
  · exact absurd h1 (key i j hi hj he)
  · exact h1
  · exact absurd h1 (key j i hj hi he.symm)
end
section
set_option linter.unusedVariables false
set_option linter.unusedSimpArgs false
/-- No earlier change has a later one's name in its past. -/
abbrev Bef (d c : Ch) : Prop := inCut d.2.1 c.1.1 c.1.2 = false
theorem foldO_mem : ∀ (n : Nat) (l : List Ch), l.length = n → l.Pairwise Bef → ∀ z, z ∈ foldO l ↔ (∃ c ∈ l, c.2.2 = true ∧ c.1 = z) ∧ ∀ d ∈ l, d.2.2 = false → inCut d.2.1 z.1 z.2 = false
  | 0, l, hl, _, z => by
    have : l = [] := List.eq_nil_of_length_eq_zero hl
    subst this
    simp [foldO]
  | n + 1, l, hl, h, z => by
    have hne : l ≠ [] := fun e => by subst e; simp at hl
    obtain ⟨r, c, rfl⟩ : ∃ r c, l = r ++ [c] := ⟨l.dropLast, l.getLast hne, (List.dropLast_concat_getLast hne).symm⟩
    rw [List.pairwise_append] at h
    obtain ⟨h1, -, h2⟩ := h
    have ih := foldO_mem n r (by simpa using hl) h1 z
    rw [foldO_snoc, mem_apply]
    have hb : ∀ d ∈ r, inCut d.2.1 c.1.1 c.1.2 = false := fun d hd => h2 d hd c (List.mem_singleton.2 rfl)
    simp only [List.mem_append, List.mem_singleton]
    split
    · rename_i hp
      constructor
      · rintro (rfl | hz)
        · refine ⟨⟨c, .inr rfl, hp, rfl⟩, ?_⟩
          rintro d (hd | rfl) hf
          · exact hb d hd
          · rw [hp] at hf; cases hf
        · obtain ⟨⟨x, hx, hx2, hx3⟩, hall⟩ := ih.1 hz
          refine ⟨⟨x, .inl hx, hx2, hx3⟩, ?_⟩
          rintro d (hd | rfl) hf
          · exact hall d hd hf
          · rw [hp] at hf; cases hf
      · rintro ⟨⟨x, hx | rfl, hx2, hx3⟩, hall⟩
        · exact .inr (ih.2 ⟨⟨x, hx, hx2, hx3⟩, fun d hd => hall d (.inl hd)⟩)
        · exact .inl hx3.symm
    · rename_i hp
      have hp' : c.2.2 = false := by simpa using hp
      constructor
      · rintro ⟨hz, hc⟩
        obtain ⟨⟨x, hx, hx2, hx3⟩, hall⟩ := ih.1 hz
        refine ⟨⟨x, .inl hx, hx2, hx3⟩, ?_⟩
        rintro d (hd | rfl) hf
        · exact hall d hd hf
        · exact hc
      · rintro ⟨⟨x, hx | rfl, hx2, hx3⟩, hall⟩
        · exact ⟨ih.2 ⟨⟨x, hx, hx2, hx3⟩, fun d hd => hall d (.inl hd)⟩, hall c (.inr rfl) hp'⟩
        · rw [hp'] at hx2; cases hx2
theorem foldO_iff {l : List Ch} (h : l.Pairwise Bef) (z : Nm) : z ∈ foldO l ↔ (∃ c ∈ l, c.2.2 = true ∧ c.1 = z) ∧ ∀ d ∈ l, d.2.2 = false → inCut d.2.1 z.1 z.2 = false := foldO_mem _ l rfl h z
theorem foldl_pw : ∀ (l : List Ch) (t : List Nm), t.Pairwise lt → (l.foldl applyO t).Pairwise lt
  | [], _, h => h
  | c :: l, t, h => foldl_pw l _ (pw_apply h c)
theorem foldO_pw (l : List Ch) : (foldO l).Pairwise lt := foldl_pw l [] .nil
theorem foldl_sub : ∀ (l : List Ch) (t : List Nm) (z : Nm), z ∈ l.foldl applyO t → z ∈ t ∨ ∃ c ∈ l, c.1 = z
  | [], _, z, h => .inl h
  | c :: l, t, z, h => by
    rcases foldl_sub l (applyO t c) z h with h | ⟨d, hd, e⟩
    · rw [mem_apply] at h
      split at h
      · rcases h with h | h
        · exact .inr ⟨c, .head _, h.symm⟩
        · exact .inl h
      · exact .inl h.1
    · exact .inr ⟨d, .tail _ hd, e⟩
theorem foldO_sub {l : List Ch} {z : Nm} (h : z ∈ foldO l) : ∃ c ∈ l, c.1 = z := (foldl_sub l [] z h).resolve_left (by simp)
theorem foldO_sorted {l : List Ch} (h : ∀ c ∈ l, ChOk c) : sortedN (-1, 0) (foldO l) = true := by
  rw [sorted0_iff]
  refine ⟨fun z hz => ?_, foldO_pw l⟩
  obtain ⟨c, hc, rfl⟩ := foldO_sub hz
  exact (h c hc).named
theorem within_mem {c : List Int} {l : List Ch} {x : Ch} : x ∈ withinC c l ↔ x ∈ l ∧ inCut c x.1.1 x.1.2 = true := by rw [withinC, List.mem_filter]
/-- The replica of a cut is valid. -/
theorem rep_ok {l : List Ch} (h : ∀ c ∈ l, ChOk c) {c : List Int} (hc : cutV c = true) : repOk (foldO (withinC c l)) c = true := by
  simp only [repOk, Bool.and_eq_true, List.all_eq_true]
  refine ⟨⟨foldO_sorted fun x hx => h x (within_mem.1 hx).1, hc⟩, fun z hz => ?_⟩
  obtain ⟨x, hx, rfl⟩ := foldO_sub hz
  exact (within_mem.1 hx).2
/-- A cut that has what its changes know of. -/
def ClP (l : List Ch) (c : List Int) : Prop := ∀ d ∈ l, inCut c d.1.1 d.1.2 = true → ∀ z : Nm, inCut d.2.1 z.1 z.2 = true → inCut c z.1 z.2 = true
theorem clP_join {l : List Ch} {x y : List Int} (hx : cutV x = true) (hy : cutV y = true) (h1 : ClP l x) (h2 : ClP l y) : ClP l (joinL x y) := by
  intro d hd hin z hz
  rw [inCut_join hx hy, Bool.or_eq_true] at hin ⊢
  exact hin.imp (fun h => h1 d hd h z hz) (fun h => h2 d hd h z hz)
/-- THE THEOREM OF REPLICAS. -/
theorem replicas {l : List Ch} (h : l.Pairwise Bef) {x y : List Int} (hx : cutV x = true) (hy : cutV y = true) (h1 : ClP l x) (h2 : ClP l y) :
    joinT (foldO (withinC x l)) x (foldO (withinC y l)) y = foldO (withinC (joinL x y) l) := by
  obtain ⟨p1, p2⟩ := joinT_ok (foldO_pw (withinC x l)) (foldO_pw (withinC y l)) x y
  refine sorted_eq p1 (foldO_pw _) fun z => ?_
  have pw : ∀ c : List Int, (withinC c l).Pairwise Bef := fun c => h.filter _
  rw [p2, foldO_iff (pw x), foldO_iff (pw y), foldO_iff (pw (joinL x y))]
  have hj : ∀ d : Ch, d ∈ withinC (joinL x y) l ↔ d ∈ withinC x l ∨ d ∈ withinC y l := fun d => by
    rw [within_mem, within_mem, within_mem, inCut_join hx hy, Bool.or_eq_true]
    exact ⟨fun ⟨a, b⟩ => b.imp (fun b => ⟨a, b⟩) (fun b => ⟨a, b⟩), fun h => h.elim (fun h => ⟨h.1, .inl h.2⟩) (fun h => ⟨h.1, .inr h.2⟩)⟩
  have hcl : ∀ (c : List Int), ClP l c → ∀ d ∈ withinC c l, inCut c z.1 z.2 = false → inCut d.2.1 z.1 z.2 = false := fun c hc d hd hz => by
    rw [Bool.eq_false_iff]
    intro hh
    rw [hc d (within_mem.1 hd).1 (within_mem.1 hd).2 z hh] at hz
    cases hz
  constructor
  · rintro (⟨⟨⟨c, hc, hc2, hc3⟩, hall⟩, hor⟩ | ⟨⟨⟨c, hc, hc2, hc3⟩, hall⟩, hz⟩)
    · refine ⟨⟨c, (hj c).2 (.inl hc), hc2, hc3⟩, fun d hd hf => ?_⟩
      rcases (hj d).1 hd with hd | hd
      · exact hall d hd hf
      · rcases hor with ⟨-, hor⟩ | hor
        · exact hor d hd hf
        · exact hcl y h2 d hd hor
    · refine ⟨⟨c, (hj c).2 (.inr hc), hc2, hc3⟩, fun d hd hf => ?_⟩
      rcases (hj d).1 hd with hd | hd
      · exact hcl x h1 d hd hz
      · exact hall d hd hf
  · rintro ⟨⟨c, hc, hc2, hc3⟩, hall⟩
    have hin : ∀ (c' : List Int), inCut c' z.1 z.2 = true → c ∈ withinC c' l := fun c' hc' => by
      refine within_mem.2 ⟨?_, by rw [hc3]; exact hc'⟩
      rcases (hj c).1 hc with h | h
      · exact (within_mem.1 h).1
      · exact (within_mem.1 h).1
    cases r1 : inCut x z.1 z.2 with
    | true =>
      refine .inl ⟨⟨⟨c, hin x r1, hc2, hc3⟩, fun d hd hf => hall d ((hj d).2 (.inl hd)) hf⟩, ?_⟩
      cases r2 : inCut y z.1 z.2 with
      | true => exact .inl ⟨⟨c, hin y r2, hc2, hc3⟩, fun d hd hf => hall d ((hj d).2 (.inr hd)) hf⟩
      | false => exact .inr rfl
    | false =>
      refine .inr ⟨⟨⟨c, ?_, hc2, hc3⟩, fun d hd hf => hall d ((hj d).2 (.inr hd)) hf⟩, rfl⟩
      rcases (hj c).1 hc with h | h
      · have := (within_mem.1 h).2
        rw [hc3, r1] at this
        cases this
      · exact h
/-! ### The changes of a history -/
theorem made_pw {l : List Cm} (h : HistOk l) (hc : ∀ c ∈ l, (0 ≤ c.1.1 ∧ c.1.1 < 3) ∧ (1 ≤ c.1.2 ∧ c.1.2 ≤ 12) ∧ cutB 12 c.2) (b : List Int) : ∀ i, i ≤ l.length → (madeI l b i).Pairwise Bef
  | 0, _ => .nil
  | i + 1, hi => by
    rw [madeI_succ, List.pairwise_append]
    refine ⟨made_pw h hc b i (by omega), ?_, fun d hd c hcc => ?_⟩
    · simp only [mkC]
      split
      · exact List.pairwise_singleton _ _
      · exact .nil
    · simp only [madeI, List.mem_flatten, List.mem_map, List.mem_range] at hd
      obtain ⟨_, ⟨k, hk, rfl⟩, hd⟩ := hd
      simp only [mkC] at hd hcc
      split at hd
      · split at hcc
        · rw [List.mem_singleton] at hd hcc
          subst hd; subst hcc
          show inCut (ownL (l.getD k ((0, 0), [])).2 (l.getD k ((0, 0), [])).1) (l.getD i ((0, 0), [])).1.1 (l.getD i ((0, 0), [])).1.2 = false
          rw [Bool.eq_false_iff]
          intro hin
          have := hist_before h hc (i := k) (j := i) (by omega) (by omega) hin
          omega
        · simp at hcc
      · simp at hd
theorem find_name {l : List Cm} (h : HistOk l) {k : Nat} (hk : k < l.length) : l.find? (fun x => nmEq x.1 (l.getD k cm0).1) = some (l.getD k cm0) := by
  cases hf : l.find? (fun x => nmEq x.1 (l.getD k cm0).1) with
  | none =>
    have := List.find?_eq_none.1 hf _ (getD_mem' hk cm0)
    exact absurd ((nmEq_iff _ _).2 rfl) this
  | some c =>
    have h1 := List.find?_some hf
    have h2 := List.mem_of_find?_eq_some hf
    rw [nmEq_iff] at h1
    obtain ⟨j, hj, e⟩ := List.mem_iff_getElem.1 h2
    have e' : l.getD j cm0 = c := by rw [List.getD_eq_getElem?_getD, List.getElem?_eq_getElem hj]; exact e
    have := hist_name h hj hk (by rw [e']; exact h1)
    subst this
    rw [e']
theorem fitFrom_ok (h : List Cm) (c : List Int) (s : Int) : ∀ (f k : Nat), fitFrom h c s f k = f → ∀ q, q < f → okC h c s ((k + q + 1 : Nat) : Int) = true
  | 0, k, _, q, hq => by omega
  | f + 1, k, hf, q, hq => by
    simp only [fitFrom] at hf
    split at hf
    · rename_i hk
      have hf' : fitFrom h c s f (k + 1) = f := by omega
      cases q with
      | zero => simpa using hk
      | succ q =>
        have := fitFrom_ok h c s f (k + 1) hf' q (by omega)
        rw [show k + 1 + q + 1 = k + (q + 1) + 1 from by omega] at this
        exact this
    · omega
theorem leq_cut {a b : List Int} (h : leqL a b = true) {z : Nm} (hz : inCut a z.1 z.2 = true) : inCut b z.1 z.2 = true := by
  simp only [leqL, Bool.and_eq_true, cutsOk, List.all_eq_true, List.mem_range, decide_eq_true_eq] at h
  simp only [inCut, Bool.and_eq_true, decide_eq_true_eq] at hz ⊢
  have := h.2 z.1.toNat (by omega)
  exact ⟨⟨⟨⟨h.1.2, hz.1.1.1.2⟩, hz.1.1.2⟩, hz.1.2⟩, by omega⟩
/-- A closed cut has what its changes know of. -/
theorem closed_clP {l : List Cm} (h : HistOk l) (hc : ∀ c ∈ l, (0 ≤ c.1.1 ∧ c.1.1 < 3) ∧ (1 ≤ c.1.2 ∧ c.1.2 ≤ 12) ∧ cutB 12 c.2) (b : List Int) {c : List Int} (hcl : closedC l c = true) : ClP (madeL l b) c := by
  intro d hd hin z hz
  obtain ⟨k, hk, e1, e2⟩ := made_mem hd
  obtain ⟨r1, r2, r3⟩ := hc _ (getD_mem' hk ((0, 0), []))
  have hname := find_name h hk
  rw [e2] at hz
  rw [e1] at hin
  change l.find? (fun x => nmEq x.1 (l.getD k ((0, 0), [])).1) = some (l.getD k ((0, 0), [])) at hname
  generalize l.getD k ((0, 0), []) = m at *
  obtain ⟨⟨s, q⟩, past⟩ := m
  simp only at r1 r2 r3 hz hin hname
  have hin' := hin
  simp only [inCut, Bool.and_eq_true, decide_eq_true_eq] at hin'
  obtain ⟨⟨⟨⟨hv, -⟩, -⟩, hq1⟩, hq2⟩ := hin'
  simp only [closedC, hv, Bool.true_and, List.all_eq_true, List.mem_range, Bool.not_eq_true', decide_eq_false_iff_not] at hcl
  have hs6 : s.toNat < 6 := by omega
  have hfit := hcl s.toNat hs6
  have hsn : ((s.toNat : Nat) : Int) = s := by omega
  have h9 := cutV_get hv s.toNat hs6
  rw [hsn] at hfit
  unfold fitV at hfit
  have hle := fitFrom_le l c s (c.getD s.toNat 0).toNat 0
  have hok := fitFrom_ok l c s (c.getD s.toNat 0).toNat 0 (by omega) (q.toNat - 1) (by omega)
  rw [show ((0 + (q.toNat - 1) + 1 : Nat) : Int) = q from by omega] at hok
  simp only [okC, hname, Bool.and_eq_true] at hok
  obtain ⟨-, hleq⟩ := hok
  -- the own cut is at most the cut
  simp only [inCut, Bool.and_eq_true, decide_eq_true_eq] at hz
  have hat : (ownL past (s, q)).getD z.1.toNat 0 = if s = z.1 then q else past.getD z.1.toNat 0 := by
    simp only [ownL]
    rw [getD_set' _ _ _ _ _ (by rw [r3.1]; omega)]
    by_cases e : s = z.1
    · rw [if_pos e, if_pos (by rw [e])]
    · rw [if_neg e, if_neg (by omega)]
  rw [hat] at hz
  by_cases e : s = z.1
  · rw [if_pos e] at hz
    simp only [inCut, Bool.and_eq_true, decide_eq_true_eq]
    rw [e] at hq2
    exact ⟨⟨⟨⟨hv, hz.1.1.1.2⟩, hz.1.1.2⟩, hz.1.2⟩, by omega⟩
  · rw [if_neg e] at hz
    refine leq_cut hleq ?_
    simp only [inCut, Bool.and_eq_true, decide_eq_true_eq]
    exact ⟨⟨⟨⟨cutB_V r3 (by omega), hz.1.1.1.2⟩, hz.1.1.2⟩, hz.1.2⟩, hz.2⟩
theorem grC_end {h : List Cm} : ∀ (f : Nat) (c : List Int), cutV c = true → sumC c < f → closedC h (grC h f c) = true ∧ cutV (grC h f c) = true
  | 0, _, _, h => by omega
  | f + 1, c, hc, hs => by
    simp only [grC]
    split
    · rename_i hcl
      exact ⟨hcl, hc⟩
    · rename_i hcl
      have h3 := round_less hc (by simpa using hcl)
      exact grC_end f _ (roundC_ok hc 6 (Nat.le_refl _)) (by omega)
theorem greatest_ok {h : List Cm} {c : List Int} (hc : cutV c = true) : closedC h (greatest h c) = true ∧ cutV (greatest h c) = true := grC_end _ c hc (by omega)
theorem cutOf_ok (h : List Cm) {b : List Int} (hb : ∀ x ∈ b, 0 ≤ x ∧ x < 256) : closedC h (cutOf h b) = true ∧ cutV (cutOf h b) = true := by
  unfold cutOf
  split
  · exact greatest_ok (by decide)
  · exact greatest_ok (cutV_lim b hb)
end
section
set_option linter.unusedVariables false
set_option linter.unusedSimpArgs false
/-- The change k knows of the change i. -/
def see (L : List Ch) (k i : Nat) : Bool := inCut (L.getD k ch0).2.1 (L.getD i ch0).1.1 (L.getD i ch0).1.2
theorem see_before {L : List Ch} (h : L.Pairwise Bef) {k i : Nat} (hk : k < L.length) (hi : i < L.length) (hne : i ≠ k) (hs : see L k i = true) : i < k := by
  refine Decidable.byContradiction fun hlt => ?_
  have := List.pairwise_iff_getElem.1 h k i hk hi (by omega)
  have e1 : L.getD k ch0 = L[k] := by rw [List.getD_eq_getElem?_getD, List.getElem?_eq_getElem hk]; rfl
  have e2 : L.getD i ch0 = L[i] := by rw [List.getD_eq_getElem?_getD, List.getElem?_eq_getElem hi]; rfl
  simp only [see, e1, e2] at hs
  rw [show inCut L[k].2.1 L[i].1.1 L[i].1.2 = false from this] at hs
  cases hs
def seekK (L : List Ch) : Nat → Nat → Nat → Nat
  | 0, k, _ => k
  | f + 1, k, i => if i < L.length then (if i ≠ k ∧ see L k i = true then seekK L f i 0 else seekK L f k (i + 1)) else k
def mu (n k i : Nat) : Nat := k * (n + 1) + (n - i)
theorem mu_jump {n k i : Nat} (h : i < k) (hn : i < n) : mu n i 0 < mu n k i := by
  unfold mu
  have h1 : (i + 1) * (n + 1) ≤ k * (n + 1) := Nat.mul_le_mul_right _ h
  rw [Nat.succ_mul] at h1
  generalize i * (n + 1) = p at *
  generalize k * (n + 1) = q at *
  omega
theorem mu_next {n k i : Nat} (hn : i < n) : mu n k (i + 1) < mu n k i := by
  unfold mu
  generalize k * (n + 1) = q at *
  omega
theorem seekK_fuel {L : List Ch} (h : L.Pairwise Bef) : ∀ (f g k i : Nat), k < L.length → mu L.length k i < f → mu L.length k i < g → seekK L f k i = seekK L g k i
  | 0, _, _, _, _, h1, _ => by omega
  | _, 0, _, _, _, _, h2 => by omega
  | f + 1, g + 1, k, i, hk, h1, h2 => by
    simp only [seekK]
    by_cases hi : i < L.length
    · rw [if_pos hi, if_pos hi]
      by_cases hs : i ≠ k ∧ see L k i = true
      · rw [if_pos hs, if_pos hs]
        have := mu_jump (see_before h hk hi hs.1 hs.2) hi
        exact seekK_fuel h f g i 0 hi (by omega) (by omega)
      · rw [if_neg hs, if_neg hs]
        have := mu_next (k := k) hi
        exact seekK_fuel h f g k (i + 1) hk (by omega) (by omega)
    · rw [if_neg hi, if_neg hi]
def seek (L : List Ch) (k i : Nat) : Nat := seekK L (mu L.length k i + 1) k i
theorem seek_done {L : List Ch} {k i : Nat} (hi : ¬ i < L.length) : seek L k i = k := by
  simp only [seek, seekK, if_neg hi]
theorem seek_jump {L : List Ch} (h : L.Pairwise Bef) {k i : Nat} (hk : k < L.length) (hi : i < L.length) (hne : i ≠ k) (hs : see L k i = true) : seek L k i = seek L i 0 := by
  have := mu_jump (see_before h hk hi hne hs) hi
  simp only [seek]
  rw [seekK, if_pos hi, if_pos ⟨hne, hs⟩]
  exact seekK_fuel h _ _ _ _ hi this (by omega)
theorem seek_next {L : List Ch} (h : L.Pairwise Bef) {k i : Nat} (hk : k < L.length) (hi : i < L.length) (hs : ¬ (i ≠ k ∧ see L k i = true)) : seek L k i = seek L k (i + 1) := by
  have := mu_next (k := k) hi
  simp only [seek]
  rw [seekK, if_pos hi, if_neg hs]
  exact seekK_fuel h _ _ _ _ hk this (by omega)
theorem seekK_ok {L : List Ch} (h : L.Pairwise Bef) : ∀ (f k i : Nat), k < L.length → mu L.length k i < f → (∀ j, j < i → j < L.length → j ≠ k → see L k j = false) →
    seekK L f k i < L.length ∧ ∀ j, j < L.length → j ≠ seekK L f k i → see L (seekK L f k i) j = false
  | 0, _, _, _, h1, _ => by omega
  | f + 1, k, i, hk, h1, hall => by
    simp only [seekK]
    by_cases hi : i < L.length
    · rw [if_pos hi]
      by_cases hs : i ≠ k ∧ see L k i = true
      · rw [if_pos hs]
        have := mu_jump (see_before h hk hi hs.1 hs.2) hi
        exact seekK_ok h f i 0 hi (by omega) (fun j hj => by omega)
      · rw [if_neg hs]
        have := mu_next (k := k) hi
        refine seekK_ok h f k (i + 1) hk (by omega) fun j hj hjl hne => ?_
        by_cases e : j = i
        · subst e
          cases hsee : see L k j with
          | false => rfl
          | true => exact absurd ⟨hne, hsee⟩ hs
        · exact hall j (by omega) hjl hne
    · rw [if_neg hi]
      exact ⟨hk, fun j hj hne => hall j (by omega) hj hne⟩
theorem seek_ok {L : List Ch} (h : L.Pairwise Bef) {k : Nat} (hk : k < L.length) : seek L k 0 < L.length ∧ ∀ j, j < L.length → j ≠ seek L k 0 → see L (seek L k 0) j = false :=
  seekK_ok h _ k 0 hk (by omega) (fun j hj => by omega)
/-- Where the search begins. -/
def startK (b : List Int) (st n : Nat) : Nat := if b.length = 0 then 0 else (b.getD (st % b.length) 0).toNat % n
def caus (b : List Int) : Nat → Nat → List Ch → List Ch
  | 0, _, _ => []
  | f + 1, st, L => if L.length = 0 then [] else L.getD (seek L (startK b st L.length) 0) ch0 :: caus b f (st + 1) (L.take (seek L (startK b st L.length) 0) ++ L.drop (seek L (startK b st L.length) 0 + 1))
theorem startK_lt (b : List Int) (st : Nat) {n : Nat} (hn : 0 < n) : startK b st n < n := by
  unfold startK
  split
  · exact hn
  · exact Nat.mod_lt _ hn
theorem cut_len {L : List Ch} {k : Nat} (hk : k < L.length) : (L.take k ++ L.drop (k + 1)).length + 1 = L.length := by
  rw [List.length_append, List.length_take, List.length_drop]; omega
theorem cut_mem {L : List Ch} {k : Nat} (hk : k < L.length) (x : Ch) : x ∈ L ↔ x = L.getD k ch0 ∨ x ∈ L.take k ++ L.drop (k + 1) := by
  have e : L = L.take k ++ L.getD k ch0 :: L.drop (k + 1) := by
    conv => lhs; rw [← List.take_append_drop k L]
    congr 1
    rw [List.drop_eq_getElem_cons hk]
    congr 1
    rw [List.getD_eq_getElem?_getD, List.getElem?_eq_getElem hk]; rfl
  conv => lhs; rw [e]
  simp only [List.mem_append, List.mem_cons]
  constructor
  · rintro (h | h | h)
    · exact .inr (.inl h)
    · exact .inl h
    · exact .inr (.inr h)
  · rintro (h | h | h)
    · exact .inr (.inl h)
    · exact .inl h
    · exact .inr (.inr h)
theorem cut_sub {L : List Ch} (k : Nat) : (L.take k ++ L.drop (k + 1)).Sublist L := by
  conv => rhs; rw [← List.take_append_drop k L]
  refine (List.Sublist.refl _).append ?_
  rw [show L.drop (k + 1) = (L.drop k).drop 1 from by rw [List.drop_drop]]
  exact List.drop_sublist _ _
theorem cut_idx {L : List Ch} {k : Nat} {x : Ch} (h : x ∈ L.take k ++ L.drop (k + 1)) : ∃ j, j < L.length ∧ j ≠ k ∧ L.getD j ch0 = x := by
  rcases List.mem_append.1 h with h | h
  · obtain ⟨j, hj, e⟩ := List.mem_iff_getElem.1 h
    rw [List.length_take] at hj
    refine ⟨j, by omega, by omega, ?_⟩
    rw [List.getElem_take] at e
    rw [List.getD_eq_getElem?_getD, List.getElem?_eq_getElem (by omega)]; exact e
  · obtain ⟨j, hj, e⟩ := List.mem_iff_getElem.1 h
    rw [List.length_drop] at hj
    refine ⟨k + 1 + j, by omega, by omega, ?_⟩
    rw [List.getElem_drop] at e
    rw [List.getD_eq_getElem?_getD, List.getElem?_eq_getElem (by omega)]; exact e
theorem caus_ok (b : List Int) : ∀ (f st : Nat) (L : List Ch), L.length ≤ f → L.Pairwise Bef → (caus b f st L).Pairwise Bef ∧ ∀ x, x ∈ caus b f st L ↔ x ∈ L
  | 0, st, L, hl, _ => by
    have : L = [] := List.eq_nil_of_length_eq_zero (by omega)
    subst this
    exact ⟨.nil, fun x => Iff.rfl⟩
  | f + 1, st, L, hl, h => by
    simp only [caus]
    by_cases h0 : L.length = 0
    · rw [if_pos h0]
      have : L = [] := List.eq_nil_of_length_eq_zero h0
      subst this
      exact ⟨.nil, fun x => Iff.rfl⟩
    · rw [if_neg h0]
      obtain ⟨hk, hall⟩ := seek_ok h (startK_lt b st (n := L.length) (by omega))
      generalize seek L (startK b st L.length) 0 = k at *
      have hlen := cut_len hk
      obtain ⟨ih1, ih2⟩ := caus_ok b f (st + 1) (L.take k ++ L.drop (k + 1)) (by omega) (h.sublist (cut_sub k))
      refine ⟨List.pairwise_cons.2 ⟨fun x hx => ?_, ih1⟩, fun x => ?_⟩
      · obtain ⟨j, hj, hne, rfl⟩ := cut_idx ((ih2 x).1 hx)
        exact hall j hj hne
      · rw [List.mem_cons, ih2, cut_mem hk]
def causL (l : List Ch) (b : List Int) : List Ch := caus b l.length 0 l
theorem causL_ok {l : List Ch} (b : List Int) (h : l.Pairwise Bef) : (causL l b).Pairwise Bef ∧ ∀ x, x ∈ causL l b ↔ x ∈ l := caus_ok b _ 0 l (Nat.le_refl _) h
theorem caus_len (b : List Int) : ∀ (f st : Nat) (L : List Ch), (caus b f st L).length ≤ f
  | 0, _, _ => Nat.le_refl _
  | f + 1, st, L => by
    simp only [caus]
    split
    · simp
    · have := caus_len b f (st + 1) (L.take (seek L (startK b st L.length) 0) ++ L.drop (seek L (startK b st L.length) 0 + 1))
      simp only [List.length_cons]; omega
theorem causal_fold {l : List Ch} (b : List Int) (h : l.Pairwise Bef) : foldO (causL l b) = foldO l := by
  obtain ⟨h1, h2⟩ := causL_ok b h
  refine sorted_eq (foldO_pw _) (foldO_pw _) fun z => ?_
  rw [foldO_iff h1, foldO_iff h]
  simp only [h2]
end
end Go.Proofs.Ytalbfikfbejnfaa.A
