/- BoundsOf: the law. (Written by mk27.py.) The package's variables, of what the rows tell of them. (Written by mk28.py.) The rows' condition gives the walks' one; a world that meets it. Data of the arguments' types. BoundsOf, for whatever reads as its arguments. -/
import Derived.Test.YtopigomfhggkoaaDoorY3
import Derived.Test.YtopigomfhggkoaaDoorT
import Derived.Test.YtopigomfhggkoaaDoorM1
import Derived.Test.YtopigomfhggkoaaDoorRows
import Derived.LaidSub
import Derived.LaidHandle
import Derived.LaidLaws
import Derived.Test.YtopigomfhggkoaaDoorR2
namespace Go.Proofs.YtopigomfhggkoaaDoor.A
attribute [local go_sem] Int.reduceBEq Nat.reduceAdd Nat.reduceSub Nat.reduceMul Nat.reduceLT Nat.reduceLeDiff Nat.reduceEqDiff Nat.reduceBEq reduceIte reduceCtorEq e_step_none e_slotU e_slotB e_move e_assign e_pick e_unOp e_binOp e_alloc e_box e_build e_buildSlice e_load e_store e_fieldAddr e_field e_indexAddr e_index e_slice e_sliceM e_makeSlice e_makeFunc e_convert e_extract e_nilCheck e_lookup e_look e_lookS1 e_lookS0 e_find0 e_find1 e_findT e_findF e_sameI e_sameTT e_sameTF e_sameFT e_sameFF e_commaT e_commaF e_valAgg e_valFn e_valI e_len e_append e_max e_min e_call e_callV e_fn e_cap_ptr e_cap_lit e_cap_sl e_cap_fn e_fnOf_lit e_fnOf_clo e_fnOf_fn e_flat_mp e_cap_mp e_ev_global e_flat_fn e_clo e_ev_tmp e_ev_int e_ev_bool e_ev_string e_ev_slice e_ev_nilFunc e_ev_nilIface e_ev_pointer e_ev_agg e_ev_func e_pickT e_pickF e_not e_neg e_add e_sub e_mul e_quo e_rem e_eql e_neq e_lss e_leq e_gtr e_geq e_shl e_shr e_and e_or e_xor e_andNot e_beq e_bne e_sadd e_seql e_sneq e_b2_d e_b2_nil e_b2_nnil e_b2_agg e_lits_nil e_lits_cons e_litC e_eqR e_eqArr e_eqOnes_nil e_eqOnes_cons e_eqO_e e_eqO_n e_eqV4 e_eqV3 e_eqV2 e_eqV1 e_eqFs_nil e_eqFs_cons e_and2 e_eq1 e_eqL_i e_eqL_s e_eqL_b e_allocR e_boxR e_box_agg e_box_d e_box_own e_box_clo e_one_nil e_one_d e_one_own e_one_clo e_one_ptr e_cells_agg e_cells_d e_cells_own e_cells_clo e_cells_ptr e_ob_own e_ob_ptr e_ob_elo e_ob_d e_ob_el e_ob_agg e_load_box e_load_fzb e_load_el e_load_elo e_storeX_ptr e_storeX_d e_storeX_own e_storeX_agg e_storeX_el e_storeC' e_notIn_nil e_notIn_cons e_store_box e_storeB e_store_elo e_store_elo_agg e_storeE e_fa_ptr e_fa_el e_fa_elo e_faR e_fd e_fdR e_ia_d e_ia_row e_ia_fz e_ia_ptr e_ia_el e_ix_s e_ix_a e_len_s e_len_nil e_len_d e_len_row e_len_fz e_conv_i e_conv_s e_conv_own e_conv_sl e_extr e_maxR e_minR e_nil_ptr e_nil_el e_nil_elo e_rows_nil e_rows_d e_rows_row e_rows_fz e_rok_nil e_rok_d e_rok_row e_rok_fz e_app_row e_appR e_app_nil e_appN e_make e_bnd_none e_bnd_some e_optmap_none e_optmap_some e_slR e_slRe e_sl_s e_sl_d e_slM_d e_sl_nil e_sl_row e_sl_fz e_fill_nil e_fill_cons e_fill1 e_placeS e_plS e_placeE e_buildO e_build1 e_build2 e_build3 e_bindD e_bs e_bsR e_allD_nil e_allD_cons e_allD_el e_allD_clo e_allD2 e_allD1 e_chunk0 e_chunkS e_clP_nil e_clP_cons e_cl_d e_cl_any e_cl_el e_cl_agg e_cl_tup e_cl_clo e_cl_own e_clOwn_row e_clOwn_fz e_cl_ptr e_clPtr_box e_clBox e_clPtr_fzb e_clL_nil e_clL_cons e_ok_d e_ok_any e_ok_el e_ok_agg e_ok_tup e_ok_clo e_ok_own e_okOwn_row e_okOwn_fz e_ok_ptr e_okPtr_box e_okPtr_fzb e_okL_nil e_okL_cons e_ids_d e_ids_any e_ids_el e_ids_own e_ids_ptr e_ids_agg e_ids_tup e_ids_clo e_idsL_nil e_idsL_cons e_frz_nil e_frz_cons e_frz_row e_frz_fz e_frz_fzb e_frz_box e_frzB e_flat_lit e_flat_sl e_flat_agg e_flat_tup e_flat_any e_flat_clo e_flatL_nil e_flatL_cons e_new_lit e_new_agg e_new_tup e_new_own e_newOwn_row e_newL_nil e_newL_cons e_objD e_setMany e_takeA e_zerosA e_gdL e_idsG e_idsOp e_callV' e_callN' e_callF' e_o_move e_o_assign e_o_pick
attribute [local go_sem] e_o_unOp e_o_binOp e_o_alloc e_o_box e_o_build e_o_buildSlice e_o_load e_o_store e_o_fieldAddr e_o_field e_o_indexAddr e_o_index e_o_slice0 e_o_slice1 e_o_slice2 e_o_slice3 e_o_sliceM e_o_makeSlice e_o_makeFunc e_o_convert e_o_extract e_o_nilCheck e_o_lookup e_o_bcall e_o_vcall litI litB litS List.map_cons List.map_nil List.getD_cons_zero List.getD_cons_succ List.getD_nil List.getElem?_cons_zero List.getElem?_cons_succ List.getElem?_nil Option.getD_some Option.getD_none Option.map_some Option.map_none List.length_cons List.length_nil List.all_cons List.all_nil Bool.and_true Bool.true_and and_true true_and and_self List.take_zero List.take_succ_cons List.drop_zero List.drop_succ_cons List.nil_append List.cons_append List.append_nil List.replicate_succ List.replicate_zero List.flatten_cons List.flatten_nil Nat.zero_add Nat.add_zero Nat.mul_one Nat.zero_mul Nat.one_mul Nat.mul_zero List.set_cons_zero List.set_cons_succ List.foldl_cons List.foldl_nil appendOk rowsOk inB sliceOk cutRows mtake mdrop List.length_append List.length_take List.length_drop if_true if_false or_false or_true true_or Bool.not_true Bool.not_false Bool.false_eq_true List.length_map Int.toNat_natCast Int.toNat_zero Int.toNat_one eq_self St.after St.put applyEff R0 globA globF globs T1 T2 T3 T4 T5 T6 T7 T9 T10 T15 T22 T23 T24 T26 T28 T29 T31 T33 T35 T37 T39 T40 T42 T44 T49 T51 T58 T67 T69 T71 T76 T80 T84 T87 T90 T95 T100 T103 T108 T109 T111 T112 T113 T124 T128 T129 ti1 ti2 ti3 ti4 ti5 ti6 ti7 ti9 ti10 ti15 ti22 ti23 ti24 ti26 ti28 ti29 ti31 ti33 ti35 ti37 ti39 ti40 ti42 ti44 ti49 ti51 ti58 ti67 ti69 ti71 ti76 ti80 ti84 ti87 ti90 ti95 ti100 ti103 ti108 ti109 ti111 ti112 ti113 ti124 ti128 ti129
section
set_option linter.unusedVariables false
set_option linter.unusedSimpArgs false
open Go.RowKit
attribute [local irreducible] Spec SpecF SpecN
attribute [local irreducible] AWp evOps evD
def cntZ (l : List Vl) : Int := ((l.filter fun v => v.k == 0).length : Int)
def anyV (w : Vl) (l : List Vl) : Bool := l.any fun v => eqVl v w && (v.k != 0)
theorem cntZ_bd (l : List Vl) : 0 ≤ cntZ l ∧ cntZ l ≤ l.length := by
  have : (l.filter fun v => v.k == 0).length ≤ l.length := List.length_filter_le _ _
  unfold cntZ; omega
theorem cntZ_step (l : List Vl) (v : Vl) : cntZ (l ++ [v]) = if (v.k == 0) = true then cntZ l + 1 else cntZ l := by
  unfold cntZ
  rw [List.filter_append, List.length_append]
  cases h : (v.k == 0) <;> simp [h]
theorem anyV_step (w : Vl) (l : List Vl) (v : Vl) : anyV w (l ++ [v]) = (anyV w l || (eqVl v w && (v.k != 0))) := by
  simp [anyV, List.any_append]
theorem nums_step (l : List Vl) (v : Vl) : sumL (numsV (l ++ [v])) = if (v.k == 2) = true then sumL (numsV l) + v.i else sumL (numsV l) := by
  rw [numsV_append, sumL_append]
  cases h : (v.k == 2) <;> simp [numsV, h, sumL]
theorem len_nn (l : List Vl) : nullsN l + (nn l).length = l.length := by
  induction l with
  | nil => rfl
  | cons v l ih =>
    unfold nullsN nn at *
    cases h : isNull v <;> simp [h] <;> omega
theorem Gd.zero {k : Int} {l : List Vl} (h : Gd k l) (hk : k = 1 ∨ k = 2 ∨ k = 3) {v : Vl} (hv : v ∈ l) : (v.k == 0) = isNull v := by
  cases hn : isNull v with
  | true => rw [null_k hn]; rfl
  | false => rw [h.kind v hv hn]; rcases hk with rfl | rfl | rfl <;> rfl
theorem cntZ_nulls {k : Int} {l : List Vl} (h : Gd k l) (hk : k = 1 ∨ k = 2 ∨ k = 3) : cntZ l = (nullsN l : Int) := by
  unfold cntZ nullsN
  rw [List.filter_congr fun v hv => h.zero hk hv]
theorem any_has {k : Int} {l m : List Vl} {c : Bd} (h : Gd k l) (hk : k = 1 ∨ k = 2 ∨ k = 3) (hI : IsS l c) (hm : ∀ v, v ∈ m ↔ v ∈ l) : anyV c.lo m = c.has ∧ anyV c.hi m = c.has := by
  cases hh : c.has with
  | true =>
    have g : ∀ w, w ∈ nn l → anyV w m = true := fun w hw => by
      have hw' := mem_nn.1 hw
      unfold anyV
      rw [List.any_eq_true]
      refine ⟨w, (hm w).2 hw'.1, ?_⟩
      have := h.zero hk hw'.1
      rw [hw'.2] at this
      have h0 : w.k ≠ 0 := by simpa using this
      rw [eqVl_self, Bool.true_and]
      simpa using h0
    exact ⟨g _ (hI.lo hh).1, g _ (hI.hi hh).1⟩
  | false =>
    have hz : nn l = [] := by
      have := hI.has
      rw [hh] at this
      simpa using this
    have g : ∀ w, anyV w m = false := fun w => by
      unfold anyV
      rw [List.any_eq_false]
      intro v hv
      have hv' := (hm v).1 hv
      have hn : isNull v = true := by
        cases hn : isNull v with
        | true => rfl
        | false =>
          have : v ∈ nn l := mem_nn.2 ⟨hv', hn⟩
          rw [hz] at this; cases this
      rw [null_k hn]; simp
    exact ⟨g _, g _⟩
theorem rev_at (l : List Vl) {i : Nat} (h : i < l.length) : l.getD (l.length - 1 - i) dV = l.reverse.getD i dV := by
  rw [List.getD_eq_getElem?_getD, List.getD_eq_getElem?_getD, List.getElem?_reverse h]
set_option maxHeartbeats 16000000 in
set_option maxRecDepth 10000 in
theorem f4_spec (kd : Int) (hkd : 0 ≤ kd ∧ kd < 256) (b : List Int) (hb : ∀ x ∈ b, 0 ≤ x ∧ x < 256) : Spec Tryd.prog 4 [litI .u8 kd, .d (bytesD b)] (litB true) := by
  have h7 := f7_spec
  have t0 := Int.tmod_nonneg 3 hkd.1
  have t1 := Int.tmod_lt_of_pos kd (b := 3) (by decide)
  have w1 : IntKind.i64.wrap (kd.tmod 3) = kd.tmod 3 := wrap_id (by omega)
  have w2 : IntKind.i64.wrap (1 + kd.tmod 3) = 1 + kd.tmod 3 := wrap_id (by omega)
  have hK : 1 + kd.tmod 3 = 1 ∨ 1 + kd.tmod 3 = 2 ∨ 1 + kd.tmod 3 = 3 := by omega
  have h25 := f25_spec (1 + kd.tmod 3) b hb
  obtain ⟨K, hKK⟩ : ∃ K, 1 + kd.tmod 3 = K := ⟨_, rfl⟩
  rw [hKK] at h25 hK w2
  have w2' : IntKind.i64.wrap (1 + kd.tmod 3) = K := by rw [hKK]; exact w2
  have hg := valsM_gd hK hb
  have hlen := valsM_len K b
  generalize valsM K b = l at *
  obtain ⟨c, hM, hI⟩ := ofM_is hg (by omega)
  have hgr : Gd K l.reverse := hg.sub fun v hv => List.mem_reverse.1 hv
  obtain ⟨c', hM', hI'⟩ := ofM_is hgr (by rw [List.length_reverse]; omega)
  have hcc : c' = c := hI'.perm hI (List.reverse_perm l)
  subst hcc
  have h12 := f12_spec l hg.ok (by omega)
  rw [hM] at h12
  have h12r := f12_spec l.reverse hgr.ok (by rw [List.length_reverse]; omega)
  rw [hM'] at h12r
  have hok := hI.ok hg (by omega)
  have h16 := f16_spec c' hok.lo.s hok.hi.s
  rw [hI.valid hg (by omega)] at h16
  have hfl := any_has hg hK hI (fun v => (List.mem_reverse : v ∈ l.reverse ↔ v ∈ l))
  have hcn : cntZ l.reverse = c'.nulls := by
    rw [cntZ_nulls hgr hK, hI'.nulls]
  have hsn : sumL (numsV l.reverse) = c'.sum := hI'.sum.symm
  have hnl : decide (c'.nulls < (l.length : Int)) = c'.has := by
    have e1 := len_nn l
    rw [Bool.eq_iff_iff, decide_eq_true_eq, hI.has, hI.nulls]
    cases hq : nn l with
    | nil => rw [hq] at e1; simp at e1 ⊢; omega
    | cons a m => rw [hq] at e1; simp at e1 ⊢; omega
  simp only [got] at h12 h12r
  refine spec_of_awp (fn := Tryd.f4) Tryd.func4 (by kernel_rfl) rfl ?_
  intro w0 C0
  simp only [Tryd.ntmps4, litI, litB, litS, List.length_cons, List.length_nil, Nat.reduceAdd, Nat.reduceSub, List.replicate_succ, List.replicate_zero, List.cons_append, List.nil_append]
  repeat' first
    | refine awp_seq ?_
    | refine awp_block ?_
    | refine awp_skip ?_
    | (refine reg _ (by (simp only [List.map_cons, List.map_nil]; rfl)) rfl ?_; intro K hK)
    | (refine awp_cond _ (by rfl) ?_ ?_ <;> (intro hb; first | (cases hb; done) | (have ht : true = true := hb; clear ht hb) | (have ht : false = false := hb; clear ht hb) | (simp only [hb]) | skip))
    | (refine awp_exit ?_; simp only [thenA, blockA, scopeA, reduceIte, RetQ, Nat.reduceEqDiff])
    | (refine awp_ret ?_; simp only [thenA, blockA, scopeA, RetQ])
    | (refine ev_nil (hK _ ?_); clear hK K)
    | (apply ev_guardU; (case hj | hu | hσ => (simp only [go_sem, w1, w2']; try rfl)))
    | (refine ev_guardT _ _ (by (simp only [go_sem, w1, w2']; rfl)) (by (simp only [go_sem, w1, w2']; rfl)) ?_ ?_ <;> (intro hb; first | (cases hb; done) | (have ht : true = true := hb; clear ht hb) | (have ht : false = false := hb; clear ht hb) | (simp only [hb]) | skip))
    | (refine ev_guardF _ _ (by (simp only [go_sem, w1, w2']; rfl)) (by (simp only [go_sem, w1, w2']; rfl)) ?_ ?_ <;> (intro hb; first | (cases hb; done) | (have ht : true = true := hb; clear ht hb) | (have ht : false = false := hb; clear ht hb) | (simp only [hb]) | skip))
    | (apply ev_call0; (case hys => (simp only [go_sem, w1, w2']; try rfl)); (case hs => first | exact h7 .. | exact h25 .. | exact h12 .. | exact h16 ..); (case hok | hσ => (simp only [go_sem, w1, w2']; try rfl)))
    | (apply regD; (case hd => (simp only [List.map_cons, List.map_nil]; rfl)); (case hok => rfl); (case' h => (intro K hK; (repeat' first
        | (apply evd_nil; refine (hK _ ?_); clear hK K)
        | (apply evd_guardU0; (case hj | hu | hσ => (simp only [go_sem, w1, w2']; try rfl)))
        | (apply evd_guardU; (case hj | hu | hσ => (simp only [go_sem, w1, w2']; try rfl)))
        | (apply evd_skipT0; (case hj | hb | hσ => (simp only [go_sem, w1, w2']; try rfl)))
        | (apply evd_skipF0; (case hj | hb | hσ => (simp only [go_sem, w1, w2']; try rfl)))
        | (apply evd_skipT; (case hj | hb | hσ => (simp only [go_sem, w1, w2']; try rfl)))
        | (apply evd_skipF; (case hj | hb | hσ => (simp only [go_sem, w1, w2']; try rfl)))
        | (apply evd_guardT; (case hj | hb => (simp only [go_sem, w1, w2']; try rfl)); (case' h2 => (intro hb; first | (cases hb; done) | (simp only [hb]) | skip)); (case' h1 => (intro hb; first | (cases hb; done) | (simp only [hb]) | skip)))
        | (apply evd_guardF; (case hj | hb => (simp only [go_sem, w1, w2']; try rfl)); (case' h2 => (intro hb; first | (cases hb; done) | (simp only [hb]) | skip)); (case' h1 => (intro hb; first | (cases hb; done) | (simp only [hb]) | skip)))
        | (apply evd_call0; (case hi | hys => (simp only [go_sem, w1, w2']; try rfl)); (case hs => first | exact h7 .. | exact h25 .. | exact h12 .. | exact h16 ..); (case hok | hw | hσ => (simp only [go_sem, w1, w2']; try rfl)))
        | (apply evd_step0; (case hr | hi | hσ => (simp only [go_sem, w1, w2']; try rfl)); (case hc => (first | trivial | exact look_ok (by kernel_rfl) (by kernel_rfl) | decide | (simp only [inB, sliceOk, appendOk, rowsOk]; omega) | (simp [inB, sliceOk, appendOk, rowsOk]; omega))))
        | (apply evd_step; (case hr | hi => (simp only [go_sem, w1, w2']; try rfl)); (case hc => (first | trivial | exact look_ok (by kernel_rfl) (by kernel_rfl) | decide | (simp only [inB, sliceOk, appendOk, rowsOk]; omega) | (simp [inB, sliceOk, appendOk, rowsOk]; omega))); (case hw | hσ => (intro g u; simp only [go_sem, w1, w2']; try rfl)); (case' hk => (intro g u; (try clear u); (try clear g))))
        | fail))); (case hB => kernel_rfl))
    | (apply ev_step0; (case hr | hσ => (simp only [go_sem, w1, w2']; try rfl)); (case hc => (first | trivial | exact look_ok (by kernel_rfl) (by kernel_rfl) | decide | (simp only [inB, sliceOk, appendOk, rowsOk]; omega) | (simp [inB, sliceOk, appendOk, rowsOk]; omega))))
    | (apply ev_step; (case hr => (simp only [go_sem, w1, w2']; try rfl)); (case hσ => (intro g u; simp only [go_sem, w1, w2']; try rfl)); (case hc => (first | trivial | exact look_ok (by kernel_rfl) (by kernel_rfl) | decide | (simp only [inB, sliceOk, appendOk, rowsOk]; omega) | (simp [inB, sliceOk, appendOk, rowsOk]; omega))); intro g u; (try clear u); (try clear g))
    | fail
  refine awp_loopI (fun j : Nat × Value => j.1 ≤ l.length) (fun j => l.length - j.1) (fun j => ⟨[.any, .any, .any, .any, litB false, litB true, .d (vls l), .ptr 7 g 0, litI .i64 (cntZ (l.reverse.take j.1)), litI .i64 (sumL (numsV (l.reverse.take j.1))), litB (anyV c'.lo (l.reverse.take j.1)), litB (anyV c'.hi (l.reverse.take j.1)), .own 35 j.2, litI .i64 j.1, .any, .any, .any, .any, .any, .any, .any, .any, .any, .any, .any, .any, .any, .any, .any, .any, .any, .any, .any, .any, .any, .any, .any, .any, .any, .any, .any, .any, .any, .any, .any, .any, .any, .any, .any, .any, .any, .any, .any, .any, .any, .any, .any, .any, .any, .any, .any, .any, .any, .any, .any, .any, .any, .any, .any, .any, .any, .any, .any, .any, .any, .any, .any, .any, .any, .any, .any, .any, .any, .any, .any, .any, .any, .any, .any, .any, .any, .any, .any, .any, .any, .any, .any, .any, .any, .any, .any, .any, .any, .any, .any, .any, .any, .any, .any, .any, .any, .any, .any, .any, .any, .any, .any, .any, .any, .any, .any, .any, .any, .any, .any, .any, .any, .any, .any, .any, .any, .any, .any, .any, .any, .any, .any, .any, .any, .any, .any, .any], [.no, .no, .no, .no, .no, .no, .no, .box g (got (c', 0)), .no, .no, .no, .no, .no, .no, .no, .no, .no, .no, .no, .no, .no, .no, .no, .no, .no, .no, .no, .no, .no, .no, .no, .no, .no, .no, .no, .row j.2 26 3 ((l.reverse.take j.1).map vlD), .no, .no, .no, .no, .no, .no, .no, .no, .no, .no, .no, .no, .no, .no, .no, .no, .no, .no, .no, .no, .no, .no, .no, .no, .no, .no, .no, .no, .no, .no, .no, .no, .no, .no, .no, .no, .no, .no, .no, .no, .no, .no, .no, .no, .no, .no, .no, .no, .no, .no, .no, .no, .no, .no, .no, .no, .no, .no, .no, .no, .no, .no, .no, .no, .no, .no, .no, .no, .no, .no, .no, .no, .no, .no, .no, .no, .no, .no, .no, .no, .no, .no, .no, .no, .no, .no, .no, .no, .no, .no, .no, .no, .no, .no, .no, .no, .no, .no, .no, .no, .no, .no, .no, .no, .no, .no]⟩) (0, u) (by simp) ?_ ?_
  · simp only [List.take_zero, List.map_nil]
    refine Wk.mk ?_ ?_
    all_goals (repeat' first | exact trivial | exact LeA.refl _ | exact LeA.any _ | exact LeO.refl _ | exact LeO.no _ | exact LeA.nil _ | exact LeA.nilOwn _ | exact LeO.nil _ _ _ | refine LeO.box ?_ | (refine LeA.i ?_; (first | rfl | (push_cast; rfl) | (rw [wrap_id (by omega)]; push_cast; omega) | (simp [wrap_id]; omega))) | refine ⟨?_, ?_⟩)
  rintro ⟨i, v0⟩ hi
  simp only [litI, litB, litS] at hi ⊢
  by_cases hlt : i < l.length
  rotate_left
  · have hil : i = l.length := by omega
    subst hil
    have hdec : decide ((l.length : Int) < (l.length : Int)) = false := by simp
    rw [List.take_of_length_le (by rw [List.length_reverse]; omega), hcn, hsn, hfl.1, hfl.2]
    generalize l.reverse = r at *
    obtain ⟨cn, ch, clo, chi, cs⟩ := c'
    simp only at hnl h12r ⊢
    cases ch
    all_goals
      repeat' first
        | refine awp_seq ?_
        | refine awp_block ?_
        | refine awp_skip ?_
        | (refine reg _ (by (simp only [List.map_cons, List.map_nil]; rfl)) rfl ?_; intro K hK)
        | (refine awp_cond _ (by rfl) ?_ ?_ <;> (intro hb; first | (cases hb; done) | (have ht : true = true := hb; clear ht hb) | (have ht : false = false := hb; clear ht hb) | (simp only [hb]) | skip))
        | (refine awp_exit ?_; simp only [thenA, blockA, scopeA, reduceIte, RetQ, Nat.reduceEqDiff])
        | (refine awp_ret ?_; simp only [thenA, blockA, scopeA, RetQ])
        | (refine ev_nil (hK _ ?_); clear hK K)
        | (apply ev_guardU; (case hj | hu | hσ => (simp only [go_sem, hdec, hnl, beq_self_eq_true, Bool.and_self]; try rfl)))
        | (refine ev_guardT _ _ (by (simp only [go_sem, hdec, hnl, beq_self_eq_true, Bool.and_self]; rfl)) (by (simp only [go_sem, hdec, hnl, beq_self_eq_true, Bool.and_self]; rfl)) ?_ ?_ <;> (intro hb; first | (cases hb; done) | (have ht : true = true := hb; clear ht hb) | (have ht : false = false := hb; clear ht hb) | (simp only [hb]) | skip))
        | (refine ev_guardF _ _ (by (simp only [go_sem, hdec, hnl, beq_self_eq_true, Bool.and_self]; rfl)) (by (simp only [go_sem, hdec, hnl, beq_self_eq_true, Bool.and_self]; rfl)) ?_ ?_ <;> (intro hb; first | (cases hb; done) | (have ht : true = true := hb; clear ht hb) | (have ht : false = false := hb; clear ht hb) | (simp only [hb]) | skip))
        | (apply ev_call0; (case hys => (simp only [go_sem, hdec, hnl, beq_self_eq_true, Bool.and_self]; try rfl)); (case hs => first | exact h12r ..); (case hok | hσ => (simp only [go_sem, hdec, hnl, beq_self_eq_true, Bool.and_self]; try rfl)))
        | (apply regD; (case hd => (simp only [List.map_cons, List.map_nil]; rfl)); (case hok => rfl); (case' h => (intro K hK; (repeat' first
        | (apply evd_nil; refine (hK _ ?_); clear hK K)
        | (apply evd_guardU0; (case hj | hu | hσ => (simp only [go_sem, hdec, hnl, beq_self_eq_true, Bool.and_self]; try rfl)))
        | (apply evd_guardU; (case hj | hu | hσ => (simp only [go_sem, hdec, hnl, beq_self_eq_true, Bool.and_self]; try rfl)))
        | (apply evd_skipT0; (case hj | hb | hσ => (simp only [go_sem, hdec, hnl, beq_self_eq_true, Bool.and_self]; try rfl)))
        | (apply evd_skipF0; (case hj | hb | hσ => (simp only [go_sem, hdec, hnl, beq_self_eq_true, Bool.and_self]; try rfl)))
        | (apply evd_skipT; (case hj | hb | hσ => (simp only [go_sem, hdec, hnl, beq_self_eq_true, Bool.and_self]; try rfl)))
        | (apply evd_skipF; (case hj | hb | hσ => (simp only [go_sem, hdec, hnl, beq_self_eq_true, Bool.and_self]; try rfl)))
        | (apply evd_guardT; (case hj | hb => (simp only [go_sem, hdec, hnl, beq_self_eq_true, Bool.and_self]; try rfl)); (case' h2 => (intro hb; first | (cases hb; done) | (simp only [hb]) | skip)); (case' h1 => (intro hb; first | (cases hb; done) | (simp only [hb]) | skip)))
        | (apply evd_guardF; (case hj | hb => (simp only [go_sem, hdec, hnl, beq_self_eq_true, Bool.and_self]; try rfl)); (case' h2 => (intro hb; first | (cases hb; done) | (simp only [hb]) | skip)); (case' h1 => (intro hb; first | (cases hb; done) | (simp only [hb]) | skip)))
        | (apply evd_call0; (case hi | hys => (simp only [go_sem, hdec, hnl, beq_self_eq_true, Bool.and_self]; try rfl)); (case hs => first | exact h12r ..); (case hok | hw | hσ => (simp only [go_sem, hdec, hnl, beq_self_eq_true, Bool.and_self]; try rfl)))
        | (apply evd_step0; (case hr | hi | hσ => (simp only [go_sem, hdec, hnl, beq_self_eq_true, Bool.and_self]; try rfl)); (case hc => (first | trivial | exact look_ok (by kernel_rfl) (by kernel_rfl) | decide | (simp only [inB, sliceOk, appendOk, rowsOk]; omega) | (simp [inB, sliceOk, appendOk, rowsOk]; omega))))
        | (apply evd_step; (case hr | hi => (simp only [go_sem, hdec, hnl, beq_self_eq_true, Bool.and_self]; try rfl)); (case hc => (first | trivial | exact look_ok (by kernel_rfl) (by kernel_rfl) | decide | (simp only [inB, sliceOk, appendOk, rowsOk]; omega) | (simp [inB, sliceOk, appendOk, rowsOk]; omega))); (case hw | hσ => (intro g u; simp only [go_sem, hdec, hnl, beq_self_eq_true, Bool.and_self]; try rfl)); (case' hk => (intro g u; (try clear u); (try clear g))))
        | fail))); (case hB => kernel_rfl))
        | (apply ev_step0; (case hr | hσ => (simp only [go_sem, hdec, hnl, beq_self_eq_true, Bool.and_self]; try rfl)); (case hc => (first | trivial | exact look_ok (by kernel_rfl) (by kernel_rfl) | decide | (simp only [inB, sliceOk, appendOk, rowsOk]; omega) | (simp [inB, sliceOk, appendOk, rowsOk]; omega))))
        | (apply ev_step; (case hr => (simp only [go_sem, hdec, hnl, beq_self_eq_true, Bool.and_self]; try rfl)); (case hσ => (intro g u; simp only [go_sem, hdec, hnl, beq_self_eq_true, Bool.and_self]; try rfl)); (case hc => (first | trivial | exact look_ok (by kernel_rfl) (by kernel_rfl) | decide | (simp only [inB, sliceOk, appendOk, rowsOk]; omega) | (simp [inB, sliceOk, appendOk, rowsOk]; omega))); intro g u; (try clear u); (try clear g))
        | fail
      all_goals (refine resR_one T_ok rfl _ (by (simp only [go_sem, resA]; rfl)) (by first | trivial | (simp only [go_sem, resA])) (by first | trivial | (simp only [go_sem])) ?_; simp only [go_sem])
      exact LeA.refl _
  have hdec : decide ((i : Int) < (l.length : Int)) = true := decide_eq_true (by omega)
  have w3 : IntKind.i64.wrap ((l.length : Int) - 1) = ((l.length - 1 : Nat) : Int) := by rw [wrap_id (by omega)]; omega
  have w4 : IntKind.i64.wrap (((l.length - 1 : Nat) : Int) - (i : Int)) = ((l.length - 1 - i : Nat) : Int) := by rw [wrap_id (by omega)]; omega
  have w5 : IntKind.i64.wrap ((i : Int) + 1) = ((i + 1 : Nat) : Int) := by rw [wrap_id (by omega)]; push_cast; rfl
  have hx := vls_at l (i := l.length - 1 - i) (by omega)
  have hin : l.length - 1 - i < l.length := by omega
  rw [rev_at l hlt] at hx
  have hrl : i < l.reverse.length := by rw [List.length_reverse]; exact hlt
  have hmem : l.reverse.getD i dV ∈ l := List.mem_reverse.1 (mem_at l.reverse dV hrl)
  have hts := take_at l.reverse dV hrl
  have hcz := cntZ_step (l.reverse.take i) (l.reverse.getD i dV)
  have hns := nums_step (l.reverse.take i) (l.reverse.getD i dV)
  have ha1 := anyV_step c'.lo (l.reverse.take i) (l.reverse.getD i dV)
  have ha2 := anyV_step c'.hi (l.reverse.take i) (l.reverse.getD i dV)
  have hcb := cntZ_bd (l.reverse.take i)
  have htl : (l.reverse.take i).length = i := by rw [List.length_take]; omega
  have hsb := sums_bd (hgr.sub fun v hv => List.mem_of_mem_take hv : Gd K (l.reverse.take i)) (by omega)
  rw [htl] at hcb
  rw [← hts] at hcz hns ha1 ha2
  generalize l.length - 1 - i = ri at *
  generalize l.reverse.getD i dV = v at *
  generalize cntZ (l.reverse.take i) = cz at *
  generalize sumL (numsV (l.reverse.take i)) = sz at *
  generalize anyV c'.lo (l.reverse.take i) = A1 at *
  generalize anyV c'.hi (l.reverse.take i) = A2 at *
  have hvi := hg.num v hmem
  have h18 := f18_spec c' v hok (hg.ok v hmem).s
  rw [hI.contains hg (by omega) hmem] at h18
  have w6 : IntKind.i64.wrap (cz + 1) = cz + 1 := wrap_id (by omega)
  have w7 : IntKind.i64.wrap (sz + v.i) = sz + v.i := wrap_id (by omega)
  have q1 : ((v.k == c'.lo.k) && ((v.i == c'.lo.i) && (v.s.toList == c'.lo.s.toList))) = eqVl v c'.lo := rfl
  have q2 : ((v.k == c'.hi.k) && ((v.i == c'.hi.i) && (v.s.toList == c'.hi.s.toList))) = eqVl v c'.hi := rfl
  have hkn : (v.k != 0) = !(v.k == 0) := rfl
  rw [hkn] at ha1 ha2
  have hap : (l.reverse.take (i + 1)).map vlD = (l.reverse.take i).map vlD ++ [vlD v] := by rw [hts, List.map_append]; rfl
  have hrn : ((l.reverse.take i).map vlD).length = i := by rw [List.length_map]; exact htl
  generalize (l.reverse.take i).map vlD = rows at *
  generalize eqVl v c'.lo = E1 at *
  generalize eqVl v c'.hi = E2 at *
  cases hk0 : (v.k == 0) with
  | true =>
    have hk2 : (v.k == 2) = false := by rw [beq_iff_eq] at hk0; rw [hk0]; rfl
    cases A1 with
    | true =>
      cases A2 with
      | true =>
        simp only [hk0, hk2, if_true, if_false, Bool.false_eq_true, Bool.true_or, Bool.false_or, Bool.and_true, Bool.and_false, Bool.true_and, Bool.false_and, Bool.not_true, Bool.not_false, Bool.or_true, Bool.or_false] at hcz hns ha1 ha2
        repeat' first
          | refine awp_seq ?_
          | refine awp_block ?_
          | refine awp_skip ?_
          | (refine reg _ (by (simp only [List.map_cons, List.map_nil]; rfl)) rfl ?_; intro K hK)
          | (refine awp_cond _ (by rfl) ?_ ?_ <;> (intro hb; first | (cases hb; done) | (have ht : true = true := hb; clear ht hb) | (have ht : false = false := hb; clear ht hb) | (simp only [hb]) | skip))
          | (refine awp_exit ?_; simp only [thenA, blockA, scopeA, reduceIte, RetQ, Nat.reduceEqDiff])
          | (refine awp_ret ?_; simp only [thenA, blockA, scopeA, RetQ])
          | (refine ev_nil (hK _ ?_); clear hK K)
          | (apply ev_guardU; (case hj | hu | hσ => (simp only [go_sem, hdec, w3, w4, w5, w6, w7, hx, hrn, q1, q2, hkn, hk0, hk2]; try rfl)))
          | (refine ev_guardT _ _ (by (simp only [go_sem, hdec, w3, w4, w5, w6, w7, hx, hrn, q1, q2, hkn, hk0, hk2]; rfl)) (by (simp only [go_sem, hdec, w3, w4, w5, w6, w7, hx, hrn, q1, q2, hkn, hk0, hk2]; rfl)) ?_ ?_ <;> (intro hb; first | (cases hb; done) | (have ht : true = true := hb; clear ht hb) | (have ht : false = false := hb; clear ht hb) | (simp only [hb]) | skip))
          | (refine ev_guardF _ _ (by (simp only [go_sem, hdec, w3, w4, w5, w6, w7, hx, hrn, q1, q2, hkn, hk0, hk2]; rfl)) (by (simp only [go_sem, hdec, w3, w4, w5, w6, w7, hx, hrn, q1, q2, hkn, hk0, hk2]; rfl)) ?_ ?_ <;> (intro hb; first | (cases hb; done) | (have ht : true = true := hb; clear ht hb) | (have ht : false = false := hb; clear ht hb) | (simp only [hb]) | skip))
          | (apply ev_call0; (case hys => (simp only [go_sem, hdec, w3, w4, w5, w6, w7, hx, hrn, q1, q2, hkn, hk0, hk2]; try rfl)); (case hs => first | exact h18 ..); (case hok | hσ => (simp only [go_sem, hdec, w3, w4, w5, w6, w7, hx, hrn, q1, q2, hkn, hk0, hk2]; try rfl)))
          | (apply ev_step0; (case hr | hσ => (simp only [go_sem, hdec, w3, w4, w5, w6, w7, hx, hrn, q1, q2, hkn, hk0, hk2]; try rfl)); (case hc => (first | trivial | exact look_ok (by kernel_rfl) (by kernel_rfl) | decide | (simp only [inB, sliceOk, appendOk, rowsOk]; omega) | (simp [inB, sliceOk, appendOk, rowsOk]; omega))))
          | (apply ev_step; (case hr => (simp only [go_sem, hdec, w3, w4, w5, w6, w7, hx, hrn, q1, q2, hkn, hk0, hk2]; try rfl)); (case hσ => (intro g u; simp only [go_sem, hdec, w3, w4, w5, w6, w7, hx, hrn, q1, q2, hkn, hk0, hk2]; try rfl)); (case hc => (first | trivial | exact look_ok (by kernel_rfl) (by kernel_rfl) | decide | (simp only [inB, sliceOk, appendOk, rowsOk]; omega) | (simp [inB, sliceOk, appendOk, rowsOk]; omega))); intro g u; (try clear u); (try clear g))
          | fail
        refine Exists.intro (i + 1, u) ⟨by show i + 1 ≤ _; omega, by show l.length - (i + 1) < l.length - i; omega, ?_⟩
        simp only [hcz, hns, ha1, ha2, hap]
        refine Wk.mk ?_ ?_
        all_goals (repeat' first | exact trivial | exact LeA.refl _ | exact LeA.any _ | exact LeO.refl _ | exact LeO.no _ | exact LeA.nil _ | exact LeA.nilOwn _ | exact LeO.nil _ _ _ | refine LeO.box ?_ | (refine LeA.i ?_; (first | rfl | (push_cast; rfl) | (rw [wrap_id (by omega)]; push_cast; omega) | (simp [wrap_id]; omega))) | refine ⟨?_, ?_⟩)
      | false =>
        cases E2 with
        | true =>
          simp only [hk0, hk2, if_true, if_false, Bool.false_eq_true, Bool.true_or, Bool.false_or, Bool.and_true, Bool.and_false, Bool.true_and, Bool.false_and, Bool.not_true, Bool.not_false, Bool.or_true, Bool.or_false] at hcz hns ha1 ha2
          repeat' first
            | refine awp_seq ?_
            | refine awp_block ?_
            | refine awp_skip ?_
            | (refine reg _ (by (simp only [List.map_cons, List.map_nil]; rfl)) rfl ?_; intro K hK)
            | (refine awp_cond _ (by rfl) ?_ ?_ <;> (intro hb; first | (cases hb; done) | (have ht : true = true := hb; clear ht hb) | (have ht : false = false := hb; clear ht hb) | (simp only [hb]) | skip))
            | (refine awp_exit ?_; simp only [thenA, blockA, scopeA, reduceIte, RetQ, Nat.reduceEqDiff])
            | (refine awp_ret ?_; simp only [thenA, blockA, scopeA, RetQ])
            | (refine ev_nil (hK _ ?_); clear hK K)
            | (apply ev_guardU; (case hj | hu | hσ => (simp only [go_sem, hdec, w3, w4, w5, w6, w7, hx, hrn, q1, q2, hkn, hk0, hk2]; try rfl)))
            | (refine ev_guardT _ _ (by (simp only [go_sem, hdec, w3, w4, w5, w6, w7, hx, hrn, q1, q2, hkn, hk0, hk2]; rfl)) (by (simp only [go_sem, hdec, w3, w4, w5, w6, w7, hx, hrn, q1, q2, hkn, hk0, hk2]; rfl)) ?_ ?_ <;> (intro hb; first | (cases hb; done) | (have ht : true = true := hb; clear ht hb) | (have ht : false = false := hb; clear ht hb) | (simp only [hb]) | skip))
            | (refine ev_guardF _ _ (by (simp only [go_sem, hdec, w3, w4, w5, w6, w7, hx, hrn, q1, q2, hkn, hk0, hk2]; rfl)) (by (simp only [go_sem, hdec, w3, w4, w5, w6, w7, hx, hrn, q1, q2, hkn, hk0, hk2]; rfl)) ?_ ?_ <;> (intro hb; first | (cases hb; done) | (have ht : true = true := hb; clear ht hb) | (have ht : false = false := hb; clear ht hb) | (simp only [hb]) | skip))
            | (apply ev_call0; (case hys => (simp only [go_sem, hdec, w3, w4, w5, w6, w7, hx, hrn, q1, q2, hkn, hk0, hk2]; try rfl)); (case hs => first | exact h18 ..); (case hok | hσ => (simp only [go_sem, hdec, w3, w4, w5, w6, w7, hx, hrn, q1, q2, hkn, hk0, hk2]; try rfl)))
            | (apply ev_step0; (case hr | hσ => (simp only [go_sem, hdec, w3, w4, w5, w6, w7, hx, hrn, q1, q2, hkn, hk0, hk2]; try rfl)); (case hc => (first | trivial | exact look_ok (by kernel_rfl) (by kernel_rfl) | decide | (simp only [inB, sliceOk, appendOk, rowsOk]; omega) | (simp [inB, sliceOk, appendOk, rowsOk]; omega))))
            | (apply ev_step; (case hr => (simp only [go_sem, hdec, w3, w4, w5, w6, w7, hx, hrn, q1, q2, hkn, hk0, hk2]; try rfl)); (case hσ => (intro g u; simp only [go_sem, hdec, w3, w4, w5, w6, w7, hx, hrn, q1, q2, hkn, hk0, hk2]; try rfl)); (case hc => (first | trivial | exact look_ok (by kernel_rfl) (by kernel_rfl) | decide | (simp only [inB, sliceOk, appendOk, rowsOk]; omega) | (simp [inB, sliceOk, appendOk, rowsOk]; omega))); intro g u; (try clear u); (try clear g))
            | fail
          refine Exists.intro (i + 1, u) ⟨by show i + 1 ≤ _; omega, by show l.length - (i + 1) < l.length - i; omega, ?_⟩
          simp only [hcz, hns, ha1, ha2, hap]
          refine Wk.mk ?_ ?_
          all_goals (repeat' first | exact trivial | exact LeA.refl _ | exact LeA.any _ | exact LeO.refl _ | exact LeO.no _ | exact LeA.nil _ | exact LeA.nilOwn _ | exact LeO.nil _ _ _ | refine LeO.box ?_ | (refine LeA.i ?_; (first | rfl | (push_cast; rfl) | (rw [wrap_id (by omega)]; push_cast; omega) | (simp [wrap_id]; omega))) | refine ⟨?_, ?_⟩)
        | false =>
          simp only [hk0, hk2, if_true, if_false, Bool.false_eq_true, Bool.true_or, Bool.false_or, Bool.and_true, Bool.and_false, Bool.true_and, Bool.false_and, Bool.not_true, Bool.not_false, Bool.or_true, Bool.or_false] at hcz hns ha1 ha2
          repeat' first
            | refine awp_seq ?_
            | refine awp_block ?_
            | refine awp_skip ?_
            | (refine reg _ (by (simp only [List.map_cons, List.map_nil]; rfl)) rfl ?_; intro K hK)
            | (refine awp_cond _ (by rfl) ?_ ?_ <;> (intro hb; first | (cases hb; done) | (have ht : true = true := hb; clear ht hb) | (have ht : false = false := hb; clear ht hb) | (simp only [hb]) | skip))
            | (refine awp_exit ?_; simp only [thenA, blockA, scopeA, reduceIte, RetQ, Nat.reduceEqDiff])
            | (refine awp_ret ?_; simp only [thenA, blockA, scopeA, RetQ])
            | (refine ev_nil (hK _ ?_); clear hK K)
            | (apply ev_guardU; (case hj | hu | hσ => (simp only [go_sem, hdec, w3, w4, w5, w6, w7, hx, hrn, q1, q2, hkn, hk0, hk2]; try rfl)))
            | (refine ev_guardT _ _ (by (simp only [go_sem, hdec, w3, w4, w5, w6, w7, hx, hrn, q1, q2, hkn, hk0, hk2]; rfl)) (by (simp only [go_sem, hdec, w3, w4, w5, w6, w7, hx, hrn, q1, q2, hkn, hk0, hk2]; rfl)) ?_ ?_ <;> (intro hb; first | (cases hb; done) | (have ht : true = true := hb; clear ht hb) | (have ht : false = false := hb; clear ht hb) | (simp only [hb]) | skip))
            | (refine ev_guardF _ _ (by (simp only [go_sem, hdec, w3, w4, w5, w6, w7, hx, hrn, q1, q2, hkn, hk0, hk2]; rfl)) (by (simp only [go_sem, hdec, w3, w4, w5, w6, w7, hx, hrn, q1, q2, hkn, hk0, hk2]; rfl)) ?_ ?_ <;> (intro hb; first | (cases hb; done) | (have ht : true = true := hb; clear ht hb) | (have ht : false = false := hb; clear ht hb) | (simp only [hb]) | skip))
            | (apply ev_call0; (case hys => (simp only [go_sem, hdec, w3, w4, w5, w6, w7, hx, hrn, q1, q2, hkn, hk0, hk2]; try rfl)); (case hs => first | exact h18 ..); (case hok | hσ => (simp only [go_sem, hdec, w3, w4, w5, w6, w7, hx, hrn, q1, q2, hkn, hk0, hk2]; try rfl)))
            | (apply ev_step0; (case hr | hσ => (simp only [go_sem, hdec, w3, w4, w5, w6, w7, hx, hrn, q1, q2, hkn, hk0, hk2]; try rfl)); (case hc => (first | trivial | exact look_ok (by kernel_rfl) (by kernel_rfl) | decide | (simp only [inB, sliceOk, appendOk, rowsOk]; omega) | (simp [inB, sliceOk, appendOk, rowsOk]; omega))))
            | (apply ev_step; (case hr => (simp only [go_sem, hdec, w3, w4, w5, w6, w7, hx, hrn, q1, q2, hkn, hk0, hk2]; try rfl)); (case hσ => (intro g u; simp only [go_sem, hdec, w3, w4, w5, w6, w7, hx, hrn, q1, q2, hkn, hk0, hk2]; try rfl)); (case hc => (first | trivial | exact look_ok (by kernel_rfl) (by kernel_rfl) | decide | (simp only [inB, sliceOk, appendOk, rowsOk]; omega) | (simp [inB, sliceOk, appendOk, rowsOk]; omega))); intro g u; (try clear u); (try clear g))
            | fail
          refine Exists.intro (i + 1, u) ⟨by show i + 1 ≤ _; omega, by show l.length - (i + 1) < l.length - i; omega, ?_⟩
          simp only [hcz, hns, ha1, ha2, hap]
          refine Wk.mk ?_ ?_
          all_goals (repeat' first | exact trivial | exact LeA.refl _ | exact LeA.any _ | exact LeO.refl _ | exact LeO.no _ | exact LeA.nil _ | exact LeA.nilOwn _ | exact LeO.nil _ _ _ | refine LeO.box ?_ | (refine LeA.i ?_; (first | rfl | (push_cast; rfl) | (rw [wrap_id (by omega)]; push_cast; omega) | (simp [wrap_id]; omega))) | refine ⟨?_, ?_⟩)
    | false =>
      cases E1 with
      | true =>
        cases A2 with
        | true =>
          simp only [hk0, hk2, if_true, if_false, Bool.false_eq_true, Bool.true_or, Bool.false_or, Bool.and_true, Bool.and_false, Bool.true_and, Bool.false_and, Bool.not_true, Bool.not_false, Bool.or_true, Bool.or_false] at hcz hns ha1 ha2
          repeat' first
            | refine awp_seq ?_
            | refine awp_block ?_
            | refine awp_skip ?_
            | (refine reg _ (by (simp only [List.map_cons, List.map_nil]; rfl)) rfl ?_; intro K hK)
            | (refine awp_cond _ (by rfl) ?_ ?_ <;> (intro hb; first | (cases hb; done) | (have ht : true = true := hb; clear ht hb) | (have ht : false = false := hb; clear ht hb) | (simp only [hb]) | skip))
            | (refine awp_exit ?_; simp only [thenA, blockA, scopeA, reduceIte, RetQ, Nat.reduceEqDiff])
            | (refine awp_ret ?_; simp only [thenA, blockA, scopeA, RetQ])
            | (refine ev_nil (hK _ ?_); clear hK K)
            | (apply ev_guardU; (case hj | hu | hσ => (simp only [go_sem, hdec, w3, w4, w5, w6, w7, hx, hrn, q1, q2, hkn, hk0, hk2]; try rfl)))
            | (refine ev_guardT _ _ (by (simp only [go_sem, hdec, w3, w4, w5, w6, w7, hx, hrn, q1, q2, hkn, hk0, hk2]; rfl)) (by (simp only [go_sem, hdec, w3, w4, w5, w6, w7, hx, hrn, q1, q2, hkn, hk0, hk2]; rfl)) ?_ ?_ <;> (intro hb; first | (cases hb; done) | (have ht : true = true := hb; clear ht hb) | (have ht : false = false := hb; clear ht hb) | (simp only [hb]) | skip))
            | (refine ev_guardF _ _ (by (simp only [go_sem, hdec, w3, w4, w5, w6, w7, hx, hrn, q1, q2, hkn, hk0, hk2]; rfl)) (by (simp only [go_sem, hdec, w3, w4, w5, w6, w7, hx, hrn, q1, q2, hkn, hk0, hk2]; rfl)) ?_ ?_ <;> (intro hb; first | (cases hb; done) | (have ht : true = true := hb; clear ht hb) | (have ht : false = false := hb; clear ht hb) | (simp only [hb]) | skip))
            | (apply ev_call0; (case hys => (simp only [go_sem, hdec, w3, w4, w5, w6, w7, hx, hrn, q1, q2, hkn, hk0, hk2]; try rfl)); (case hs => first | exact h18 ..); (case hok | hσ => (simp only [go_sem, hdec, w3, w4, w5, w6, w7, hx, hrn, q1, q2, hkn, hk0, hk2]; try rfl)))
            | (apply ev_step0; (case hr | hσ => (simp only [go_sem, hdec, w3, w4, w5, w6, w7, hx, hrn, q1, q2, hkn, hk0, hk2]; try rfl)); (case hc => (first | trivial | exact look_ok (by kernel_rfl) (by kernel_rfl) | decide | (simp only [inB, sliceOk, appendOk, rowsOk]; omega) | (simp [inB, sliceOk, appendOk, rowsOk]; omega))))
            | (apply ev_step; (case hr => (simp only [go_sem, hdec, w3, w4, w5, w6, w7, hx, hrn, q1, q2, hkn, hk0, hk2]; try rfl)); (case hσ => (intro g u; simp only [go_sem, hdec, w3, w4, w5, w6, w7, hx, hrn, q1, q2, hkn, hk0, hk2]; try rfl)); (case hc => (first | trivial | exact look_ok (by kernel_rfl) (by kernel_rfl) | decide | (simp only [inB, sliceOk, appendOk, rowsOk]; omega) | (simp [inB, sliceOk, appendOk, rowsOk]; omega))); intro g u; (try clear u); (try clear g))
            | fail
          refine Exists.intro (i + 1, u) ⟨by show i + 1 ≤ _; omega, by show l.length - (i + 1) < l.length - i; omega, ?_⟩
          simp only [hcz, hns, ha1, ha2, hap]
          refine Wk.mk ?_ ?_
          all_goals (repeat' first | exact trivial | exact LeA.refl _ | exact LeA.any _ | exact LeO.refl _ | exact LeO.no _ | exact LeA.nil _ | exact LeA.nilOwn _ | exact LeO.nil _ _ _ | refine LeO.box ?_ | (refine LeA.i ?_; (first | rfl | (push_cast; rfl) | (rw [wrap_id (by omega)]; push_cast; omega) | (simp [wrap_id]; omega))) | refine ⟨?_, ?_⟩)
        | false =>
          cases E2 with
          | true =>
            simp only [hk0, hk2, if_true, if_false, Bool.false_eq_true, Bool.true_or, Bool.false_or, Bool.and_true, Bool.and_false, Bool.true_and, Bool.false_and, Bool.not_true, Bool.not_false, Bool.or_true, Bool.or_false] at hcz hns ha1 ha2
            repeat' first
              | refine awp_seq ?_
              | refine awp_block ?_
              | refine awp_skip ?_
              | (refine reg _ (by (simp only [List.map_cons, List.map_nil]; rfl)) rfl ?_; intro K hK)
              | (refine awp_cond _ (by rfl) ?_ ?_ <;> (intro hb; first | (cases hb; done) | (have ht : true = true := hb; clear ht hb) | (have ht : false = false := hb; clear ht hb) | (simp only [hb]) | skip))
              | (refine awp_exit ?_; simp only [thenA, blockA, scopeA, reduceIte, RetQ, Nat.reduceEqDiff])
              | (refine awp_ret ?_; simp only [thenA, blockA, scopeA, RetQ])
              | (refine ev_nil (hK _ ?_); clear hK K)
              | (apply ev_guardU; (case hj | hu | hσ => (simp only [go_sem, hdec, w3, w4, w5, w6, w7, hx, hrn, q1, q2, hkn, hk0, hk2]; try rfl)))
              | (refine ev_guardT _ _ (by (simp only [go_sem, hdec, w3, w4, w5, w6, w7, hx, hrn, q1, q2, hkn, hk0, hk2]; rfl)) (by (simp only [go_sem, hdec, w3, w4, w5, w6, w7, hx, hrn, q1, q2, hkn, hk0, hk2]; rfl)) ?_ ?_ <;> (intro hb; first | (cases hb; done) | (have ht : true = true := hb; clear ht hb) | (have ht : false = false := hb; clear ht hb) | (simp only [hb]) | skip))
              | (refine ev_guardF _ _ (by (simp only [go_sem, hdec, w3, w4, w5, w6, w7, hx, hrn, q1, q2, hkn, hk0, hk2]; rfl)) (by (simp only [go_sem, hdec, w3, w4, w5, w6, w7, hx, hrn, q1, q2, hkn, hk0, hk2]; rfl)) ?_ ?_ <;> (intro hb; first | (cases hb; done) | (have ht : true = true := hb; clear ht hb) | (have ht : false = false := hb; clear ht hb) | (simp only [hb]) | skip))
              | (apply ev_call0; (case hys => (simp only [go_sem, hdec, w3, w4, w5, w6, w7, hx, hrn, q1, q2, hkn, hk0, hk2]; try rfl)); (case hs => first | exact h18 ..); (case hok | hσ => (simp only [go_sem, hdec, w3, w4, w5, w6, w7, hx, hrn, q1, q2, hkn, hk0, hk2]; try rfl)))
              | (apply ev_step0; (case hr | hσ => (simp only [go_sem, hdec, w3, w4, w5, w6, w7, hx, hrn, q1, q2, hkn, hk0, hk2]; try rfl)); (case hc => (first | trivial | exact look_ok (by kernel_rfl) (by kernel_rfl) | decide | (simp only [inB, sliceOk, appendOk, rowsOk]; omega) | (simp [inB, sliceOk, appendOk, rowsOk]; omega))))
              | (apply ev_step; (case hr => (simp only [go_sem, hdec, w3, w4, w5, w6, w7, hx, hrn, q1, q2, hkn, hk0, hk2]; try rfl)); (case hσ => (intro g u; simp only [go_sem, hdec, w3, w4, w5, w6, w7, hx, hrn, q1, q2, hkn, hk0, hk2]; try rfl)); (case hc => (first | trivial | exact look_ok (by kernel_rfl) (by kernel_rfl) | decide | (simp only [inB, sliceOk, appendOk, rowsOk]; omega) | (simp [inB, sliceOk, appendOk, rowsOk]; omega))); intro g u; (try clear u); (try clear g))
              | fail
            refine Exists.intro (i + 1, u) ⟨by show i + 1 ≤ _; omega, by show l.length - (i + 1) < l.length - i; omega, ?_⟩
            simp only [hcz, hns, ha1, ha2, hap]
            refine Wk.mk ?_ ?_
            all_goals (repeat' first | exact trivial | exact LeA.refl _ | exact LeA.any _ | exact LeO.refl _ | exact LeO.no _ | exact LeA.nil _ | exact LeA.nilOwn _ | exact LeO.nil _ _ _ | refine LeO.box ?_ | (refine LeA.i ?_; (first | rfl | (push_cast; rfl) | (rw [wrap_id (by omega)]; push_cast; omega) | (simp [wrap_id]; omega))) | refine ⟨?_, ?_⟩)
          | false =>
            simp only [hk0, hk2, if_true, if_false, Bool.false_eq_true, Bool.true_or, Bool.false_or, Bool.and_true, Bool.and_false, Bool.true_and, Bool.false_and, Bool.not_true, Bool.not_false, Bool.or_true, Bool.or_false] at hcz hns ha1 ha2
            repeat' first
              | refine awp_seq ?_
              | refine awp_block ?_
              | refine awp_skip ?_
              | (refine reg _ (by (simp only [List.map_cons, List.map_nil]; rfl)) rfl ?_; intro K hK)
              | (refine awp_cond _ (by rfl) ?_ ?_ <;> (intro hb; first | (cases hb; done) | (have ht : true = true := hb; clear ht hb) | (have ht : false = false := hb; clear ht hb) | (simp only [hb]) | skip))
              | (refine awp_exit ?_; simp only [thenA, blockA, scopeA, reduceIte, RetQ, Nat.reduceEqDiff])
              | (refine awp_ret ?_; simp only [thenA, blockA, scopeA, RetQ])
              | (refine ev_nil (hK _ ?_); clear hK K)
              | (apply ev_guardU; (case hj | hu | hσ => (simp only [go_sem, hdec, w3, w4, w5, w6, w7, hx, hrn, q1, q2, hkn, hk0, hk2]; try rfl)))
              | (refine ev_guardT _ _ (by (simp only [go_sem, hdec, w3, w4, w5, w6, w7, hx, hrn, q1, q2, hkn, hk0, hk2]; rfl)) (by (simp only [go_sem, hdec, w3, w4, w5, w6, w7, hx, hrn, q1, q2, hkn, hk0, hk2]; rfl)) ?_ ?_ <;> (intro hb; first | (cases hb; done) | (have ht : true = true := hb; clear ht hb) | (have ht : false = false := hb; clear ht hb) | (simp only [hb]) | skip))
              | (refine ev_guardF _ _ (by (simp only [go_sem, hdec, w3, w4, w5, w6, w7, hx, hrn, q1, q2, hkn, hk0, hk2]; rfl)) (by (simp only [go_sem, hdec, w3, w4, w5, w6, w7, hx, hrn, q1, q2, hkn, hk0, hk2]; rfl)) ?_ ?_ <;> (intro hb; first | (cases hb; done) | (have ht : true = true := hb; clear ht hb) | (have ht : false = false := hb; clear ht hb) | (simp only [hb]) | skip))
              | (apply ev_call0; (case hys => (simp only [go_sem, hdec, w3, w4, w5, w6, w7, hx, hrn, q1, q2, hkn, hk0, hk2]; try rfl)); (case hs => first | exact h18 ..); (case hok | hσ => (simp only [go_sem, hdec, w3, w4, w5, w6, w7, hx, hrn, q1, q2, hkn, hk0, hk2]; try rfl)))
              | (apply ev_step0; (case hr | hσ => (simp only [go_sem, hdec, w3, w4, w5, w6, w7, hx, hrn, q1, q2, hkn, hk0, hk2]; try rfl)); (case hc => (first | trivial | exact look_ok (by kernel_rfl) (by kernel_rfl) | decide | (simp only [inB, sliceOk, appendOk, rowsOk]; omega) | (simp [inB, sliceOk, appendOk, rowsOk]; omega))))
              | (apply ev_step; (case hr => (simp only [go_sem, hdec, w3, w4, w5, w6, w7, hx, hrn, q1, q2, hkn, hk0, hk2]; try rfl)); (case hσ => (intro g u; simp only [go_sem, hdec, w3, w4, w5, w6, w7, hx, hrn, q1, q2, hkn, hk0, hk2]; try rfl)); (case hc => (first | trivial | exact look_ok (by kernel_rfl) (by kernel_rfl) | decide | (simp only [inB, sliceOk, appendOk, rowsOk]; omega) | (simp [inB, sliceOk, appendOk, rowsOk]; omega))); intro g u; (try clear u); (try clear g))
              | fail
            refine Exists.intro (i + 1, u) ⟨by show i + 1 ≤ _; omega, by show l.length - (i + 1) < l.length - i; omega, ?_⟩
            simp only [hcz, hns, ha1, ha2, hap]
            refine Wk.mk ?_ ?_
            all_goals (repeat' first | exact trivial | exact LeA.refl _ | exact LeA.any _ | exact LeO.refl _ | exact LeO.no _ | exact LeA.nil _ | exact LeA.nilOwn _ | exact LeO.nil _ _ _ | refine LeO.box ?_ | (refine LeA.i ?_; (first | rfl | (push_cast; rfl) | (rw [wrap_id (by omega)]; push_cast; omega) | (simp [wrap_id]; omega))) | refine ⟨?_, ?_⟩)
      | false =>
        cases A2 with
        | true =>
          simp only [hk0, hk2, if_true, if_false, Bool.false_eq_true, Bool.true_or, Bool.false_or, Bool.and_true, Bool.and_false, Bool.true_and, Bool.false_and, Bool.not_true, Bool.not_false, Bool.or_true, Bool.or_false] at hcz hns ha1 ha2
          repeat' first
            | refine awp_seq ?_
            | refine awp_block ?_
            | refine awp_skip ?_
            | (refine reg _ (by (simp only [List.map_cons, List.map_nil]; rfl)) rfl ?_; intro K hK)
            | (refine awp_cond _ (by rfl) ?_ ?_ <;> (intro hb; first | (cases hb; done) | (have ht : true = true := hb; clear ht hb) | (have ht : false = false := hb; clear ht hb) | (simp only [hb]) | skip))
            | (refine awp_exit ?_; simp only [thenA, blockA, scopeA, reduceIte, RetQ, Nat.reduceEqDiff])
            | (refine awp_ret ?_; simp only [thenA, blockA, scopeA, RetQ])
            | (refine ev_nil (hK _ ?_); clear hK K)
            | (apply ev_guardU; (case hj | hu | hσ => (simp only [go_sem, hdec, w3, w4, w5, w6, w7, hx, hrn, q1, q2, hkn, hk0, hk2]; try rfl)))
            | (refine ev_guardT _ _ (by (simp only [go_sem, hdec, w3, w4, w5, w6, w7, hx, hrn, q1, q2, hkn, hk0, hk2]; rfl)) (by (simp only [go_sem, hdec, w3, w4, w5, w6, w7, hx, hrn, q1, q2, hkn, hk0, hk2]; rfl)) ?_ ?_ <;> (intro hb; first | (cases hb; done) | (have ht : true = true := hb; clear ht hb) | (have ht : false = false := hb; clear ht hb) | (simp only [hb]) | skip))
            | (refine ev_guardF _ _ (by (simp only [go_sem, hdec, w3, w4, w5, w6, w7, hx, hrn, q1, q2, hkn, hk0, hk2]; rfl)) (by (simp only [go_sem, hdec, w3, w4, w5, w6, w7, hx, hrn, q1, q2, hkn, hk0, hk2]; rfl)) ?_ ?_ <;> (intro hb; first | (cases hb; done) | (have ht : true = true := hb; clear ht hb) | (have ht : false = false := hb; clear ht hb) | (simp only [hb]) | skip))
            | (apply ev_call0; (case hys => (simp only [go_sem, hdec, w3, w4, w5, w6, w7, hx, hrn, q1, q2, hkn, hk0, hk2]; try rfl)); (case hs => first | exact h18 ..); (case hok | hσ => (simp only [go_sem, hdec, w3, w4, w5, w6, w7, hx, hrn, q1, q2, hkn, hk0, hk2]; try rfl)))
            | (apply ev_step0; (case hr | hσ => (simp only [go_sem, hdec, w3, w4, w5, w6, w7, hx, hrn, q1, q2, hkn, hk0, hk2]; try rfl)); (case hc => (first | trivial | exact look_ok (by kernel_rfl) (by kernel_rfl) | decide | (simp only [inB, sliceOk, appendOk, rowsOk]; omega) | (simp [inB, sliceOk, appendOk, rowsOk]; omega))))
            | (apply ev_step; (case hr => (simp only [go_sem, hdec, w3, w4, w5, w6, w7, hx, hrn, q1, q2, hkn, hk0, hk2]; try rfl)); (case hσ => (intro g u; simp only [go_sem, hdec, w3, w4, w5, w6, w7, hx, hrn, q1, q2, hkn, hk0, hk2]; try rfl)); (case hc => (first | trivial | exact look_ok (by kernel_rfl) (by kernel_rfl) | decide | (simp only [inB, sliceOk, appendOk, rowsOk]; omega) | (simp [inB, sliceOk, appendOk, rowsOk]; omega))); intro g u; (try clear u); (try clear g))
            | fail
          refine Exists.intro (i + 1, u) ⟨by show i + 1 ≤ _; omega, by show l.length - (i + 1) < l.length - i; omega, ?_⟩
          simp only [hcz, hns, ha1, ha2, hap]
          refine Wk.mk ?_ ?_
          all_goals (repeat' first | exact trivial | exact LeA.refl _ | exact LeA.any _ | exact LeO.refl _ | exact LeO.no _ | exact LeA.nil _ | exact LeA.nilOwn _ | exact LeO.nil _ _ _ | refine LeO.box ?_ | (refine LeA.i ?_; (first | rfl | (push_cast; rfl) | (rw [wrap_id (by omega)]; push_cast; omega) | (simp [wrap_id]; omega))) | refine ⟨?_, ?_⟩)
        | false =>
          cases E2 with
          | true =>
            simp only [hk0, hk2, if_true, if_false, Bool.false_eq_true, Bool.true_or, Bool.false_or, Bool.and_true, Bool.and_false, Bool.true_and, Bool.false_and, Bool.not_true, Bool.not_false, Bool.or_true, Bool.or_false] at hcz hns ha1 ha2
            repeat' first
              | refine awp_seq ?_
              | refine awp_block ?_
              | refine awp_skip ?_
              | (refine reg _ (by (simp only [List.map_cons, List.map_nil]; rfl)) rfl ?_; intro K hK)
              | (refine awp_cond _ (by rfl) ?_ ?_ <;> (intro hb; first | (cases hb; done) | (have ht : true = true := hb; clear ht hb) | (have ht : false = false := hb; clear ht hb) | (simp only [hb]) | skip))
              | (refine awp_exit ?_; simp only [thenA, blockA, scopeA, reduceIte, RetQ, Nat.reduceEqDiff])
              | (refine awp_ret ?_; simp only [thenA, blockA, scopeA, RetQ])
              | (refine ev_nil (hK _ ?_); clear hK K)
              | (apply ev_guardU; (case hj | hu | hσ => (simp only [go_sem, hdec, w3, w4, w5, w6, w7, hx, hrn, q1, q2, hkn, hk0, hk2]; try rfl)))
              | (refine ev_guardT _ _ (by (simp only [go_sem, hdec, w3, w4, w5, w6, w7, hx, hrn, q1, q2, hkn, hk0, hk2]; rfl)) (by (simp only [go_sem, hdec, w3, w4, w5, w6, w7, hx, hrn, q1, q2, hkn, hk0, hk2]; rfl)) ?_ ?_ <;> (intro hb; first | (cases hb; done) | (have ht : true = true := hb; clear ht hb) | (have ht : false = false := hb; clear ht hb) | (simp only [hb]) | skip))
              | (refine ev_guardF _ _ (by (simp only [go_sem, hdec, w3, w4, w5, w6, w7, hx, hrn, q1, q2, hkn, hk0, hk2]; rfl)) (by (simp only [go_sem, hdec, w3, w4, w5, w6, w7, hx, hrn, q1, q2, hkn, hk0, hk2]; rfl)) ?_ ?_ <;> (intro hb; first | (cases hb; done) | (have ht : true = true := hb; clear ht hb) | (have ht : false = false := hb; clear ht hb) | (simp only [hb]) | skip))
              | (apply ev_call0; (case hys => (simp only [go_sem, hdec, w3, w4, w5, w6, w7, hx, hrn, q1, q2, hkn, hk0, hk2]; try rfl)); (case hs => first | exact h18 ..); (case hok | hσ => (simp only [go_sem, hdec, w3, w4, w5, w6, w7, hx, hrn, q1, q2, hkn, hk0, hk2]; try rfl)))
              | (apply ev_step0; (case hr | hσ => (simp only [go_sem, hdec, w3, w4, w5, w6, w7, hx, hrn, q1, q2, hkn, hk0, hk2]; try rfl)); (case hc => (first | trivial | exact look_ok (by kernel_rfl) (by kernel_rfl) | decide | (simp only [inB, sliceOk, appendOk, rowsOk]; omega) | (simp [inB, sliceOk, appendOk, rowsOk]; omega))))
              | (apply ev_step; (case hr => (simp only [go_sem, hdec, w3, w4, w5, w6, w7, hx, hrn, q1, q2, hkn, hk0, hk2]; try rfl)); (case hσ => (intro g u; simp only [go_sem, hdec, w3, w4, w5, w6, w7, hx, hrn, q1, q2, hkn, hk0, hk2]; try rfl)); (case hc => (first | trivial | exact look_ok (by kernel_rfl) (by kernel_rfl) | decide | (simp only [inB, sliceOk, appendOk, rowsOk]; omega) | (simp [inB, sliceOk, appendOk, rowsOk]; omega))); intro g u; (try clear u); (try clear g))
              | fail
            refine Exists.intro (i + 1, u) ⟨by show i + 1 ≤ _; omega, by show l.length - (i + 1) < l.length - i; omega, ?_⟩
            simp only [hcz, hns, ha1, ha2, hap]
            refine Wk.mk ?_ ?_
            all_goals (repeat' first | exact trivial | exact LeA.refl _ | exact LeA.any _ | exact LeO.refl _ | exact LeO.no _ | exact LeA.nil _ | exact LeA.nilOwn _ | exact LeO.nil _ _ _ | refine LeO.box ?_ | (refine LeA.i ?_; (first | rfl | (push_cast; rfl) | (rw [wrap_id (by omega)]; push_cast; omega) | (simp [wrap_id]; omega))) | refine ⟨?_, ?_⟩)
          | false =>
            simp only [hk0, hk2, if_true, if_false, Bool.false_eq_true, Bool.true_or, Bool.false_or, Bool.and_true, Bool.and_false, Bool.true_and, Bool.false_and, Bool.not_true, Bool.not_false, Bool.or_true, Bool.or_false] at hcz hns ha1 ha2
            repeat' first
              | refine awp_seq ?_
              | refine awp_block ?_
              | refine awp_skip ?_
              | (refine reg _ (by (simp only [List.map_cons, List.map_nil]; rfl)) rfl ?_; intro K hK)
              | (refine awp_cond _ (by rfl) ?_ ?_ <;> (intro hb; first | (cases hb; done) | (have ht : true = true := hb; clear ht hb) | (have ht : false = false := hb; clear ht hb) | (simp only [hb]) | skip))
              | (refine awp_exit ?_; simp only [thenA, blockA, scopeA, reduceIte, RetQ, Nat.reduceEqDiff])
              | (refine awp_ret ?_; simp only [thenA, blockA, scopeA, RetQ])
              | (refine ev_nil (hK _ ?_); clear hK K)
              | (apply ev_guardU; (case hj | hu | hσ => (simp only [go_sem, hdec, w3, w4, w5, w6, w7, hx, hrn, q1, q2, hkn, hk0, hk2]; try rfl)))
              | (refine ev_guardT _ _ (by (simp only [go_sem, hdec, w3, w4, w5, w6, w7, hx, hrn, q1, q2, hkn, hk0, hk2]; rfl)) (by (simp only [go_sem, hdec, w3, w4, w5, w6, w7, hx, hrn, q1, q2, hkn, hk0, hk2]; rfl)) ?_ ?_ <;> (intro hb; first | (cases hb; done) | (have ht : true = true := hb; clear ht hb) | (have ht : false = false := hb; clear ht hb) | (simp only [hb]) | skip))
              | (refine ev_guardF _ _ (by (simp only [go_sem, hdec, w3, w4, w5, w6, w7, hx, hrn, q1, q2, hkn, hk0, hk2]; rfl)) (by (simp only [go_sem, hdec, w3, w4, w5, w6, w7, hx, hrn, q1, q2, hkn, hk0, hk2]; rfl)) ?_ ?_ <;> (intro hb; first | (cases hb; done) | (have ht : true = true := hb; clear ht hb) | (have ht : false = false := hb; clear ht hb) | (simp only [hb]) | skip))
              | (apply ev_call0; (case hys => (simp only [go_sem, hdec, w3, w4, w5, w6, w7, hx, hrn, q1, q2, hkn, hk0, hk2]; try rfl)); (case hs => first | exact h18 ..); (case hok | hσ => (simp only [go_sem, hdec, w3, w4, w5, w6, w7, hx, hrn, q1, q2, hkn, hk0, hk2]; try rfl)))
              | (apply ev_step0; (case hr | hσ => (simp only [go_sem, hdec, w3, w4, w5, w6, w7, hx, hrn, q1, q2, hkn, hk0, hk2]; try rfl)); (case hc => (first | trivial | exact look_ok (by kernel_rfl) (by kernel_rfl) | decide | (simp only [inB, sliceOk, appendOk, rowsOk]; omega) | (simp [inB, sliceOk, appendOk, rowsOk]; omega))))
              | (apply ev_step; (case hr => (simp only [go_sem, hdec, w3, w4, w5, w6, w7, hx, hrn, q1, q2, hkn, hk0, hk2]; try rfl)); (case hσ => (intro g u; simp only [go_sem, hdec, w3, w4, w5, w6, w7, hx, hrn, q1, q2, hkn, hk0, hk2]; try rfl)); (case hc => (first | trivial | exact look_ok (by kernel_rfl) (by kernel_rfl) | decide | (simp only [inB, sliceOk, appendOk, rowsOk]; omega) | (simp [inB, sliceOk, appendOk, rowsOk]; omega))); intro g u; (try clear u); (try clear g))
              | fail
            refine Exists.intro (i + 1, u) ⟨by show i + 1 ≤ _; omega, by show l.length - (i + 1) < l.length - i; omega, ?_⟩
            simp only [hcz, hns, ha1, ha2, hap]
            refine Wk.mk ?_ ?_
            all_goals (repeat' first | exact trivial | exact LeA.refl _ | exact LeA.any _ | exact LeO.refl _ | exact LeO.no _ | exact LeA.nil _ | exact LeA.nilOwn _ | exact LeO.nil _ _ _ | refine LeO.box ?_ | (refine LeA.i ?_; (first | rfl | (push_cast; rfl) | (rw [wrap_id (by omega)]; push_cast; omega) | (simp [wrap_id]; omega))) | refine ⟨?_, ?_⟩)
  | false =>
    cases hk2 : (v.k == 2) with
    | true =>
      cases A1 with
      | true =>
        cases A2 with
        | true =>
          simp only [hk0, hk2, if_true, if_false, Bool.false_eq_true, Bool.true_or, Bool.false_or, Bool.and_true, Bool.and_false, Bool.true_and, Bool.false_and, Bool.not_true, Bool.not_false, Bool.or_true, Bool.or_false] at hcz hns ha1 ha2
          repeat' first
            | refine awp_seq ?_
            | refine awp_block ?_
            | refine awp_skip ?_
            | (refine reg _ (by (simp only [List.map_cons, List.map_nil]; rfl)) rfl ?_; intro K hK)
            | (refine awp_cond _ (by rfl) ?_ ?_ <;> (intro hb; first | (cases hb; done) | (have ht : true = true := hb; clear ht hb) | (have ht : false = false := hb; clear ht hb) | (simp only [hb]) | skip))
            | (refine awp_exit ?_; simp only [thenA, blockA, scopeA, reduceIte, RetQ, Nat.reduceEqDiff])
            | (refine awp_ret ?_; simp only [thenA, blockA, scopeA, RetQ])
            | (refine ev_nil (hK _ ?_); clear hK K)
            | (apply ev_guardU; (case hj | hu | hσ => (simp only [go_sem, hdec, w3, w4, w5, w6, w7, hx, hrn, q1, q2, hkn, hk0, hk2]; try rfl)))
            | (refine ev_guardT _ _ (by (simp only [go_sem, hdec, w3, w4, w5, w6, w7, hx, hrn, q1, q2, hkn, hk0, hk2]; rfl)) (by (simp only [go_sem, hdec, w3, w4, w5, w6, w7, hx, hrn, q1, q2, hkn, hk0, hk2]; rfl)) ?_ ?_ <;> (intro hb; first | (cases hb; done) | (have ht : true = true := hb; clear ht hb) | (have ht : false = false := hb; clear ht hb) | (simp only [hb]) | skip))
            | (refine ev_guardF _ _ (by (simp only [go_sem, hdec, w3, w4, w5, w6, w7, hx, hrn, q1, q2, hkn, hk0, hk2]; rfl)) (by (simp only [go_sem, hdec, w3, w4, w5, w6, w7, hx, hrn, q1, q2, hkn, hk0, hk2]; rfl)) ?_ ?_ <;> (intro hb; first | (cases hb; done) | (have ht : true = true := hb; clear ht hb) | (have ht : false = false := hb; clear ht hb) | (simp only [hb]) | skip))
            | (apply ev_call0; (case hys => (simp only [go_sem, hdec, w3, w4, w5, w6, w7, hx, hrn, q1, q2, hkn, hk0, hk2]; try rfl)); (case hs => first | exact h18 ..); (case hok | hσ => (simp only [go_sem, hdec, w3, w4, w5, w6, w7, hx, hrn, q1, q2, hkn, hk0, hk2]; try rfl)))
            | (apply ev_step0; (case hr | hσ => (simp only [go_sem, hdec, w3, w4, w5, w6, w7, hx, hrn, q1, q2, hkn, hk0, hk2]; try rfl)); (case hc => (first | trivial | exact look_ok (by kernel_rfl) (by kernel_rfl) | decide | (simp only [inB, sliceOk, appendOk, rowsOk]; omega) | (simp [inB, sliceOk, appendOk, rowsOk]; omega))))
            | (apply ev_step; (case hr => (simp only [go_sem, hdec, w3, w4, w5, w6, w7, hx, hrn, q1, q2, hkn, hk0, hk2]; try rfl)); (case hσ => (intro g u; simp only [go_sem, hdec, w3, w4, w5, w6, w7, hx, hrn, q1, q2, hkn, hk0, hk2]; try rfl)); (case hc => (first | trivial | exact look_ok (by kernel_rfl) (by kernel_rfl) | decide | (simp only [inB, sliceOk, appendOk, rowsOk]; omega) | (simp [inB, sliceOk, appendOk, rowsOk]; omega))); intro g u; (try clear u); (try clear g))
            | fail
          refine Exists.intro (i + 1, u) ⟨by show i + 1 ≤ _; omega, by show l.length - (i + 1) < l.length - i; omega, ?_⟩
          simp only [hcz, hns, ha1, ha2, hap]
          refine Wk.mk ?_ ?_
          all_goals (repeat' first | exact trivial | exact LeA.refl _ | exact LeA.any _ | exact LeO.refl _ | exact LeO.no _ | exact LeA.nil _ | exact LeA.nilOwn _ | exact LeO.nil _ _ _ | refine LeO.box ?_ | (refine LeA.i ?_; (first | rfl | (push_cast; rfl) | (rw [wrap_id (by omega)]; push_cast; omega) | (simp [wrap_id]; omega))) | refine ⟨?_, ?_⟩)
        | false =>
          cases E2 with
          | true =>
            simp only [hk0, hk2, if_true, if_false, Bool.false_eq_true, Bool.true_or, Bool.false_or, Bool.and_true, Bool.and_false, Bool.true_and, Bool.false_and, Bool.not_true, Bool.not_false, Bool.or_true, Bool.or_false] at hcz hns ha1 ha2
            repeat' first
              | refine awp_seq ?_
              | refine awp_block ?_
              | refine awp_skip ?_
              | (refine reg _ (by (simp only [List.map_cons, List.map_nil]; rfl)) rfl ?_; intro K hK)
              | (refine awp_cond _ (by rfl) ?_ ?_ <;> (intro hb; first | (cases hb; done) | (have ht : true = true := hb; clear ht hb) | (have ht : false = false := hb; clear ht hb) | (simp only [hb]) | skip))
              | (refine awp_exit ?_; simp only [thenA, blockA, scopeA, reduceIte, RetQ, Nat.reduceEqDiff])
              | (refine awp_ret ?_; simp only [thenA, blockA, scopeA, RetQ])
              | (refine ev_nil (hK _ ?_); clear hK K)
              | (apply ev_guardU; (case hj | hu | hσ => (simp only [go_sem, hdec, w3, w4, w5, w6, w7, hx, hrn, q1, q2, hkn, hk0, hk2]; try rfl)))
              | (refine ev_guardT _ _ (by (simp only [go_sem, hdec, w3, w4, w5, w6, w7, hx, hrn, q1, q2, hkn, hk0, hk2]; rfl)) (by (simp only [go_sem, hdec, w3, w4, w5, w6, w7, hx, hrn, q1, q2, hkn, hk0, hk2]; rfl)) ?_ ?_ <;> (intro hb; first | (cases hb; done) | (have ht : true = true := hb; clear ht hb) | (have ht : false = false := hb; clear ht hb) | (simp only [hb]) | skip))
              | (refine ev_guardF _ _ (by (simp only [go_sem, hdec, w3, w4, w5, w6, w7, hx, hrn, q1, q2, hkn, hk0, hk2]; rfl)) (by (simp only [go_sem, hdec, w3, w4, w5, w6, w7, hx, hrn, q1, q2, hkn, hk0, hk2]; rfl)) ?_ ?_ <;> (intro hb; first | (cases hb; done) | (have ht : true = true := hb; clear ht hb) | (have ht : false = false := hb; clear ht hb) | (simp only [hb]) | skip))
              | (apply ev_call0; (case hys => (simp only [go_sem, hdec, w3, w4, w5, w6, w7, hx, hrn, q1, q2, hkn, hk0, hk2]; try rfl)); (case hs => first | exact h18 ..); (case hok | hσ => (simp only [go_sem, hdec, w3, w4, w5, w6, w7, hx, hrn, q1, q2, hkn, hk0, hk2]; try rfl)))
              | (apply ev_step0; (case hr | hσ => (simp only [go_sem, hdec, w3, w4, w5, w6, w7, hx, hrn, q1, q2, hkn, hk0, hk2]; try rfl)); (case hc => (first | trivial | exact look_ok (by kernel_rfl) (by kernel_rfl) | decide | (simp only [inB, sliceOk, appendOk, rowsOk]; omega) | (simp [inB, sliceOk, appendOk, rowsOk]; omega))))
              | (apply ev_step; (case hr => (simp only [go_sem, hdec, w3, w4, w5, w6, w7, hx, hrn, q1, q2, hkn, hk0, hk2]; try rfl)); (case hσ => (intro g u; simp only [go_sem, hdec, w3, w4, w5, w6, w7, hx, hrn, q1, q2, hkn, hk0, hk2]; try rfl)); (case hc => (first | trivial | exact look_ok (by kernel_rfl) (by kernel_rfl) | decide | (simp only [inB, sliceOk, appendOk, rowsOk]; omega) | (simp [inB, sliceOk, appendOk, rowsOk]; omega))); intro g u; (try clear u); (try clear g))
              | fail
            refine Exists.intro (i + 1, u) ⟨by show i + 1 ≤ _; omega, by show l.length - (i + 1) < l.length - i; omega, ?_⟩
            simp only [hcz, hns, ha1, ha2, hap]
            refine Wk.mk ?_ ?_
            all_goals (repeat' first | exact trivial | exact LeA.refl _ | exact LeA.any _ | exact LeO.refl _ | exact LeO.no _ | exact LeA.nil _ | exact LeA.nilOwn _ | exact LeO.nil _ _ _ | refine LeO.box ?_ | (refine LeA.i ?_; (first | rfl | (push_cast; rfl) | (rw [wrap_id (by omega)]; push_cast; omega) | (simp [wrap_id]; omega))) | refine ⟨?_, ?_⟩)
          | false =>
            simp only [hk0, hk2, if_true, if_false, Bool.false_eq_true, Bool.true_or, Bool.false_or, Bool.and_true, Bool.and_false, Bool.true_and, Bool.false_and, Bool.not_true, Bool.not_false, Bool.or_true, Bool.or_false] at hcz hns ha1 ha2
            repeat' first
              | refine awp_seq ?_
              | refine awp_block ?_
              | refine awp_skip ?_
              | (refine reg _ (by (simp only [List.map_cons, List.map_nil]; rfl)) rfl ?_; intro K hK)
              | (refine awp_cond _ (by rfl) ?_ ?_ <;> (intro hb; first | (cases hb; done) | (have ht : true = true := hb; clear ht hb) | (have ht : false = false := hb; clear ht hb) | (simp only [hb]) | skip))
              | (refine awp_exit ?_; simp only [thenA, blockA, scopeA, reduceIte, RetQ, Nat.reduceEqDiff])
              | (refine awp_ret ?_; simp only [thenA, blockA, scopeA, RetQ])
              | (refine ev_nil (hK _ ?_); clear hK K)
              | (apply ev_guardU; (case hj | hu | hσ => (simp only [go_sem, hdec, w3, w4, w5, w6, w7, hx, hrn, q1, q2, hkn, hk0, hk2]; try rfl)))
              | (refine ev_guardT _ _ (by (simp only [go_sem, hdec, w3, w4, w5, w6, w7, hx, hrn, q1, q2, hkn, hk0, hk2]; rfl)) (by (simp only [go_sem, hdec, w3, w4, w5, w6, w7, hx, hrn, q1, q2, hkn, hk0, hk2]; rfl)) ?_ ?_ <;> (intro hb; first | (cases hb; done) | (have ht : true = true := hb; clear ht hb) | (have ht : false = false := hb; clear ht hb) | (simp only [hb]) | skip))
              | (refine ev_guardF _ _ (by (simp only [go_sem, hdec, w3, w4, w5, w6, w7, hx, hrn, q1, q2, hkn, hk0, hk2]; rfl)) (by (simp only [go_sem, hdec, w3, w4, w5, w6, w7, hx, hrn, q1, q2, hkn, hk0, hk2]; rfl)) ?_ ?_ <;> (intro hb; first | (cases hb; done) | (have ht : true = true := hb; clear ht hb) | (have ht : false = false := hb; clear ht hb) | (simp only [hb]) | skip))
              | (apply ev_call0; (case hys => (simp only [go_sem, hdec, w3, w4, w5, w6, w7, hx, hrn, q1, q2, hkn, hk0, hk2]; try rfl)); (case hs => first | exact h18 ..); (case hok | hσ => (simp only [go_sem, hdec, w3, w4, w5, w6, w7, hx, hrn, q1, q2, hkn, hk0, hk2]; try rfl)))
              | (apply ev_step0; (case hr | hσ => (simp only [go_sem, hdec, w3, w4, w5, w6, w7, hx, hrn, q1, q2, hkn, hk0, hk2]; try rfl)); (case hc => (first | trivial | exact look_ok (by kernel_rfl) (by kernel_rfl) | decide | (simp only [inB, sliceOk, appendOk, rowsOk]; omega) | (simp [inB, sliceOk, appendOk, rowsOk]; omega))))
              | (apply ev_step; (case hr => (simp only [go_sem, hdec, w3, w4, w5, w6, w7, hx, hrn, q1, q2, hkn, hk0, hk2]; try rfl)); (case hσ => (intro g u; simp only [go_sem, hdec, w3, w4, w5, w6, w7, hx, hrn, q1, q2, hkn, hk0, hk2]; try rfl)); (case hc => (first | trivial | exact look_ok (by kernel_rfl) (by kernel_rfl) | decide | (simp only [inB, sliceOk, appendOk, rowsOk]; omega) | (simp [inB, sliceOk, appendOk, rowsOk]; omega))); intro g u; (try clear u); (try clear g))
              | fail
            refine Exists.intro (i + 1, u) ⟨by show i + 1 ≤ _; omega, by show l.length - (i + 1) < l.length - i; omega, ?_⟩
            simp only [hcz, hns, ha1, ha2, hap]
            refine Wk.mk ?_ ?_
            all_goals (repeat' first | exact trivial | exact LeA.refl _ | exact LeA.any _ | exact LeO.refl _ | exact LeO.no _ | exact LeA.nil _ | exact LeA.nilOwn _ | exact LeO.nil _ _ _ | refine LeO.box ?_ | (refine LeA.i ?_; (first | rfl | (push_cast; rfl) | (rw [wrap_id (by omega)]; push_cast; omega) | (simp [wrap_id]; omega))) | refine ⟨?_, ?_⟩)
      | false =>
        cases E1 with
        | true =>
          cases A2 with
          | true =>
            simp only [hk0, hk2, if_true, if_false, Bool.false_eq_true, Bool.true_or, Bool.false_or, Bool.and_true, Bool.and_false, Bool.true_and, Bool.false_and, Bool.not_true, Bool.not_false, Bool.or_true, Bool.or_false] at hcz hns ha1 ha2
            repeat' first
              | refine awp_seq ?_
              | refine awp_block ?_
              | refine awp_skip ?_
              | (refine reg _ (by (simp only [List.map_cons, List.map_nil]; rfl)) rfl ?_; intro K hK)
              | (refine awp_cond _ (by rfl) ?_ ?_ <;> (intro hb; first | (cases hb; done) | (have ht : true = true := hb; clear ht hb) | (have ht : false = false := hb; clear ht hb) | (simp only [hb]) | skip))
              | (refine awp_exit ?_; simp only [thenA, blockA, scopeA, reduceIte, RetQ, Nat.reduceEqDiff])
              | (refine awp_ret ?_; simp only [thenA, blockA, scopeA, RetQ])
              | (refine ev_nil (hK _ ?_); clear hK K)
              | (apply ev_guardU; (case hj | hu | hσ => (simp only [go_sem, hdec, w3, w4, w5, w6, w7, hx, hrn, q1, q2, hkn, hk0, hk2]; try rfl)))
              | (refine ev_guardT _ _ (by (simp only [go_sem, hdec, w3, w4, w5, w6, w7, hx, hrn, q1, q2, hkn, hk0, hk2]; rfl)) (by (simp only [go_sem, hdec, w3, w4, w5, w6, w7, hx, hrn, q1, q2, hkn, hk0, hk2]; rfl)) ?_ ?_ <;> (intro hb; first | (cases hb; done) | (have ht : true = true := hb; clear ht hb) | (have ht : false = false := hb; clear ht hb) | (simp only [hb]) | skip))
              | (refine ev_guardF _ _ (by (simp only [go_sem, hdec, w3, w4, w5, w6, w7, hx, hrn, q1, q2, hkn, hk0, hk2]; rfl)) (by (simp only [go_sem, hdec, w3, w4, w5, w6, w7, hx, hrn, q1, q2, hkn, hk0, hk2]; rfl)) ?_ ?_ <;> (intro hb; first | (cases hb; done) | (have ht : true = true := hb; clear ht hb) | (have ht : false = false := hb; clear ht hb) | (simp only [hb]) | skip))
              | (apply ev_call0; (case hys => (simp only [go_sem, hdec, w3, w4, w5, w6, w7, hx, hrn, q1, q2, hkn, hk0, hk2]; try rfl)); (case hs => first | exact h18 ..); (case hok | hσ => (simp only [go_sem, hdec, w3, w4, w5, w6, w7, hx, hrn, q1, q2, hkn, hk0, hk2]; try rfl)))
              | (apply ev_step0; (case hr | hσ => (simp only [go_sem, hdec, w3, w4, w5, w6, w7, hx, hrn, q1, q2, hkn, hk0, hk2]; try rfl)); (case hc => (first | trivial | exact look_ok (by kernel_rfl) (by kernel_rfl) | decide | (simp only [inB, sliceOk, appendOk, rowsOk]; omega) | (simp [inB, sliceOk, appendOk, rowsOk]; omega))))
              | (apply ev_step; (case hr => (simp only [go_sem, hdec, w3, w4, w5, w6, w7, hx, hrn, q1, q2, hkn, hk0, hk2]; try rfl)); (case hσ => (intro g u; simp only [go_sem, hdec, w3, w4, w5, w6, w7, hx, hrn, q1, q2, hkn, hk0, hk2]; try rfl)); (case hc => (first | trivial | exact look_ok (by kernel_rfl) (by kernel_rfl) | decide | (simp only [inB, sliceOk, appendOk, rowsOk]; omega) | (simp [inB, sliceOk, appendOk, rowsOk]; omega))); intro g u; (try clear u); (try clear g))
              | fail
            refine Exists.intro (i + 1, u) ⟨by show i + 1 ≤ _; omega, by show l.length - (i + 1) < l.length - i; omega, ?_⟩
            simp only [hcz, hns, ha1, ha2, hap]
            refine Wk.mk ?_ ?_
            all_goals (repeat' first | exact trivial | exact LeA.refl _ | exact LeA.any _ | exact LeO.refl _ | exact LeO.no _ | exact LeA.nil _ | exact LeA.nilOwn _ | exact LeO.nil _ _ _ | refine LeO.box ?_ | (refine LeA.i ?_; (first | rfl | (push_cast; rfl) | (rw [wrap_id (by omega)]; push_cast; omega) | (simp [wrap_id]; omega))) | refine ⟨?_, ?_⟩)
          | false =>
            cases E2 with
            | true =>
              simp only [hk0, hk2, if_true, if_false, Bool.false_eq_true, Bool.true_or, Bool.false_or, Bool.and_true, Bool.and_false, Bool.true_and, Bool.false_and, Bool.not_true, Bool.not_false, Bool.or_true, Bool.or_false] at hcz hns ha1 ha2
              repeat' first
                | refine awp_seq ?_
                | refine awp_block ?_
                | refine awp_skip ?_
                | (refine reg _ (by (simp only [List.map_cons, List.map_nil]; rfl)) rfl ?_; intro K hK)
                | (refine awp_cond _ (by rfl) ?_ ?_ <;> (intro hb; first | (cases hb; done) | (have ht : true = true := hb; clear ht hb) | (have ht : false = false := hb; clear ht hb) | (simp only [hb]) | skip))
                | (refine awp_exit ?_; simp only [thenA, blockA, scopeA, reduceIte, RetQ, Nat.reduceEqDiff])
                | (refine awp_ret ?_; simp only [thenA, blockA, scopeA, RetQ])
                | (refine ev_nil (hK _ ?_); clear hK K)
                | (apply ev_guardU; (case hj | hu | hσ => (simp only [go_sem, hdec, w3, w4, w5, w6, w7, hx, hrn, q1, q2, hkn, hk0, hk2]; try rfl)))
                | (refine ev_guardT _ _ (by (simp only [go_sem, hdec, w3, w4, w5, w6, w7, hx, hrn, q1, q2, hkn, hk0, hk2]; rfl)) (by (simp only [go_sem, hdec, w3, w4, w5, w6, w7, hx, hrn, q1, q2, hkn, hk0, hk2]; rfl)) ?_ ?_ <;> (intro hb; first | (cases hb; done) | (have ht : true = true := hb; clear ht hb) | (have ht : false = false := hb; clear ht hb) | (simp only [hb]) | skip))
                | (refine ev_guardF _ _ (by (simp only [go_sem, hdec, w3, w4, w5, w6, w7, hx, hrn, q1, q2, hkn, hk0, hk2]; rfl)) (by (simp only [go_sem, hdec, w3, w4, w5, w6, w7, hx, hrn, q1, q2, hkn, hk0, hk2]; rfl)) ?_ ?_ <;> (intro hb; first | (cases hb; done) | (have ht : true = true := hb; clear ht hb) | (have ht : false = false := hb; clear ht hb) | (simp only [hb]) | skip))
                | (apply ev_call0; (case hys => (simp only [go_sem, hdec, w3, w4, w5, w6, w7, hx, hrn, q1, q2, hkn, hk0, hk2]; try rfl)); (case hs => first | exact h18 ..); (case hok | hσ => (simp only [go_sem, hdec, w3, w4, w5, w6, w7, hx, hrn, q1, q2, hkn, hk0, hk2]; try rfl)))
                | (apply ev_step0; (case hr | hσ => (simp only [go_sem, hdec, w3, w4, w5, w6, w7, hx, hrn, q1, q2, hkn, hk0, hk2]; try rfl)); (case hc => (first | trivial | exact look_ok (by kernel_rfl) (by kernel_rfl) | decide | (simp only [inB, sliceOk, appendOk, rowsOk]; omega) | (simp [inB, sliceOk, appendOk, rowsOk]; omega))))
                | (apply ev_step; (case hr => (simp only [go_sem, hdec, w3, w4, w5, w6, w7, hx, hrn, q1, q2, hkn, hk0, hk2]; try rfl)); (case hσ => (intro g u; simp only [go_sem, hdec, w3, w4, w5, w6, w7, hx, hrn, q1, q2, hkn, hk0, hk2]; try rfl)); (case hc => (first | trivial | exact look_ok (by kernel_rfl) (by kernel_rfl) | decide | (simp only [inB, sliceOk, appendOk, rowsOk]; omega) | (simp [inB, sliceOk, appendOk, rowsOk]; omega))); intro g u; (try clear u); (try clear g))
                | fail
              refine Exists.intro (i + 1, u) ⟨by show i + 1 ≤ _; omega, by show l.length - (i + 1) < l.length - i; omega, ?_⟩
              simp only [hcz, hns, ha1, ha2, hap]
              refine Wk.mk ?_ ?_
              all_goals (repeat' first | exact trivial | exact LeA.refl _ | exact LeA.any _ | exact LeO.refl _ | exact LeO.no _ | exact LeA.nil _ | exact LeA.nilOwn _ | exact LeO.nil _ _ _ | refine LeO.box ?_ | (refine LeA.i ?_; (first | rfl | (push_cast; rfl) | (rw [wrap_id (by omega)]; push_cast; omega) | (simp [wrap_id]; omega))) | refine ⟨?_, ?_⟩)
            | false =>
              simp only [hk0, hk2, if_true, if_false, Bool.false_eq_true, Bool.true_or, Bool.false_or, Bool.and_true, Bool.and_false, Bool.true_and, Bool.false_and, Bool.not_true, Bool.not_false, Bool.or_true, Bool.or_false] at hcz hns ha1 ha2
              repeat' first
                | refine awp_seq ?_
                | refine awp_block ?_
                | refine awp_skip ?_
                | (refine reg _ (by (simp only [List.map_cons, List.map_nil]; rfl)) rfl ?_; intro K hK)
                | (refine awp_cond _ (by rfl) ?_ ?_ <;> (intro hb; first | (cases hb; done) | (have ht : true = true := hb; clear ht hb) | (have ht : false = false := hb; clear ht hb) | (simp only [hb]) | skip))
                | (refine awp_exit ?_; simp only [thenA, blockA, scopeA, reduceIte, RetQ, Nat.reduceEqDiff])
                | (refine awp_ret ?_; simp only [thenA, blockA, scopeA, RetQ])
                | (refine ev_nil (hK _ ?_); clear hK K)
                | (apply ev_guardU; (case hj | hu | hσ => (simp only [go_sem, hdec, w3, w4, w5, w6, w7, hx, hrn, q1, q2, hkn, hk0, hk2]; try rfl)))
                | (refine ev_guardT _ _ (by (simp only [go_sem, hdec, w3, w4, w5, w6, w7, hx, hrn, q1, q2, hkn, hk0, hk2]; rfl)) (by (simp only [go_sem, hdec, w3, w4, w5, w6, w7, hx, hrn, q1, q2, hkn, hk0, hk2]; rfl)) ?_ ?_ <;> (intro hb; first | (cases hb; done) | (have ht : true = true := hb; clear ht hb) | (have ht : false = false := hb; clear ht hb) | (simp only [hb]) | skip))
                | (refine ev_guardF _ _ (by (simp only [go_sem, hdec, w3, w4, w5, w6, w7, hx, hrn, q1, q2, hkn, hk0, hk2]; rfl)) (by (simp only [go_sem, hdec, w3, w4, w5, w6, w7, hx, hrn, q1, q2, hkn, hk0, hk2]; rfl)) ?_ ?_ <;> (intro hb; first | (cases hb; done) | (have ht : true = true := hb; clear ht hb) | (have ht : false = false := hb; clear ht hb) | (simp only [hb]) | skip))
                | (apply ev_call0; (case hys => (simp only [go_sem, hdec, w3, w4, w5, w6, w7, hx, hrn, q1, q2, hkn, hk0, hk2]; try rfl)); (case hs => first | exact h18 ..); (case hok | hσ => (simp only [go_sem, hdec, w3, w4, w5, w6, w7, hx, hrn, q1, q2, hkn, hk0, hk2]; try rfl)))
                | (apply ev_step0; (case hr | hσ => (simp only [go_sem, hdec, w3, w4, w5, w6, w7, hx, hrn, q1, q2, hkn, hk0, hk2]; try rfl)); (case hc => (first | trivial | exact look_ok (by kernel_rfl) (by kernel_rfl) | decide | (simp only [inB, sliceOk, appendOk, rowsOk]; omega) | (simp [inB, sliceOk, appendOk, rowsOk]; omega))))
                | (apply ev_step; (case hr => (simp only [go_sem, hdec, w3, w4, w5, w6, w7, hx, hrn, q1, q2, hkn, hk0, hk2]; try rfl)); (case hσ => (intro g u; simp only [go_sem, hdec, w3, w4, w5, w6, w7, hx, hrn, q1, q2, hkn, hk0, hk2]; try rfl)); (case hc => (first | trivial | exact look_ok (by kernel_rfl) (by kernel_rfl) | decide | (simp only [inB, sliceOk, appendOk, rowsOk]; omega) | (simp [inB, sliceOk, appendOk, rowsOk]; omega))); intro g u; (try clear u); (try clear g))
                | fail
              refine Exists.intro (i + 1, u) ⟨by show i + 1 ≤ _; omega, by show l.length - (i + 1) < l.length - i; omega, ?_⟩
              simp only [hcz, hns, ha1, ha2, hap]
              refine Wk.mk ?_ ?_
              all_goals (repeat' first | exact trivial | exact LeA.refl _ | exact LeA.any _ | exact LeO.refl _ | exact LeO.no _ | exact LeA.nil _ | exact LeA.nilOwn _ | exact LeO.nil _ _ _ | refine LeO.box ?_ | (refine LeA.i ?_; (first | rfl | (push_cast; rfl) | (rw [wrap_id (by omega)]; push_cast; omega) | (simp [wrap_id]; omega))) | refine ⟨?_, ?_⟩)
        | false =>
          cases A2 with
          | true =>
            simp only [hk0, hk2, if_true, if_false, Bool.false_eq_true, Bool.true_or, Bool.false_or, Bool.and_true, Bool.and_false, Bool.true_and, Bool.false_and, Bool.not_true, Bool.not_false, Bool.or_true, Bool.or_false] at hcz hns ha1 ha2
            repeat' first
              | refine awp_seq ?_
              | refine awp_block ?_
              | refine awp_skip ?_
              | (refine reg _ (by (simp only [List.map_cons, List.map_nil]; rfl)) rfl ?_; intro K hK)
              | (refine awp_cond _ (by rfl) ?_ ?_ <;> (intro hb; first | (cases hb; done) | (have ht : true = true := hb; clear ht hb) | (have ht : false = false := hb; clear ht hb) | (simp only [hb]) | skip))
              | (refine awp_exit ?_; simp only [thenA, blockA, scopeA, reduceIte, RetQ, Nat.reduceEqDiff])
              | (refine awp_ret ?_; simp only [thenA, blockA, scopeA, RetQ])
              | (refine ev_nil (hK _ ?_); clear hK K)
              | (apply ev_guardU; (case hj | hu | hσ => (simp only [go_sem, hdec, w3, w4, w5, w6, w7, hx, hrn, q1, q2, hkn, hk0, hk2]; try rfl)))
              | (refine ev_guardT _ _ (by (simp only [go_sem, hdec, w3, w4, w5, w6, w7, hx, hrn, q1, q2, hkn, hk0, hk2]; rfl)) (by (simp only [go_sem, hdec, w3, w4, w5, w6, w7, hx, hrn, q1, q2, hkn, hk0, hk2]; rfl)) ?_ ?_ <;> (intro hb; first | (cases hb; done) | (have ht : true = true := hb; clear ht hb) | (have ht : false = false := hb; clear ht hb) | (simp only [hb]) | skip))
              | (refine ev_guardF _ _ (by (simp only [go_sem, hdec, w3, w4, w5, w6, w7, hx, hrn, q1, q2, hkn, hk0, hk2]; rfl)) (by (simp only [go_sem, hdec, w3, w4, w5, w6, w7, hx, hrn, q1, q2, hkn, hk0, hk2]; rfl)) ?_ ?_ <;> (intro hb; first | (cases hb; done) | (have ht : true = true := hb; clear ht hb) | (have ht : false = false := hb; clear ht hb) | (simp only [hb]) | skip))
              | (apply ev_call0; (case hys => (simp only [go_sem, hdec, w3, w4, w5, w6, w7, hx, hrn, q1, q2, hkn, hk0, hk2]; try rfl)); (case hs => first | exact h18 ..); (case hok | hσ => (simp only [go_sem, hdec, w3, w4, w5, w6, w7, hx, hrn, q1, q2, hkn, hk0, hk2]; try rfl)))
              | (apply ev_step0; (case hr | hσ => (simp only [go_sem, hdec, w3, w4, w5, w6, w7, hx, hrn, q1, q2, hkn, hk0, hk2]; try rfl)); (case hc => (first | trivial | exact look_ok (by kernel_rfl) (by kernel_rfl) | decide | (simp only [inB, sliceOk, appendOk, rowsOk]; omega) | (simp [inB, sliceOk, appendOk, rowsOk]; omega))))
              | (apply ev_step; (case hr => (simp only [go_sem, hdec, w3, w4, w5, w6, w7, hx, hrn, q1, q2, hkn, hk0, hk2]; try rfl)); (case hσ => (intro g u; simp only [go_sem, hdec, w3, w4, w5, w6, w7, hx, hrn, q1, q2, hkn, hk0, hk2]; try rfl)); (case hc => (first | trivial | exact look_ok (by kernel_rfl) (by kernel_rfl) | decide | (simp only [inB, sliceOk, appendOk, rowsOk]; omega) | (simp [inB, sliceOk, appendOk, rowsOk]; omega))); intro g u; (try clear u); (try clear g))
              | fail
            refine Exists.intro (i + 1, u) ⟨by show i + 1 ≤ _; omega, by show l.length - (i + 1) < l.length - i; omega, ?_⟩
            simp only [hcz, hns, ha1, ha2, hap]
            refine Wk.mk ?_ ?_
            all_goals (repeat' first | exact trivial | exact LeA.refl _ | exact LeA.any _ | exact LeO.refl _ | exact LeO.no _ | exact LeA.nil _ | exact LeA.nilOwn _ | exact LeO.nil _ _ _ | refine LeO.box ?_ | (refine LeA.i ?_; (first | rfl | (push_cast; rfl) | (rw [wrap_id (by omega)]; push_cast; omega) | (simp [wrap_id]; omega))) | refine ⟨?_, ?_⟩)
          | false =>
            cases E2 with
            | true =>
              simp only [hk0, hk2, if_true, if_false, Bool.false_eq_true, Bool.true_or, Bool.false_or, Bool.and_true, Bool.and_false, Bool.true_and, Bool.false_and, Bool.not_true, Bool.not_false, Bool.or_true, Bool.or_false] at hcz hns ha1 ha2
              repeat' first
                | refine awp_seq ?_
                | refine awp_block ?_
                | refine awp_skip ?_
                | (refine reg _ (by (simp only [List.map_cons, List.map_nil]; rfl)) rfl ?_; intro K hK)
                | (refine awp_cond _ (by rfl) ?_ ?_ <;> (intro hb; first | (cases hb; done) | (have ht : true = true := hb; clear ht hb) | (have ht : false = false := hb; clear ht hb) | (simp only [hb]) | skip))
                | (refine awp_exit ?_; simp only [thenA, blockA, scopeA, reduceIte, RetQ, Nat.reduceEqDiff])
                | (refine awp_ret ?_; simp only [thenA, blockA, scopeA, RetQ])
                | (refine ev_nil (hK _ ?_); clear hK K)
                | (apply ev_guardU; (case hj | hu | hσ => (simp only [go_sem, hdec, w3, w4, w5, w6, w7, hx, hrn, q1, q2, hkn, hk0, hk2]; try rfl)))
                | (refine ev_guardT _ _ (by (simp only [go_sem, hdec, w3, w4, w5, w6, w7, hx, hrn, q1, q2, hkn, hk0, hk2]; rfl)) (by (simp only [go_sem, hdec, w3, w4, w5, w6, w7, hx, hrn, q1, q2, hkn, hk0, hk2]; rfl)) ?_ ?_ <;> (intro hb; first | (cases hb; done) | (have ht : true = true := hb; clear ht hb) | (have ht : false = false := hb; clear ht hb) | (simp only [hb]) | skip))
                | (refine ev_guardF _ _ (by (simp only [go_sem, hdec, w3, w4, w5, w6, w7, hx, hrn, q1, q2, hkn, hk0, hk2]; rfl)) (by (simp only [go_sem, hdec, w3, w4, w5, w6, w7, hx, hrn, q1, q2, hkn, hk0, hk2]; rfl)) ?_ ?_ <;> (intro hb; first | (cases hb; done) | (have ht : true = true := hb; clear ht hb) | (have ht : false = false := hb; clear ht hb) | (simp only [hb]) | skip))
                | (apply ev_call0; (case hys => (simp only [go_sem, hdec, w3, w4, w5, w6, w7, hx, hrn, q1, q2, hkn, hk0, hk2]; try rfl)); (case hs => first | exact h18 ..); (case hok | hσ => (simp only [go_sem, hdec, w3, w4, w5, w6, w7, hx, hrn, q1, q2, hkn, hk0, hk2]; try rfl)))
                | (apply ev_step0; (case hr | hσ => (simp only [go_sem, hdec, w3, w4, w5, w6, w7, hx, hrn, q1, q2, hkn, hk0, hk2]; try rfl)); (case hc => (first | trivial | exact look_ok (by kernel_rfl) (by kernel_rfl) | decide | (simp only [inB, sliceOk, appendOk, rowsOk]; omega) | (simp [inB, sliceOk, appendOk, rowsOk]; omega))))
                | (apply ev_step; (case hr => (simp only [go_sem, hdec, w3, w4, w5, w6, w7, hx, hrn, q1, q2, hkn, hk0, hk2]; try rfl)); (case hσ => (intro g u; simp only [go_sem, hdec, w3, w4, w5, w6, w7, hx, hrn, q1, q2, hkn, hk0, hk2]; try rfl)); (case hc => (first | trivial | exact look_ok (by kernel_rfl) (by kernel_rfl) | decide | (simp only [inB, sliceOk, appendOk, rowsOk]; omega) | (simp [inB, sliceOk, appendOk, rowsOk]; omega))); intro g u; (try clear u); (try clear g))
                | fail
              refine Exists.intro (i + 1, u) ⟨by show i + 1 ≤ _; omega, by show l.length - (i + 1) < l.length - i; omega, ?_⟩
              simp only [hcz, hns, ha1, ha2, hap]
              refine Wk.mk ?_ ?_
              all_goals (repeat' first | exact trivial | exact LeA.refl _ | exact LeA.any _ | exact LeO.refl _ | exact LeO.no _ | exact LeA.nil _ | exact LeA.nilOwn _ | exact LeO.nil _ _ _ | refine LeO.box ?_ | (refine LeA.i ?_; (first | rfl | (push_cast; rfl) | (rw [wrap_id (by omega)]; push_cast; omega) | (simp [wrap_id]; omega))) | refine ⟨?_, ?_⟩)
            | false =>
              simp only [hk0, hk2, if_true, if_false, Bool.false_eq_true, Bool.true_or, Bool.false_or, Bool.and_true, Bool.and_false, Bool.true_and, Bool.false_and, Bool.not_true, Bool.not_false, Bool.or_true, Bool.or_false] at hcz hns ha1 ha2
              repeat' first
                | refine awp_seq ?_
                | refine awp_block ?_
                | refine awp_skip ?_
                | (refine reg _ (by (simp only [List.map_cons, List.map_nil]; rfl)) rfl ?_; intro K hK)
                | (refine awp_cond _ (by rfl) ?_ ?_ <;> (intro hb; first | (cases hb; done) | (have ht : true = true := hb; clear ht hb) | (have ht : false = false := hb; clear ht hb) | (simp only [hb]) | skip))
                | (refine awp_exit ?_; simp only [thenA, blockA, scopeA, reduceIte, RetQ, Nat.reduceEqDiff])
                | (refine awp_ret ?_; simp only [thenA, blockA, scopeA, RetQ])
                | (refine ev_nil (hK _ ?_); clear hK K)
                | (apply ev_guardU; (case hj | hu | hσ => (simp only [go_sem, hdec, w3, w4, w5, w6, w7, hx, hrn, q1, q2, hkn, hk0, hk2]; try rfl)))
                | (refine ev_guardT _ _ (by (simp only [go_sem, hdec, w3, w4, w5, w6, w7, hx, hrn, q1, q2, hkn, hk0, hk2]; rfl)) (by (simp only [go_sem, hdec, w3, w4, w5, w6, w7, hx, hrn, q1, q2, hkn, hk0, hk2]; rfl)) ?_ ?_ <;> (intro hb; first | (cases hb; done) | (have ht : true = true := hb; clear ht hb) | (have ht : false = false := hb; clear ht hb) | (simp only [hb]) | skip))
                | (refine ev_guardF _ _ (by (simp only [go_sem, hdec, w3, w4, w5, w6, w7, hx, hrn, q1, q2, hkn, hk0, hk2]; rfl)) (by (simp only [go_sem, hdec, w3, w4, w5, w6, w7, hx, hrn, q1, q2, hkn, hk0, hk2]; rfl)) ?_ ?_ <;> (intro hb; first | (cases hb; done) | (have ht : true = true := hb; clear ht hb) | (have ht : false = false := hb; clear ht hb) | (simp only [hb]) | skip))
                | (apply ev_call0; (case hys => (simp only [go_sem, hdec, w3, w4, w5, w6, w7, hx, hrn, q1, q2, hkn, hk0, hk2]; try rfl)); (case hs => first | exact h18 ..); (case hok | hσ => (simp only [go_sem, hdec, w3, w4, w5, w6, w7, hx, hrn, q1, q2, hkn, hk0, hk2]; try rfl)))
                | (apply ev_step0; (case hr | hσ => (simp only [go_sem, hdec, w3, w4, w5, w6, w7, hx, hrn, q1, q2, hkn, hk0, hk2]; try rfl)); (case hc => (first | trivial | exact look_ok (by kernel_rfl) (by kernel_rfl) | decide | (simp only [inB, sliceOk, appendOk, rowsOk]; omega) | (simp [inB, sliceOk, appendOk, rowsOk]; omega))))
                | (apply ev_step; (case hr => (simp only [go_sem, hdec, w3, w4, w5, w6, w7, hx, hrn, q1, q2, hkn, hk0, hk2]; try rfl)); (case hσ => (intro g u; simp only [go_sem, hdec, w3, w4, w5, w6, w7, hx, hrn, q1, q2, hkn, hk0, hk2]; try rfl)); (case hc => (first | trivial | exact look_ok (by kernel_rfl) (by kernel_rfl) | decide | (simp only [inB, sliceOk, appendOk, rowsOk]; omega) | (simp [inB, sliceOk, appendOk, rowsOk]; omega))); intro g u; (try clear u); (try clear g))
                | fail
              refine Exists.intro (i + 1, u) ⟨by show i + 1 ≤ _; omega, by show l.length - (i + 1) < l.length - i; omega, ?_⟩
              simp only [hcz, hns, ha1, ha2, hap]
              refine Wk.mk ?_ ?_
              all_goals (repeat' first | exact trivial | exact LeA.refl _ | exact LeA.any _ | exact LeO.refl _ | exact LeO.no _ | exact LeA.nil _ | exact LeA.nilOwn _ | exact LeO.nil _ _ _ | refine LeO.box ?_ | (refine LeA.i ?_; (first | rfl | (push_cast; rfl) | (rw [wrap_id (by omega)]; push_cast; omega) | (simp [wrap_id]; omega))) | refine ⟨?_, ?_⟩)
    | false =>
      cases A1 with
      | true =>
        cases A2 with
        | true =>
          simp only [hk0, hk2, if_true, if_false, Bool.false_eq_true, Bool.true_or, Bool.false_or, Bool.and_true, Bool.and_false, Bool.true_and, Bool.false_and, Bool.not_true, Bool.not_false, Bool.or_true, Bool.or_false] at hcz hns ha1 ha2
          repeat' first
            | refine awp_seq ?_
            | refine awp_block ?_
            | refine awp_skip ?_
            | (refine reg _ (by (simp only [List.map_cons, List.map_nil]; rfl)) rfl ?_; intro K hK)
            | (refine awp_cond _ (by rfl) ?_ ?_ <;> (intro hb; first | (cases hb; done) | (have ht : true = true := hb; clear ht hb) | (have ht : false = false := hb; clear ht hb) | (simp only [hb]) | skip))
            | (refine awp_exit ?_; simp only [thenA, blockA, scopeA, reduceIte, RetQ, Nat.reduceEqDiff])
            | (refine awp_ret ?_; simp only [thenA, blockA, scopeA, RetQ])
            | (refine ev_nil (hK _ ?_); clear hK K)
            | (apply ev_guardU; (case hj | hu | hσ => (simp only [go_sem, hdec, w3, w4, w5, w6, w7, hx, hrn, q1, q2, hkn, hk0, hk2]; try rfl)))
            | (refine ev_guardT _ _ (by (simp only [go_sem, hdec, w3, w4, w5, w6, w7, hx, hrn, q1, q2, hkn, hk0, hk2]; rfl)) (by (simp only [go_sem, hdec, w3, w4, w5, w6, w7, hx, hrn, q1, q2, hkn, hk0, hk2]; rfl)) ?_ ?_ <;> (intro hb; first | (cases hb; done) | (have ht : true = true := hb; clear ht hb) | (have ht : false = false := hb; clear ht hb) | (simp only [hb]) | skip))
            | (refine ev_guardF _ _ (by (simp only [go_sem, hdec, w3, w4, w5, w6, w7, hx, hrn, q1, q2, hkn, hk0, hk2]; rfl)) (by (simp only [go_sem, hdec, w3, w4, w5, w6, w7, hx, hrn, q1, q2, hkn, hk0, hk2]; rfl)) ?_ ?_ <;> (intro hb; first | (cases hb; done) | (have ht : true = true := hb; clear ht hb) | (have ht : false = false := hb; clear ht hb) | (simp only [hb]) | skip))
            | (apply ev_call0; (case hys => (simp only [go_sem, hdec, w3, w4, w5, w6, w7, hx, hrn, q1, q2, hkn, hk0, hk2]; try rfl)); (case hs => first | exact h18 ..); (case hok | hσ => (simp only [go_sem, hdec, w3, w4, w5, w6, w7, hx, hrn, q1, q2, hkn, hk0, hk2]; try rfl)))
            | (apply ev_step0; (case hr | hσ => (simp only [go_sem, hdec, w3, w4, w5, w6, w7, hx, hrn, q1, q2, hkn, hk0, hk2]; try rfl)); (case hc => (first | trivial | exact look_ok (by kernel_rfl) (by kernel_rfl) | decide | (simp only [inB, sliceOk, appendOk, rowsOk]; omega) | (simp [inB, sliceOk, appendOk, rowsOk]; omega))))
            | (apply ev_step; (case hr => (simp only [go_sem, hdec, w3, w4, w5, w6, w7, hx, hrn, q1, q2, hkn, hk0, hk2]; try rfl)); (case hσ => (intro g u; simp only [go_sem, hdec, w3, w4, w5, w6, w7, hx, hrn, q1, q2, hkn, hk0, hk2]; try rfl)); (case hc => (first | trivial | exact look_ok (by kernel_rfl) (by kernel_rfl) | decide | (simp only [inB, sliceOk, appendOk, rowsOk]; omega) | (simp [inB, sliceOk, appendOk, rowsOk]; omega))); intro g u; (try clear u); (try clear g))
            | fail
          refine Exists.intro (i + 1, u) ⟨by show i + 1 ≤ _; omega, by show l.length - (i + 1) < l.length - i; omega, ?_⟩
          simp only [hcz, hns, ha1, ha2, hap]
          refine Wk.mk ?_ ?_
          all_goals (repeat' first | exact trivial | exact LeA.refl _ | exact LeA.any _ | exact LeO.refl _ | exact LeO.no _ | exact LeA.nil _ | exact LeA.nilOwn _ | exact LeO.nil _ _ _ | refine LeO.box ?_ | (refine LeA.i ?_; (first | rfl | (push_cast; rfl) | (rw [wrap_id (by omega)]; push_cast; omega) | (simp [wrap_id]; omega))) | refine ⟨?_, ?_⟩)
        | false =>
          cases E2 with
          | true =>
            simp only [hk0, hk2, if_true, if_false, Bool.false_eq_true, Bool.true_or, Bool.false_or, Bool.and_true, Bool.and_false, Bool.true_and, Bool.false_and, Bool.not_true, Bool.not_false, Bool.or_true, Bool.or_false] at hcz hns ha1 ha2
            repeat' first
              | refine awp_seq ?_
              | refine awp_block ?_
              | refine awp_skip ?_
              | (refine reg _ (by (simp only [List.map_cons, List.map_nil]; rfl)) rfl ?_; intro K hK)
              | (refine awp_cond _ (by rfl) ?_ ?_ <;> (intro hb; first | (cases hb; done) | (have ht : true = true := hb; clear ht hb) | (have ht : false = false := hb; clear ht hb) | (simp only [hb]) | skip))
              | (refine awp_exit ?_; simp only [thenA, blockA, scopeA, reduceIte, RetQ, Nat.reduceEqDiff])
              | (refine awp_ret ?_; simp only [thenA, blockA, scopeA, RetQ])
              | (refine ev_nil (hK _ ?_); clear hK K)
              | (apply ev_guardU; (case hj | hu | hσ => (simp only [go_sem, hdec, w3, w4, w5, w6, w7, hx, hrn, q1, q2, hkn, hk0, hk2]; try rfl)))
              | (refine ev_guardT _ _ (by (simp only [go_sem, hdec, w3, w4, w5, w6, w7, hx, hrn, q1, q2, hkn, hk0, hk2]; rfl)) (by (simp only [go_sem, hdec, w3, w4, w5, w6, w7, hx, hrn, q1, q2, hkn, hk0, hk2]; rfl)) ?_ ?_ <;> (intro hb; first | (cases hb; done) | (have ht : true = true := hb; clear ht hb) | (have ht : false = false := hb; clear ht hb) | (simp only [hb]) | skip))
              | (refine ev_guardF _ _ (by (simp only [go_sem, hdec, w3, w4, w5, w6, w7, hx, hrn, q1, q2, hkn, hk0, hk2]; rfl)) (by (simp only [go_sem, hdec, w3, w4, w5, w6, w7, hx, hrn, q1, q2, hkn, hk0, hk2]; rfl)) ?_ ?_ <;> (intro hb; first | (cases hb; done) | (have ht : true = true := hb; clear ht hb) | (have ht : false = false := hb; clear ht hb) | (simp only [hb]) | skip))
              | (apply ev_call0; (case hys => (simp only [go_sem, hdec, w3, w4, w5, w6, w7, hx, hrn, q1, q2, hkn, hk0, hk2]; try rfl)); (case hs => first | exact h18 ..); (case hok | hσ => (simp only [go_sem, hdec, w3, w4, w5, w6, w7, hx, hrn, q1, q2, hkn, hk0, hk2]; try rfl)))
              | (apply ev_step0; (case hr | hσ => (simp only [go_sem, hdec, w3, w4, w5, w6, w7, hx, hrn, q1, q2, hkn, hk0, hk2]; try rfl)); (case hc => (first | trivial | exact look_ok (by kernel_rfl) (by kernel_rfl) | decide | (simp only [inB, sliceOk, appendOk, rowsOk]; omega) | (simp [inB, sliceOk, appendOk, rowsOk]; omega))))
              | (apply ev_step; (case hr => (simp only [go_sem, hdec, w3, w4, w5, w6, w7, hx, hrn, q1, q2, hkn, hk0, hk2]; try rfl)); (case hσ => (intro g u; simp only [go_sem, hdec, w3, w4, w5, w6, w7, hx, hrn, q1, q2, hkn, hk0, hk2]; try rfl)); (case hc => (first | trivial | exact look_ok (by kernel_rfl) (by kernel_rfl) | decide | (simp only [inB, sliceOk, appendOk, rowsOk]; omega) | (simp [inB, sliceOk, appendOk, rowsOk]; omega))); intro g u; (try clear u); (try clear g))
              | fail
            refine Exists.intro (i + 1, u) ⟨by show i + 1 ≤ _; omega, by show l.length - (i + 1) < l.length - i; omega, ?_⟩
            simp only [hcz, hns, ha1, ha2, hap]
            refine Wk.mk ?_ ?_
            all_goals (repeat' first | exact trivial | exact LeA.refl _ | exact LeA.any _ | exact LeO.refl _ | exact LeO.no _ | exact LeA.nil _ | exact LeA.nilOwn _ | exact LeO.nil _ _ _ | refine LeO.box ?_ | (refine LeA.i ?_; (first | rfl | (push_cast; rfl) | (rw [wrap_id (by omega)]; push_cast; omega) | (simp [wrap_id]; omega))) | refine ⟨?_, ?_⟩)
          | false =>
            simp only [hk0, hk2, if_true, if_false, Bool.false_eq_true, Bool.true_or, Bool.false_or, Bool.and_true, Bool.and_false, Bool.true_and, Bool.false_and, Bool.not_true, Bool.not_false, Bool.or_true, Bool.or_false] at hcz hns ha1 ha2
            repeat' first
              | refine awp_seq ?_
              | refine awp_block ?_
              | refine awp_skip ?_
              | (refine reg _ (by (simp only [List.map_cons, List.map_nil]; rfl)) rfl ?_; intro K hK)
              | (refine awp_cond _ (by rfl) ?_ ?_ <;> (intro hb; first | (cases hb; done) | (have ht : true = true := hb; clear ht hb) | (have ht : false = false := hb; clear ht hb) | (simp only [hb]) | skip))
              | (refine awp_exit ?_; simp only [thenA, blockA, scopeA, reduceIte, RetQ, Nat.reduceEqDiff])
              | (refine awp_ret ?_; simp only [thenA, blockA, scopeA, RetQ])
              | (refine ev_nil (hK _ ?_); clear hK K)
              | (apply ev_guardU; (case hj | hu | hσ => (simp only [go_sem, hdec, w3, w4, w5, w6, w7, hx, hrn, q1, q2, hkn, hk0, hk2]; try rfl)))
              | (refine ev_guardT _ _ (by (simp only [go_sem, hdec, w3, w4, w5, w6, w7, hx, hrn, q1, q2, hkn, hk0, hk2]; rfl)) (by (simp only [go_sem, hdec, w3, w4, w5, w6, w7, hx, hrn, q1, q2, hkn, hk0, hk2]; rfl)) ?_ ?_ <;> (intro hb; first | (cases hb; done) | (have ht : true = true := hb; clear ht hb) | (have ht : false = false := hb; clear ht hb) | (simp only [hb]) | skip))
              | (refine ev_guardF _ _ (by (simp only [go_sem, hdec, w3, w4, w5, w6, w7, hx, hrn, q1, q2, hkn, hk0, hk2]; rfl)) (by (simp only [go_sem, hdec, w3, w4, w5, w6, w7, hx, hrn, q1, q2, hkn, hk0, hk2]; rfl)) ?_ ?_ <;> (intro hb; first | (cases hb; done) | (have ht : true = true := hb; clear ht hb) | (have ht : false = false := hb; clear ht hb) | (simp only [hb]) | skip))
              | (apply ev_call0; (case hys => (simp only [go_sem, hdec, w3, w4, w5, w6, w7, hx, hrn, q1, q2, hkn, hk0, hk2]; try rfl)); (case hs => first | exact h18 ..); (case hok | hσ => (simp only [go_sem, hdec, w3, w4, w5, w6, w7, hx, hrn, q1, q2, hkn, hk0, hk2]; try rfl)))
              | (apply ev_step0; (case hr | hσ => (simp only [go_sem, hdec, w3, w4, w5, w6, w7, hx, hrn, q1, q2, hkn, hk0, hk2]; try rfl)); (case hc => (first | trivial | exact look_ok (by kernel_rfl) (by kernel_rfl) | decide | (simp only [inB, sliceOk, appendOk, rowsOk]; omega) | (simp [inB, sliceOk, appendOk, rowsOk]; omega))))
              | (apply ev_step; (case hr => (simp only [go_sem, hdec, w3, w4, w5, w6, w7, hx, hrn, q1, q2, hkn, hk0, hk2]; try rfl)); (case hσ => (intro g u; simp only [go_sem, hdec, w3, w4, w5, w6, w7, hx, hrn, q1, q2, hkn, hk0, hk2]; try rfl)); (case hc => (first | trivial | exact look_ok (by kernel_rfl) (by kernel_rfl) | decide | (simp only [inB, sliceOk, appendOk, rowsOk]; omega) | (simp [inB, sliceOk, appendOk, rowsOk]; omega))); intro g u; (try clear u); (try clear g))
              | fail
            refine Exists.intro (i + 1, u) ⟨by show i + 1 ≤ _; omega, by show l.length - (i + 1) < l.length - i; omega, ?_⟩
            simp only [hcz, hns, ha1, ha2, hap]
            refine Wk.mk ?_ ?_
            all_goals (repeat' first | exact trivial | exact LeA.refl _ | exact LeA.any _ | exact LeO.refl _ | exact LeO.no _ | exact LeA.nil _ | exact LeA.nilOwn _ | exact LeO.nil _ _ _ | refine LeO.box ?_ | (refine LeA.i ?_; (first | rfl | (push_cast; rfl) | (rw [wrap_id (by omega)]; push_cast; omega) | (simp [wrap_id]; omega))) | refine ⟨?_, ?_⟩)
      | false =>
        cases E1 with
        | true =>
          cases A2 with
          | true =>
            simp only [hk0, hk2, if_true, if_false, Bool.false_eq_true, Bool.true_or, Bool.false_or, Bool.and_true, Bool.and_false, Bool.true_and, Bool.false_and, Bool.not_true, Bool.not_false, Bool.or_true, Bool.or_false] at hcz hns ha1 ha2
            repeat' first
              | refine awp_seq ?_
              | refine awp_block ?_
              | refine awp_skip ?_
              | (refine reg _ (by (simp only [List.map_cons, List.map_nil]; rfl)) rfl ?_; intro K hK)
              | (refine awp_cond _ (by rfl) ?_ ?_ <;> (intro hb; first | (cases hb; done) | (have ht : true = true := hb; clear ht hb) | (have ht : false = false := hb; clear ht hb) | (simp only [hb]) | skip))
              | (refine awp_exit ?_; simp only [thenA, blockA, scopeA, reduceIte, RetQ, Nat.reduceEqDiff])
              | (refine awp_ret ?_; simp only [thenA, blockA, scopeA, RetQ])
              | (refine ev_nil (hK _ ?_); clear hK K)
              | (apply ev_guardU; (case hj | hu | hσ => (simp only [go_sem, hdec, w3, w4, w5, w6, w7, hx, hrn, q1, q2, hkn, hk0, hk2]; try rfl)))
              | (refine ev_guardT _ _ (by (simp only [go_sem, hdec, w3, w4, w5, w6, w7, hx, hrn, q1, q2, hkn, hk0, hk2]; rfl)) (by (simp only [go_sem, hdec, w3, w4, w5, w6, w7, hx, hrn, q1, q2, hkn, hk0, hk2]; rfl)) ?_ ?_ <;> (intro hb; first | (cases hb; done) | (have ht : true = true := hb; clear ht hb) | (have ht : false = false := hb; clear ht hb) | (simp only [hb]) | skip))
              | (refine ev_guardF _ _ (by (simp only [go_sem, hdec, w3, w4, w5, w6, w7, hx, hrn, q1, q2, hkn, hk0, hk2]; rfl)) (by (simp only [go_sem, hdec, w3, w4, w5, w6, w7, hx, hrn, q1, q2, hkn, hk0, hk2]; rfl)) ?_ ?_ <;> (intro hb; first | (cases hb; done) | (have ht : true = true := hb; clear ht hb) | (have ht : false = false := hb; clear ht hb) | (simp only [hb]) | skip))
              | (apply ev_call0; (case hys => (simp only [go_sem, hdec, w3, w4, w5, w6, w7, hx, hrn, q1, q2, hkn, hk0, hk2]; try rfl)); (case hs => first | exact h18 ..); (case hok | hσ => (simp only [go_sem, hdec, w3, w4, w5, w6, w7, hx, hrn, q1, q2, hkn, hk0, hk2]; try rfl)))
              | (apply ev_step0; (case hr | hσ => (simp only [go_sem, hdec, w3, w4, w5, w6, w7, hx, hrn, q1, q2, hkn, hk0, hk2]; try rfl)); (case hc => (first | trivial | exact look_ok (by kernel_rfl) (by kernel_rfl) | decide | (simp only [inB, sliceOk, appendOk, rowsOk]; omega) | (simp [inB, sliceOk, appendOk, rowsOk]; omega))))
              | (apply ev_step; (case hr => (simp only [go_sem, hdec, w3, w4, w5, w6, w7, hx, hrn, q1, q2, hkn, hk0, hk2]; try rfl)); (case hσ => (intro g u; simp only [go_sem, hdec, w3, w4, w5, w6, w7, hx, hrn, q1, q2, hkn, hk0, hk2]; try rfl)); (case hc => (first | trivial | exact look_ok (by kernel_rfl) (by kernel_rfl) | decide | (simp only [inB, sliceOk, appendOk, rowsOk]; omega) | (simp [inB, sliceOk, appendOk, rowsOk]; omega))); intro g u; (try clear u); (try clear g))
              | fail
            refine Exists.intro (i + 1, u) ⟨by show i + 1 ≤ _; omega, by show l.length - (i + 1) < l.length - i; omega, ?_⟩
            simp only [hcz, hns, ha1, ha2, hap]
            refine Wk.mk ?_ ?_
            all_goals (repeat' first | exact trivial | exact LeA.refl _ | exact LeA.any _ | exact LeO.refl _ | exact LeO.no _ | exact LeA.nil _ | exact LeA.nilOwn _ | exact LeO.nil _ _ _ | refine LeO.box ?_ | (refine LeA.i ?_; (first | rfl | (push_cast; rfl) | (rw [wrap_id (by omega)]; push_cast; omega) | (simp [wrap_id]; omega))) | refine ⟨?_, ?_⟩)
          | false =>
            cases E2 with
            | true =>
              simp only [hk0, hk2, if_true, if_false, Bool.false_eq_true, Bool.true_or, Bool.false_or, Bool.and_true, Bool.and_false, Bool.true_and, Bool.false_and, Bool.not_true, Bool.not_false, Bool.or_true, Bool.or_false] at hcz hns ha1 ha2
              repeat' first
                | refine awp_seq ?_
                | refine awp_block ?_
                | refine awp_skip ?_
                | (refine reg _ (by (simp only [List.map_cons, List.map_nil]; rfl)) rfl ?_; intro K hK)
                | (refine awp_cond _ (by rfl) ?_ ?_ <;> (intro hb; first | (cases hb; done) | (have ht : true = true := hb; clear ht hb) | (have ht : false = false := hb; clear ht hb) | (simp only [hb]) | skip))
                | (refine awp_exit ?_; simp only [thenA, blockA, scopeA, reduceIte, RetQ, Nat.reduceEqDiff])
                | (refine awp_ret ?_; simp only [thenA, blockA, scopeA, RetQ])
                | (refine ev_nil (hK _ ?_); clear hK K)
                | (apply ev_guardU; (case hj | hu | hσ => (simp only [go_sem, hdec, w3, w4, w5, w6, w7, hx, hrn, q1, q2, hkn, hk0, hk2]; try rfl)))
                | (refine ev_guardT _ _ (by (simp only [go_sem, hdec, w3, w4, w5, w6, w7, hx, hrn, q1, q2, hkn, hk0, hk2]; rfl)) (by (simp only [go_sem, hdec, w3, w4, w5, w6, w7, hx, hrn, q1, q2, hkn, hk0, hk2]; rfl)) ?_ ?_ <;> (intro hb; first | (cases hb; done) | (have ht : true = true := hb; clear ht hb) | (have ht : false = false := hb; clear ht hb) | (simp only [hb]) | skip))
                | (refine ev_guardF _ _ (by (simp only [go_sem, hdec, w3, w4, w5, w6, w7, hx, hrn, q1, q2, hkn, hk0, hk2]; rfl)) (by (simp only [go_sem, hdec, w3, w4, w5, w6, w7, hx, hrn, q1, q2, hkn, hk0, hk2]; rfl)) ?_ ?_ <;> (intro hb; first | (cases hb; done) | (have ht : true = true := hb; clear ht hb) | (have ht : false = false := hb; clear ht hb) | (simp only [hb]) | skip))
                | (apply ev_call0; (case hys => (simp only [go_sem, hdec, w3, w4, w5, w6, w7, hx, hrn, q1, q2, hkn, hk0, hk2]; try rfl)); (case hs => first | exact h18 ..); (case hok | hσ => (simp only [go_sem, hdec, w3, w4, w5, w6, w7, hx, hrn, q1, q2, hkn, hk0, hk2]; try rfl)))
                | (apply ev_step0; (case hr | hσ => (simp only [go_sem, hdec, w3, w4, w5, w6, w7, hx, hrn, q1, q2, hkn, hk0, hk2]; try rfl)); (case hc => (first | trivial | exact look_ok (by kernel_rfl) (by kernel_rfl) | decide | (simp only [inB, sliceOk, appendOk, rowsOk]; omega) | (simp [inB, sliceOk, appendOk, rowsOk]; omega))))
                | (apply ev_step; (case hr => (simp only [go_sem, hdec, w3, w4, w5, w6, w7, hx, hrn, q1, q2, hkn, hk0, hk2]; try rfl)); (case hσ => (intro g u; simp only [go_sem, hdec, w3, w4, w5, w6, w7, hx, hrn, q1, q2, hkn, hk0, hk2]; try rfl)); (case hc => (first | trivial | exact look_ok (by kernel_rfl) (by kernel_rfl) | decide | (simp only [inB, sliceOk, appendOk, rowsOk]; omega) | (simp [inB, sliceOk, appendOk, rowsOk]; omega))); intro g u; (try clear u); (try clear g))
                | fail
              refine Exists.intro (i + 1, u) ⟨by show i + 1 ≤ _; omega, by show l.length - (i + 1) < l.length - i; omega, ?_⟩
              simp only [hcz, hns, ha1, ha2, hap]
              refine Wk.mk ?_ ?_
              all_goals (repeat' first | exact trivial | exact LeA.refl _ | exact LeA.any _ | exact LeO.refl _ | exact LeO.no _ | exact LeA.nil _ | exact LeA.nilOwn _ | exact LeO.nil _ _ _ | refine LeO.box ?_ | (refine LeA.i ?_; (first | rfl | (push_cast; rfl) | (rw [wrap_id (by omega)]; push_cast; omega) | (simp [wrap_id]; omega))) | refine ⟨?_, ?_⟩)
            | false =>
              simp only [hk0, hk2, if_true, if_false, Bool.false_eq_true, Bool.true_or, Bool.false_or, Bool.and_true, Bool.and_false, Bool.true_and, Bool.false_and, Bool.not_true, Bool.not_false, Bool.or_true, Bool.or_false] at hcz hns ha1 ha2
              repeat' first
                | refine awp_seq ?_
                | refine awp_block ?_
                | refine awp_skip ?_
                | (refine reg _ (by (simp only [List.map_cons, List.map_nil]; rfl)) rfl ?_; intro K hK)
                | (refine awp_cond _ (by rfl) ?_ ?_ <;> (intro hb; first | (cases hb; done) | (have ht : true = true := hb; clear ht hb) | (have ht : false = false := hb; clear ht hb) | (simp only [hb]) | skip))
                | (refine awp_exit ?_; simp only [thenA, blockA, scopeA, reduceIte, RetQ, Nat.reduceEqDiff])
                | (refine awp_ret ?_; simp only [thenA, blockA, scopeA, RetQ])
                | (refine ev_nil (hK _ ?_); clear hK K)
                | (apply ev_guardU; (case hj | hu | hσ => (simp only [go_sem, hdec, w3, w4, w5, w6, w7, hx, hrn, q1, q2, hkn, hk0, hk2]; try rfl)))
                | (refine ev_guardT _ _ (by (simp only [go_sem, hdec, w3, w4, w5, w6, w7, hx, hrn, q1, q2, hkn, hk0, hk2]; rfl)) (by (simp only [go_sem, hdec, w3, w4, w5, w6, w7, hx, hrn, q1, q2, hkn, hk0, hk2]; rfl)) ?_ ?_ <;> (intro hb; first | (cases hb; done) | (have ht : true = true := hb; clear ht hb) | (have ht : false = false := hb; clear ht hb) | (simp only [hb]) | skip))
                | (refine ev_guardF _ _ (by (simp only [go_sem, hdec, w3, w4, w5, w6, w7, hx, hrn, q1, q2, hkn, hk0, hk2]; rfl)) (by (simp only [go_sem, hdec, w3, w4, w5, w6, w7, hx, hrn, q1, q2, hkn, hk0, hk2]; rfl)) ?_ ?_ <;> (intro hb; first | (cases hb; done) | (have ht : true = true := hb; clear ht hb) | (have ht : false = false := hb; clear ht hb) | (simp only [hb]) | skip))
                | (apply ev_call0; (case hys => (simp only [go_sem, hdec, w3, w4, w5, w6, w7, hx, hrn, q1, q2, hkn, hk0, hk2]; try rfl)); (case hs => first | exact h18 ..); (case hok | hσ => (simp only [go_sem, hdec, w3, w4, w5, w6, w7, hx, hrn, q1, q2, hkn, hk0, hk2]; try rfl)))
                | (apply ev_step0; (case hr | hσ => (simp only [go_sem, hdec, w3, w4, w5, w6, w7, hx, hrn, q1, q2, hkn, hk0, hk2]; try rfl)); (case hc => (first | trivial | exact look_ok (by kernel_rfl) (by kernel_rfl) | decide | (simp only [inB, sliceOk, appendOk, rowsOk]; omega) | (simp [inB, sliceOk, appendOk, rowsOk]; omega))))
                | (apply ev_step; (case hr => (simp only [go_sem, hdec, w3, w4, w5, w6, w7, hx, hrn, q1, q2, hkn, hk0, hk2]; try rfl)); (case hσ => (intro g u; simp only [go_sem, hdec, w3, w4, w5, w6, w7, hx, hrn, q1, q2, hkn, hk0, hk2]; try rfl)); (case hc => (first | trivial | exact look_ok (by kernel_rfl) (by kernel_rfl) | decide | (simp only [inB, sliceOk, appendOk, rowsOk]; omega) | (simp [inB, sliceOk, appendOk, rowsOk]; omega))); intro g u; (try clear u); (try clear g))
                | fail
              refine Exists.intro (i + 1, u) ⟨by show i + 1 ≤ _; omega, by show l.length - (i + 1) < l.length - i; omega, ?_⟩
              simp only [hcz, hns, ha1, ha2, hap]
              refine Wk.mk ?_ ?_
              all_goals (repeat' first | exact trivial | exact LeA.refl _ | exact LeA.any _ | exact LeO.refl _ | exact LeO.no _ | exact LeA.nil _ | exact LeA.nilOwn _ | exact LeO.nil _ _ _ | refine LeO.box ?_ | (refine LeA.i ?_; (first | rfl | (push_cast; rfl) | (rw [wrap_id (by omega)]; push_cast; omega) | (simp [wrap_id]; omega))) | refine ⟨?_, ?_⟩)
        | false =>
          cases A2 with
          | true =>
            simp only [hk0, hk2, if_true, if_false, Bool.false_eq_true, Bool.true_or, Bool.false_or, Bool.and_true, Bool.and_false, Bool.true_and, Bool.false_and, Bool.not_true, Bool.not_false, Bool.or_true, Bool.or_false] at hcz hns ha1 ha2
            repeat' first
              | refine awp_seq ?_
              | refine awp_block ?_
              | refine awp_skip ?_
              | (refine reg _ (by (simp only [List.map_cons, List.map_nil]; rfl)) rfl ?_; intro K hK)
              | (refine awp_cond _ (by rfl) ?_ ?_ <;> (intro hb; first | (cases hb; done) | (have ht : true = true := hb; clear ht hb) | (have ht : false = false := hb; clear ht hb) | (simp only [hb]) | skip))
              | (refine awp_exit ?_; simp only [thenA, blockA, scopeA, reduceIte, RetQ, Nat.reduceEqDiff])
              | (refine awp_ret ?_; simp only [thenA, blockA, scopeA, RetQ])
              | (refine ev_nil (hK _ ?_); clear hK K)
              | (apply ev_guardU; (case hj | hu | hσ => (simp only [go_sem, hdec, w3, w4, w5, w6, w7, hx, hrn, q1, q2, hkn, hk0, hk2]; try rfl)))
              | (refine ev_guardT _ _ (by (simp only [go_sem, hdec, w3, w4, w5, w6, w7, hx, hrn, q1, q2, hkn, hk0, hk2]; rfl)) (by (simp only [go_sem, hdec, w3, w4, w5, w6, w7, hx, hrn, q1, q2, hkn, hk0, hk2]; rfl)) ?_ ?_ <;> (intro hb; first | (cases hb; done) | (have ht : true = true := hb; clear ht hb) | (have ht : false = false := hb; clear ht hb) | (simp only [hb]) | skip))
              | (refine ev_guardF _ _ (by (simp only [go_sem, hdec, w3, w4, w5, w6, w7, hx, hrn, q1, q2, hkn, hk0, hk2]; rfl)) (by (simp only [go_sem, hdec, w3, w4, w5, w6, w7, hx, hrn, q1, q2, hkn, hk0, hk2]; rfl)) ?_ ?_ <;> (intro hb; first | (cases hb; done) | (have ht : true = true := hb; clear ht hb) | (have ht : false = false := hb; clear ht hb) | (simp only [hb]) | skip))
              | (apply ev_call0; (case hys => (simp only [go_sem, hdec, w3, w4, w5, w6, w7, hx, hrn, q1, q2, hkn, hk0, hk2]; try rfl)); (case hs => first | exact h18 ..); (case hok | hσ => (simp only [go_sem, hdec, w3, w4, w5, w6, w7, hx, hrn, q1, q2, hkn, hk0, hk2]; try rfl)))
              | (apply ev_step0; (case hr | hσ => (simp only [go_sem, hdec, w3, w4, w5, w6, w7, hx, hrn, q1, q2, hkn, hk0, hk2]; try rfl)); (case hc => (first | trivial | exact look_ok (by kernel_rfl) (by kernel_rfl) | decide | (simp only [inB, sliceOk, appendOk, rowsOk]; omega) | (simp [inB, sliceOk, appendOk, rowsOk]; omega))))
              | (apply ev_step; (case hr => (simp only [go_sem, hdec, w3, w4, w5, w6, w7, hx, hrn, q1, q2, hkn, hk0, hk2]; try rfl)); (case hσ => (intro g u; simp only [go_sem, hdec, w3, w4, w5, w6, w7, hx, hrn, q1, q2, hkn, hk0, hk2]; try rfl)); (case hc => (first | trivial | exact look_ok (by kernel_rfl) (by kernel_rfl) | decide | (simp only [inB, sliceOk, appendOk, rowsOk]; omega) | (simp [inB, sliceOk, appendOk, rowsOk]; omega))); intro g u; (try clear u); (try clear g))
              | fail
            refine Exists.intro (i + 1, u) ⟨by show i + 1 ≤ _; omega, by show l.length - (i + 1) < l.length - i; omega, ?_⟩
            simp only [hcz, hns, ha1, ha2, hap]
            refine Wk.mk ?_ ?_
            all_goals (repeat' first | exact trivial | exact LeA.refl _ | exact LeA.any _ | exact LeO.refl _ | exact LeO.no _ | exact LeA.nil _ | exact LeA.nilOwn _ | exact LeO.nil _ _ _ | refine LeO.box ?_ | (refine LeA.i ?_; (first | rfl | (push_cast; rfl) | (rw [wrap_id (by omega)]; push_cast; omega) | (simp [wrap_id]; omega))) | refine ⟨?_, ?_⟩)
          | false =>
            cases E2 with
            | true =>
              simp only [hk0, hk2, if_true, if_false, Bool.false_eq_true, Bool.true_or, Bool.false_or, Bool.and_true, Bool.and_false, Bool.true_and, Bool.false_and, Bool.not_true, Bool.not_false, Bool.or_true, Bool.or_false] at hcz hns ha1 ha2
              repeat' first
                | refine awp_seq ?_
                | refine awp_block ?_
                | refine awp_skip ?_
                | (refine reg _ (by (simp only [List.map_cons, List.map_nil]; rfl)) rfl ?_; intro K hK)
                | (refine awp_cond _ (by rfl) ?_ ?_ <;> (intro hb; first | (cases hb; done) | (have ht : true = true := hb; clear ht hb) | (have ht : false = false := hb; clear ht hb) | (simp only [hb]) | skip))
                | (refine awp_exit ?_; simp only [thenA, blockA, scopeA, reduceIte, RetQ, Nat.reduceEqDiff])
                | (refine awp_ret ?_; simp only [thenA, blockA, scopeA, RetQ])
                | (refine ev_nil (hK _ ?_); clear hK K)
                | (apply ev_guardU; (case hj | hu | hσ => (simp only [go_sem, hdec, w3, w4, w5, w6, w7, hx, hrn, q1, q2, hkn, hk0, hk2]; try rfl)))
                | (refine ev_guardT _ _ (by (simp only [go_sem, hdec, w3, w4, w5, w6, w7, hx, hrn, q1, q2, hkn, hk0, hk2]; rfl)) (by (simp only [go_sem, hdec, w3, w4, w5, w6, w7, hx, hrn, q1, q2, hkn, hk0, hk2]; rfl)) ?_ ?_ <;> (intro hb; first | (cases hb; done) | (have ht : true = true := hb; clear ht hb) | (have ht : false = false := hb; clear ht hb) | (simp only [hb]) | skip))
                | (refine ev_guardF _ _ (by (simp only [go_sem, hdec, w3, w4, w5, w6, w7, hx, hrn, q1, q2, hkn, hk0, hk2]; rfl)) (by (simp only [go_sem, hdec, w3, w4, w5, w6, w7, hx, hrn, q1, q2, hkn, hk0, hk2]; rfl)) ?_ ?_ <;> (intro hb; first | (cases hb; done) | (have ht : true = true := hb; clear ht hb) | (have ht : false = false := hb; clear ht hb) | (simp only [hb]) | skip))
                | (apply ev_call0; (case hys => (simp only [go_sem, hdec, w3, w4, w5, w6, w7, hx, hrn, q1, q2, hkn, hk0, hk2]; try rfl)); (case hs => first | exact h18 ..); (case hok | hσ => (simp only [go_sem, hdec, w3, w4, w5, w6, w7, hx, hrn, q1, q2, hkn, hk0, hk2]; try rfl)))
                | (apply ev_step0; (case hr | hσ => (simp only [go_sem, hdec, w3, w4, w5, w6, w7, hx, hrn, q1, q2, hkn, hk0, hk2]; try rfl)); (case hc => (first | trivial | exact look_ok (by kernel_rfl) (by kernel_rfl) | decide | (simp only [inB, sliceOk, appendOk, rowsOk]; omega) | (simp [inB, sliceOk, appendOk, rowsOk]; omega))))
                | (apply ev_step; (case hr => (simp only [go_sem, hdec, w3, w4, w5, w6, w7, hx, hrn, q1, q2, hkn, hk0, hk2]; try rfl)); (case hσ => (intro g u; simp only [go_sem, hdec, w3, w4, w5, w6, w7, hx, hrn, q1, q2, hkn, hk0, hk2]; try rfl)); (case hc => (first | trivial | exact look_ok (by kernel_rfl) (by kernel_rfl) | decide | (simp only [inB, sliceOk, appendOk, rowsOk]; omega) | (simp [inB, sliceOk, appendOk, rowsOk]; omega))); intro g u; (try clear u); (try clear g))
                | fail
              refine Exists.intro (i + 1, u) ⟨by show i + 1 ≤ _; omega, by show l.length - (i + 1) < l.length - i; omega, ?_⟩
              simp only [hcz, hns, ha1, ha2, hap]
              refine Wk.mk ?_ ?_
              all_goals (repeat' first | exact trivial | exact LeA.refl _ | exact LeA.any _ | exact LeO.refl _ | exact LeO.no _ | exact LeA.nil _ | exact LeA.nilOwn _ | exact LeO.nil _ _ _ | refine LeO.box ?_ | (refine LeA.i ?_; (first | rfl | (push_cast; rfl) | (rw [wrap_id (by omega)]; push_cast; omega) | (simp [wrap_id]; omega))) | refine ⟨?_, ?_⟩)
            | false =>
              simp only [hk0, hk2, if_true, if_false, Bool.false_eq_true, Bool.true_or, Bool.false_or, Bool.and_true, Bool.and_false, Bool.true_and, Bool.false_and, Bool.not_true, Bool.not_false, Bool.or_true, Bool.or_false] at hcz hns ha1 ha2
              repeat' first
                | refine awp_seq ?_
                | refine awp_block ?_
                | refine awp_skip ?_
                | (refine reg _ (by (simp only [List.map_cons, List.map_nil]; rfl)) rfl ?_; intro K hK)
                | (refine awp_cond _ (by rfl) ?_ ?_ <;> (intro hb; first | (cases hb; done) | (have ht : true = true := hb; clear ht hb) | (have ht : false = false := hb; clear ht hb) | (simp only [hb]) | skip))
                | (refine awp_exit ?_; simp only [thenA, blockA, scopeA, reduceIte, RetQ, Nat.reduceEqDiff])
                | (refine awp_ret ?_; simp only [thenA, blockA, scopeA, RetQ])
                | (refine ev_nil (hK _ ?_); clear hK K)
                | (apply ev_guardU; (case hj | hu | hσ => (simp only [go_sem, hdec, w3, w4, w5, w6, w7, hx, hrn, q1, q2, hkn, hk0, hk2]; try rfl)))
                | (refine ev_guardT _ _ (by (simp only [go_sem, hdec, w3, w4, w5, w6, w7, hx, hrn, q1, q2, hkn, hk0, hk2]; rfl)) (by (simp only [go_sem, hdec, w3, w4, w5, w6, w7, hx, hrn, q1, q2, hkn, hk0, hk2]; rfl)) ?_ ?_ <;> (intro hb; first | (cases hb; done) | (have ht : true = true := hb; clear ht hb) | (have ht : false = false := hb; clear ht hb) | (simp only [hb]) | skip))
                | (refine ev_guardF _ _ (by (simp only [go_sem, hdec, w3, w4, w5, w6, w7, hx, hrn, q1, q2, hkn, hk0, hk2]; rfl)) (by (simp only [go_sem, hdec, w3, w4, w5, w6, w7, hx, hrn, q1, q2, hkn, hk0, hk2]; rfl)) ?_ ?_ <;> (intro hb; first | (cases hb; done) | (have ht : true = true := hb; clear ht hb) | (have ht : false = false := hb; clear ht hb) | (simp only [hb]) | skip))
                | (apply ev_call0; (case hys => (simp only [go_sem, hdec, w3, w4, w5, w6, w7, hx, hrn, q1, q2, hkn, hk0, hk2]; try rfl)); (case hs => first | exact h18 ..); (case hok | hσ => (simp only [go_sem, hdec, w3, w4, w5, w6, w7, hx, hrn, q1, q2, hkn, hk0, hk2]; try rfl)))
                | (apply ev_step0; (case hr | hσ => (simp only [go_sem, hdec, w3, w4, w5, w6, w7, hx, hrn, q1, q2, hkn, hk0, hk2]; try rfl)); (case hc => (first | trivial | exact look_ok (by kernel_rfl) (by kernel_rfl) | decide | (simp only [inB, sliceOk, appendOk, rowsOk]; omega) | (simp [inB, sliceOk, appendOk, rowsOk]; omega))))
                | (apply ev_step; (case hr => (simp only [go_sem, hdec, w3, w4, w5, w6, w7, hx, hrn, q1, q2, hkn, hk0, hk2]; try rfl)); (case hσ => (intro g u; simp only [go_sem, hdec, w3, w4, w5, w6, w7, hx, hrn, q1, q2, hkn, hk0, hk2]; try rfl)); (case hc => (first | trivial | exact look_ok (by kernel_rfl) (by kernel_rfl) | decide | (simp only [inB, sliceOk, appendOk, rowsOk]; omega) | (simp [inB, sliceOk, appendOk, rowsOk]; omega))); intro g u; (try clear u); (try clear g))
                | fail
              refine Exists.intro (i + 1, u) ⟨by show i + 1 ≤ _; omega, by show l.length - (i + 1) < l.length - i; omega, ?_⟩
              simp only [hcz, hns, ha1, ha2, hap]
              refine Wk.mk ?_ ?_
              all_goals (repeat' first | exact trivial | exact LeA.refl _ | exact LeA.any _ | exact LeO.refl _ | exact LeO.no _ | exact LeA.nil _ | exact LeA.nilOwn _ | exact LeO.nil _ _ _ | refine LeO.box ?_ | (refine LeA.i ?_; (first | rfl | (push_cast; rfl) | (rw [wrap_id (by omega)]; push_cast; omega) | (simp [wrap_id]; omega))) | refine ⟨?_, ?_⟩)
end
section
set_option linter.unusedVariables false
set_option linter.unusedSimpArgs false
open Go.RowKit
theorem gNull : Tryd.prog.globalNamed "chapman/bounds.null" = some 0 := by kernel_rfl
theorem tNull : (Tryd.prog.globals[0]?).map (·.type) = some 26 := by kernel_rfl
theorem gLogic : Tryd.prog.globalNamed "chapman/bounds.logic" = some 1 := by kernel_rfl
theorem tLogic : (Tryd.prog.globals[1]?).map (·.type) = some 111 := by kernel_rfl
theorem gStrict : Tryd.prog.globalNamed "chapman/bounds.strict" = some 2 := by kernel_rfl
theorem tStrict : (Tryd.prog.globals[2]?).map (·.type) = some 111 := by kernel_rfl
theorem gBools : Tryd.prog.globalNamed "chapman/bounds.bools" = some 3 := by kernel_rfl
theorem tBools : (Tryd.prog.globals[3]?).map (·.type) = some 112 := by kernel_rfl
theorem gChecks : Tryd.prog.globalNamed "chapman/value.checks" = some 4 := by kernel_rfl
theorem tChecks : (Tryd.prog.globals[4]?).map (·.type) = some 124 := by kernel_rfl
theorem c3 : Tryd.prog.cellsOf 3 = 1 := by kernel_rfl
theorem c9 : Tryd.prog.cellsOf 9 = 1 := by kernel_rfl
theorem c26 : Tryd.prog.cellsOf 26 = 3 := by kernel_rfl
theorem c103 : Tryd.prog.cellsOf 103 = 1 := by kernel_rfl
theorem c124 : Tryd.prog.cellsOf 124 = 4 := by kernel_rfl
theorem list3 {α : Type} {l : List α} (h : l.length = 3) : ∃ a b c, l = [a, b, c] := by
  match l, h with
  | [a, b, c], _ => exact ⟨a, b, c, rfl⟩
theorem list4 {α : Type} {l : List α} (h : l.length = 4) : ∃ a b c d, l = [a, b, c, d] := by
  match l, h with
  | [a, b, c, d], _ => exact ⟨a, b, c, d, rfl⟩
theorem val26 {H : Type} {enc : TypeId × Value → H} {w : World} {base : Nat} {sp : Nat → Bool} {held : Bool} {fuel : Nat} {cs : List Value} {a b : Int} {s : List UInt8} {p : List MemPlace}
    (h : DataW.trod enc Tryd.prog w base sp held fuel 26 cs = some (.agg [.lit (.int .i64 a), .lit (.int .i64 b), .lit (.string s)], p)) : cs = [.int .i64 a, .int .i64 b, .string ⟨s.toArray⟩] := by
  obtain ⟨xs, m, rfl, hx, hlen, hxl, hel⟩ := DataW.trod_struct Tryd.underlying26 h
  rw [c26] at hlen
  obtain ⟨k0, k1, k2, rfl⟩ := list3 hlen
  have hxl : xs.length = 3 := hxl
  obtain ⟨x0, x1, x2, rfl⟩ := list3 hxl
  have h0 := hel 0 { name := "K", type := 3, offset := 0, embedded := false, tag := "", pkgPath := "", byteOffset := 0 } rfl
  have h1 := hel 1 { name := "I", type := 3, offset := 1, embedded := false, tag := "", pkgPath := "", byteOffset := 8 } rfl
  have h2 := hel 2 { name := "S", type := 9, offset := 2, embedded := false, tag := "", pkgPath := "", byteOffset := 16 } rfl
  simp only [c3, c9, List.drop_zero, List.drop_succ_cons, List.take_succ_cons, List.take_zero, List.getElem?_cons_zero, List.getElem?_cons_succ] at h0 h1 h2
  obtain ⟨n0, e0, r0, _⟩ := DataW.trod_int Tryd.underlying3 h0
  obtain ⟨n1, e1, r1, _⟩ := DataW.trod_int Tryd.underlying3 h1
  obtain ⟨s2, e2, r2, _⟩ := DataW.trod_string Tryd.underlying9 h2
  simp only [Prod.mk.injEq, DataW.agg.injEq, List.map_cons, List.map_nil, List.cons.injEq, r0, r1, r2, DataW.lit.injEq, Lit.int.injEq, Lit.string.injEq, true_and, and_true] at hx
  obtain ⟨⟨hx0, hx1, hx2⟩, _⟩ := hx
  replace e0 := (List.cons.inj e0).1
  replace e1 := (List.cons.inj e1).1
  replace e2 := (List.cons.inj e2).1
  rw [e0, e1, e2, hx0, hx1, hx2]
theorem fn_name {w : World} {base : Nat} {sp : Nat → Bool} {fuel t : Nat} {x : Value} {b : UInt8} {r : List UInt8} {q : List MemPlace} {f0 : FuncId} {ps rs : Array TypeId} {va : Bool} (ht : Tryd.prog.underlying t = some (.func ps rs va)) (hone : ((List.range Tryd.prog.funcs.size).filter fun f => (Tryd.prog.funcs[f]?).any (·.name.toUTF8.data.toList == b :: r)) = [f0])
    (hf : x.formed Tryd.prog t = true) (h : DataW.trod (funcToken Tryd.prog) Tryd.prog w base sp true fuel t x.cells.toList = some (.held (b :: r), q)) : x = .func (.func f0) #[] #[] := by
  rw [formed_one ht rfl hf] at h
  exact func_of_trod ht hone h
theorem one105 : ((List.range Tryd.prog.funcs.size).filter fun f => (Tryd.prog.funcs[f]?).any (·.name.toUTF8.data.toList == [40, 99, 104, 97, 112, 109, 97, 110, 47, 98, 111, 117, 110, 100, 115, 46, 115, 112, 97, 110, 41, 46, 97, 110, 100])) = [105] := by kernel_rfl
theorem one106 : ((List.range Tryd.prog.funcs.size).filter fun f => (Tryd.prog.funcs[f]?).any (·.name.toUTF8.data.toList == [40, 99, 104, 97, 112, 109, 97, 110, 47, 98, 111, 117, 110, 100, 115, 46, 115, 112, 97, 110, 41, 46, 111, 114])) = [106] := by kernel_rfl
theorem one107 : ((List.range Tryd.prog.funcs.size).filter fun f => (Tryd.prog.funcs[f]?).any (·.name.toUTF8.data.toList == [40, 99, 104, 97, 112, 109, 97, 110, 47, 98, 111, 117, 110, 100, 115, 46, 115, 112, 97, 110, 41, 46, 110, 111, 116])) = [107] := by kernel_rfl
theorem one108 : ((List.range Tryd.prog.funcs.size).filter fun f => (Tryd.prog.funcs[f]?).any (·.name.toUTF8.data.toList == [40, 99, 104, 97, 112, 109, 97, 110, 47, 98, 111, 117, 110, 100, 115, 46, 115, 112, 97, 110, 41, 46, 105, 115, 78, 117, 108, 108])) = [108] := by kernel_rfl
def glogicF : Lit × DataW (List UInt8) → Value × Value := fun x => match x.1 with
  | .int _ n => (.int .i64 n, if n = 6 then .func (.func 105) #[] #[] else if n = 7 then .func (.func 106) #[] #[] else if n = 8 then .func (.func 107) #[] #[] else if n = 9 then .func (.func 108) #[] #[] else .nilFunc)
  | _ => (.nilFunc, .nilFunc)
theorem laid_logic {W : World} (h : funcsAt Tryd.prog W "chapman/bounds.logic" (.map [(.int .i64 6, .iface "func" (.lit (.string [40, 99, 104, 97, 112, 109, 97, 110, 47, 98, 111, 117, 110, 100, 115, 46, 115, 112, 97, 110, 41, 46, 97, 110, 100]))), (.int .i64 7, .iface "func" (.lit (.string [40, 99, 104, 97, 112, 109, 97, 110, 47, 98, 111, 117, 110, 100, 115, 46, 115, 112, 97, 110, 41, 46, 111, 114]))), (.int .i64 8, .iface "func" (.lit (.string [40, 99, 104, 97, 112, 109, 97, 110, 47, 98, 111, 117, 110, 100, 115, 46, 115, 112, 97, 110, 41, 46, 110, 111, 116]))), (.int .i64 9, .iface "func" (.lit (.string [40, 99, 104, 97, 112, 109, 97, 110, 47, 98, 111, 117, 110, 100, 115, 46, 115, 112, 97, 110, 41, 46, 105, 115, 78, 117, 108, 108])))])) : ∃ b en cl, W.cell? ⟨1, 0, none⟩ = some (.map (some b)) ∧ W.heap[b]? = some (.map en cl) ∧ (en.toList.map fun e => (e.key, e.val)).Perm [(.int .i64 6, .func (.func 105) #[] #[]), (.int .i64 7, .func (.func 106) #[] #[]), (.int .i64 8, .func (.func 107) #[] #[]), (.int .i64 9, .func (.func 108) #[] #[])] := by
  obtain ⟨g, t, cs, fuel, p, hg, ht, hv, hd⟩ := h
  obtain rfl := Option.some.inj (gLogic.symm.trans hg)
  obtain rfl := Option.some.inj (tLogic.symm.trans ht)
  have hd' : DataW.trod (funcToken Tryd.prog) Tryd.prog W 0 (fun _ => true) true fuel 111 cs.toList = some (.map [(.int .i64 6, .held [40, 99, 104, 97, 112, 109, 97, 110, 47, 98, 111, 117, 110, 100, 115, 46, 115, 112, 97, 110, 41, 46, 97, 110, 100]), (.int .i64 7, .held [40, 99, 104, 97, 112, 109, 97, 110, 47, 98, 111, 117, 110, 100, 115, 46, 115, 112, 97, 110, 41, 46, 111, 114]), (.int .i64 8, .held [40, 99, 104, 97, 112, 109, 97, 110, 47, 98, 111, 117, 110, 100, 115, 46, 115, 112, 97, 110, 41, 46, 110, 111, 116]), (.int .i64 9, .held [40, 99, 104, 97, 112, 109, 97, 110, 47, 98, 111, 117, 110, 100, 115, 46, 115, 112, 97, 110, 41, 46, 105, 115, 78, 117, 108, 108])], p) := hd
  obtain ⟨b, es, cl, hcs, hb, hp⟩ := map_open Tryd.underlying111 hd' glogicF (fun n x key d q hk hf hr hm => by
    simp only [List.mem_cons, List.not_mem_nil, or_false, Prod.mk.injEq] at hm
    rcases hm with ⟨rfl, rfl⟩ | ⟨rfl, rfl⟩ | ⟨rfl, rfl⟩ | ⟨rfl, rfl⟩
    · rw [key_int Tryd.underlying3 hk, fn_name Tryd.underlying109 one105 hf hr]; rfl
    · rw [key_int Tryd.underlying3 hk, fn_name Tryd.underlying109 one106 hf hr]; rfl
    · rw [key_int Tryd.underlying3 hk, fn_name Tryd.underlying109 one107 hf hr]; rfl
    · rw [key_int Tryd.underlying3 hk, fn_name Tryd.underlying109 one108 hf hr]; rfl)
  refine ⟨b, es, cl, ?_, hb, hp⟩
  have := World.var?_cell hg hv 0
  rw [Array.eq_one_of_toList hcs] at this
  simpa using this
theorem one110 : ((List.range Tryd.prog.funcs.size).filter fun f => (Tryd.prog.funcs[f]?).any (·.name.toUTF8.data.toList == [40, 99, 104, 97, 112, 109, 97, 110, 47, 98, 111, 117, 110, 100, 115, 46, 115, 112, 97, 110, 41, 46, 101, 113, 117, 97, 108])) = [110] := by kernel_rfl
theorem one111 : ((List.range Tryd.prog.funcs.size).filter fun f => (Tryd.prog.funcs[f]?).any (·.name.toUTF8.data.toList == [40, 99, 104, 97, 112, 109, 97, 110, 47, 98, 111, 117, 110, 100, 115, 46, 115, 112, 97, 110, 41, 46, 108, 101, 115, 115])) = [111] := by kernel_rfl
theorem one112 : ((List.range Tryd.prog.funcs.size).filter fun f => (Tryd.prog.funcs[f]?).any (·.name.toUTF8.data.toList == [40, 99, 104, 97, 112, 109, 97, 110, 47, 98, 111, 117, 110, 100, 115, 46, 115, 112, 97, 110, 41, 46, 109, 111, 115, 116])) = [112] := by kernel_rfl
theorem one114 : ((List.range Tryd.prog.funcs.size).filter fun f => (Tryd.prog.funcs[f]?).any (·.name.toUTF8.data.toList == [40, 99, 104, 97, 112, 109, 97, 110, 47, 98, 111, 117, 110, 100, 115, 46, 115, 112, 97, 110, 41, 46, 112, 108, 117, 115])) = [114] := by kernel_rfl
theorem one115 : ((List.range Tryd.prog.funcs.size).filter fun f => (Tryd.prog.funcs[f]?).any (·.name.toUTF8.data.toList == [40, 99, 104, 97, 112, 109, 97, 110, 47, 98, 111, 117, 110, 100, 115, 46, 115, 112, 97, 110, 41, 46, 109, 105, 110, 117, 115])) = [115] := by kernel_rfl
theorem one113 : ((List.range Tryd.prog.funcs.size).filter fun f => (Tryd.prog.funcs[f]?).any (·.name.toUTF8.data.toList == [40, 99, 104, 97, 112, 109, 97, 110, 47, 98, 111, 117, 110, 100, 115, 46, 115, 112, 97, 110, 41, 46, 112, 114, 101, 102, 105, 120])) = [113] := by kernel_rfl
def gstrictF : Lit × DataW (List UInt8) → Value × Value := fun x => match x.1 with
  | .int _ n => (.int .i64 n, if n = 3 then .func (.func 110) #[] #[] else if n = 4 then .func (.func 111) #[] #[] else if n = 5 then .func (.func 112) #[] #[] else if n = 10 then .func (.func 114) #[] #[] else if n = 11 then .func (.func 115) #[] #[] else if n = 12 then .func (.func 113) #[] #[] else .nilFunc)
  | _ => (.nilFunc, .nilFunc)
theorem laid_strict {W : World} (h : funcsAt Tryd.prog W "chapman/bounds.strict" (.map [(.int .i64 3, .iface "func" (.lit (.string [40, 99, 104, 97, 112, 109, 97, 110, 47, 98, 111, 117, 110, 100, 115, 46, 115, 112, 97, 110, 41, 46, 101, 113, 117, 97, 108]))), (.int .i64 4, .iface "func" (.lit (.string [40, 99, 104, 97, 112, 109, 97, 110, 47, 98, 111, 117, 110, 100, 115, 46, 115, 112, 97, 110, 41, 46, 108, 101, 115, 115]))), (.int .i64 5, .iface "func" (.lit (.string [40, 99, 104, 97, 112, 109, 97, 110, 47, 98, 111, 117, 110, 100, 115, 46, 115, 112, 97, 110, 41, 46, 109, 111, 115, 116]))), (.int .i64 10, .iface "func" (.lit (.string [40, 99, 104, 97, 112, 109, 97, 110, 47, 98, 111, 117, 110, 100, 115, 46, 115, 112, 97, 110, 41, 46, 112, 108, 117, 115]))), (.int .i64 11, .iface "func" (.lit (.string [40, 99, 104, 97, 112, 109, 97, 110, 47, 98, 111, 117, 110, 100, 115, 46, 115, 112, 97, 110, 41, 46, 109, 105, 110, 117, 115]))), (.int .i64 12, .iface "func" (.lit (.string [40, 99, 104, 97, 112, 109, 97, 110, 47, 98, 111, 117, 110, 100, 115, 46, 115, 112, 97, 110, 41, 46, 112, 114, 101, 102, 105, 120])))])) : ∃ b en cl, W.cell? ⟨2, 0, none⟩ = some (.map (some b)) ∧ W.heap[b]? = some (.map en cl) ∧ (en.toList.map fun e => (e.key, e.val)).Perm [(.int .i64 3, .func (.func 110) #[] #[]), (.int .i64 4, .func (.func 111) #[] #[]), (.int .i64 5, .func (.func 112) #[] #[]), (.int .i64 10, .func (.func 114) #[] #[]), (.int .i64 11, .func (.func 115) #[] #[]), (.int .i64 12, .func (.func 113) #[] #[])] := by
  obtain ⟨g, t, cs, fuel, p, hg, ht, hv, hd⟩ := h
  obtain rfl := Option.some.inj (gStrict.symm.trans hg)
  obtain rfl := Option.some.inj (tStrict.symm.trans ht)
  have hd' : DataW.trod (funcToken Tryd.prog) Tryd.prog W 0 (fun _ => true) true fuel 111 cs.toList = some (.map [(.int .i64 3, .held [40, 99, 104, 97, 112, 109, 97, 110, 47, 98, 111, 117, 110, 100, 115, 46, 115, 112, 97, 110, 41, 46, 101, 113, 117, 97, 108]), (.int .i64 4, .held [40, 99, 104, 97, 112, 109, 97, 110, 47, 98, 111, 117, 110, 100, 115, 46, 115, 112, 97, 110, 41, 46, 108, 101, 115, 115]), (.int .i64 5, .held [40, 99, 104, 97, 112, 109, 97, 110, 47, 98, 111, 117, 110, 100, 115, 46, 115, 112, 97, 110, 41, 46, 109, 111, 115, 116]), (.int .i64 10, .held [40, 99, 104, 97, 112, 109, 97, 110, 47, 98, 111, 117, 110, 100, 115, 46, 115, 112, 97, 110, 41, 46, 112, 108, 117, 115]), (.int .i64 11, .held [40, 99, 104, 97, 112, 109, 97, 110, 47, 98, 111, 117, 110, 100, 115, 46, 115, 112, 97, 110, 41, 46, 109, 105, 110, 117, 115]), (.int .i64 12, .held [40, 99, 104, 97, 112, 109, 97, 110, 47, 98, 111, 117, 110, 100, 115, 46, 115, 112, 97, 110, 41, 46, 112, 114, 101, 102, 105, 120])], p) := hd
  obtain ⟨b, es, cl, hcs, hb, hp⟩ := map_open Tryd.underlying111 hd' gstrictF (fun n x key d q hk hf hr hm => by
    simp only [List.mem_cons, List.not_mem_nil, or_false, Prod.mk.injEq] at hm
    rcases hm with ⟨rfl, rfl⟩ | ⟨rfl, rfl⟩ | ⟨rfl, rfl⟩ | ⟨rfl, rfl⟩ | ⟨rfl, rfl⟩ | ⟨rfl, rfl⟩
    · rw [key_int Tryd.underlying3 hk, fn_name Tryd.underlying109 one110 hf hr]; rfl
    · rw [key_int Tryd.underlying3 hk, fn_name Tryd.underlying109 one111 hf hr]; rfl
    · rw [key_int Tryd.underlying3 hk, fn_name Tryd.underlying109 one112 hf hr]; rfl
    · rw [key_int Tryd.underlying3 hk, fn_name Tryd.underlying109 one114 hf hr]; rfl
    · rw [key_int Tryd.underlying3 hk, fn_name Tryd.underlying109 one115 hf hr]; rfl
    · rw [key_int Tryd.underlying3 hk, fn_name Tryd.underlying109 one113 hf hr]; rfl)
  refine ⟨b, es, cl, ?_, hb, hp⟩
  have := World.var?_cell hg hv 0
  rw [Array.eq_one_of_toList hcs] at this
  simpa using this
def gboolsF {H : Type} : Lit × DataW H → Value × Value := fun x => match x.1 with
  | .bool b => (.bool b, .agg #[.int .i64 1, .int .i64 (if b = true then 1 else 0), .string ⟨#[]⟩])
  | _ => (.nilFunc, .nilFunc)
theorem laid_bools {W : World} {t cs fuel p} (ht : (Tryd.prog.globals[3]?).map (·.type) = some t) (hv : W.var? Tryd.prog "chapman/bounds.bools" = some cs) (hd : DataW.trod (fun _ => ()) Tryd.prog W 0 (fun _ => true) false fuel t cs.toList = some (.map [(.bool false, .agg [.lit (.int .i64 1), .lit (.int .i64 0), .lit (.string [])]), (.bool true, .agg [.lit (.int .i64 1), .lit (.int .i64 1), .lit (.string [])])], p)) :
    ∃ b en cl, W.cell? ⟨3, 0, none⟩ = some (.map (some b)) ∧ W.heap[b]? = some (.map en cl) ∧ (en.toList.map fun e => (e.key, e.val)).Perm [(.bool false, .agg #[.int .i64 1, .int .i64 0, .string ⟨#[]⟩]), (.bool true, .agg #[.int .i64 1, .int .i64 1, .string ⟨#[]⟩])] := by
  obtain rfl := Option.some.inj (tBools.symm.trans ht)
  obtain ⟨b, es, cl, hcs, hb, hp⟩ := map_open Tryd.underlying112 hd gboolsF (fun n x key d q hk hf hr hm => by
    obtain ⟨ar, har⟩ := formed_agg Tryd.underlying26 hf
    simp only [List.mem_cons, List.not_mem_nil, or_false, Prod.mk.injEq] at hm
    rcases hm with ⟨rfl, rfl⟩ | ⟨rfl, rfl⟩
    · have e := val26 hr
      rw [har] at e ⊢
      have e' : ar.toList = _ := e
      rw [key_bool Tryd.underlying4 hk, ← Array.toArray_toList (xs := ar), e']; rfl
    · have e := val26 hr
      rw [har] at e ⊢
      have e' : ar.toList = _ := e
      rw [key_bool Tryd.underlying4 hk, ← Array.toArray_toList (xs := ar), e']; rfl)
  refine ⟨b, es, cl, ?_, hb, hp⟩
  have := World.var?_cell gBools hv 0
  rw [Array.eq_one_of_toList hcs] at this
  simpa using this
theorem laid_null {W : World} {t cs fuel p} (ht : (Tryd.prog.globals[0]?).map (·.type) = some t) (hv : W.var? Tryd.prog "chapman/bounds.null" = some cs) (hd : DataW.trod (fun _ => ()) Tryd.prog W 0 (fun _ => true) false fuel t cs.toList = some (.agg [.lit (.int .i64 0), .lit (.int .i64 0), .lit (.string [])], p)) :
    ∀ i v, [Value.int .i64 0, .int .i64 0, .string ⟨#[]⟩][i]? = some v → W.cell? ⟨0, i, none⟩ = some v := by
  obtain rfl := Option.some.inj (tNull.symm.trans ht)
  have e := val26 hd
  intro i v hi
  rw [World.var?_cell gNull hv i, ← Array.getElem?_toList, e]
  exact hi
theorem one120 : ((List.range Tryd.prog.funcs.size).filter fun f => (Tryd.prog.funcs[f]?).any (·.name.toUTF8.data.toList == [99, 104, 97, 112, 109, 97, 110, 47, 118, 97, 108, 117, 101, 46, 99, 104, 101, 99, 107, 115, 36, 49])) = [120] := by kernel_rfl
theorem one121 : ((List.range Tryd.prog.funcs.size).filter fun f => (Tryd.prog.funcs[f]?).any (·.name.toUTF8.data.toList == [99, 104, 97, 112, 109, 97, 110, 47, 118, 97, 108, 117, 101, 46, 99, 104, 101, 99, 107, 115, 36, 50])) = [121] := by kernel_rfl
theorem one122 : ((List.range Tryd.prog.funcs.size).filter fun f => (Tryd.prog.funcs[f]?).any (·.name.toUTF8.data.toList == [99, 104, 97, 112, 109, 97, 110, 47, 118, 97, 108, 117, 101, 46, 99, 104, 101, 99, 107, 115, 36, 51])) = [122] := by kernel_rfl
theorem one123 : ((List.range Tryd.prog.funcs.size).filter fun f => (Tryd.prog.funcs[f]?).any (·.name.toUTF8.data.toList == [99, 104, 97, 112, 109, 97, 110, 47, 118, 97, 108, 117, 101, 46, 99, 104, 101, 99, 107, 115, 36, 52])) = [123] := by kernel_rfl
theorem laid_checks {W : World} (h : funcsAt Tryd.prog W "chapman/value.checks" (.agg [.iface "func" (.lit (.string [99, 104, 97, 112, 109, 97, 110, 47, 118, 97, 108, 117, 101, 46, 99, 104, 101, 99, 107, 115, 36, 49])), .iface "func" (.lit (.string [99, 104, 97, 112, 109, 97, 110, 47, 118, 97, 108, 117, 101, 46, 99, 104, 101, 99, 107, 115, 36, 50])), .iface "func" (.lit (.string [99, 104, 97, 112, 109, 97, 110, 47, 118, 97, 108, 117, 101, 46, 99, 104, 101, 99, 107, 115, 36, 51])), .iface "func" (.lit (.string [99, 104, 97, 112, 109, 97, 110, 47, 118, 97, 108, 117, 101, 46, 99, 104, 101, 99, 107, 115, 36, 52]))])) : ∀ i v, [Value.func (.func 120) #[] #[], Value.func (.func 121) #[] #[], Value.func (.func 122) #[] #[], Value.func (.func 123) #[] #[]][i]? = some v → W.cell? ⟨4, i, none⟩ = some v := by
  obtain ⟨g, t, cs, fuel, p, hg, ht, hv, hd⟩ := h
  obtain rfl := Option.some.inj (gChecks.symm.trans hg)
  obtain rfl := Option.some.inj (tChecks.symm.trans ht)
  have hd' : DataW.trod (funcToken Tryd.prog) Tryd.prog W 0 (fun _ => true) true fuel 124 cs.toList = some (.agg [.held [99, 104, 97, 112, 109, 97, 110, 47, 118, 97, 108, 117, 101, 46, 99, 104, 101, 99, 107, 115, 36, 49], .held [99, 104, 97, 112, 109, 97, 110, 47, 118, 97, 108, 117, 101, 46, 99, 104, 101, 99, 107, 115, 36, 50], .held [99, 104, 97, 112, 109, 97, 110, 47, 118, 97, 108, 117, 101, 46, 99, 104, 101, 99, 107, 115, 36, 51], .held [99, 104, 97, 112, 109, 97, 110, 47, 118, 97, 108, 117, 101, 46, 99, 104, 101, 99, 107, 115, 36, 52]], p) := hd
  obtain ⟨xs, m, rfl, hx, hlen, hxl, hel⟩ := DataW.trod_array Tryd.underlying124 hd'
  rw [c124] at hlen
  obtain ⟨k0, k1, k2, k3, e⟩ := list4 hlen
  obtain ⟨x0, x1, x2, x3, rfl⟩ := list4 hxl
  have h0 := hel 0 (by decide)
  have h1 := hel 1 (by decide)
  have h2 := hel 2 (by decide)
  have h3 := hel 3 (by decide)
  rw [e] at h0 h1 h2 h3
  simp only [c103, Nat.zero_mul, Nat.one_mul, Nat.mul_one, List.drop_zero, List.drop_succ_cons, List.take_succ_cons, List.take_zero, List.getElem?_cons_zero, List.getElem?_cons_succ] at h0 h1 h2 h3
  simp only [Prod.mk.injEq, DataW.agg.injEq, List.map_cons, List.map_nil, List.cons.injEq, and_true] at hx
  obtain ⟨⟨hx0, hx1, hx2, hx3⟩, _⟩ := hx
  obtain ⟨d0, p0⟩ := x0
  obtain ⟨d1, p1⟩ := x1
  obtain ⟨d2, p2⟩ := x2
  obtain ⟨d3, p3⟩ := x3
  simp only at hx0 hx1 hx2 hx3
  subst hx0 hx1 hx2 hx3
  obtain rfl := func_of_trod Tryd.underlying103 one120 h0
  obtain rfl := func_of_trod Tryd.underlying103 one121 h1
  obtain rfl := func_of_trod Tryd.underlying103 one122 h2
  obtain rfl := func_of_trod Tryd.underlying103 one123 h3
  intro i v hi
  rw [World.var?_cell hg hv i, ← Array.getElem?_toList, e]
  exact hi
end
section
set_option linter.unusedVariables false
set_option linter.unusedSimpArgs false
open Go.RowKit
abbrev laidL : List (String × DataW Unit) := [("chapman/value.checks", Rows.laid_chapman_value_checks), ("chapman/bounds.null", Rows.laid_chapman_bounds_null), ("chapman/bounds.bools", Rows.laid_chapman_bounds_bools), ("chapman/bounds.logic", Rows.laid_chapman_bounds_logic), ("chapman/bounds.strict", Rows.laid_chapman_bounds_strict)]
theorem heap_lt {W : World} {b : Nat} {o : Obj} (h : W.heap[b]? = some o) : b < W.heap.size := by
  by_cases hg : b < W.heap.size
  · exact hg
  · rw [Array.getElem?_eq_none (by omega)] at h; cases h
theorem laid_M0 {W : World} (h : laidMetH Tryd.prog laidL W) : Laid (M0 W) := by
  have h1 := (laidMetH_iff.1 h).1
  have e : (laidL.filter fun x => x.2.handleName?.isNone) = [("chapman/bounds.null", Rows.laid_chapman_bounds_null), ("chapman/bounds.bools", Rows.laid_chapman_bounds_bools)] := by kernel_rfl
  rw [e] at h1
  obtain ⟨ps, ⟨g0, t0, cs0, f0, p0, q0, hg0, ht0, hv0, hd0, ⟨g3, t3, cs3, f3, p3, q3, hg3, ht3, hv3, hd3, _, _⟩, _⟩, _, _⟩ := h1
  obtain rfl := Option.some.inj (gNull.symm.trans hg0)
  obtain rfl := Option.some.inj (gBools.symm.trans hg3)
  have a0 := laid_null ht0 hv0 hd0
  obtain ⟨b3, en3, cl3, c3', hb3, hp3⟩ := laid_bools ht3 hv3 hd3
  have a4 := laid_checks (h.funcs (n := "chapman/value.checks") (.head _))
  obtain ⟨b1, en1, cl1, c1', hb1, hp1⟩ := laid_logic (h.funcs (n := "chapman/bounds.logic") (.tail _ (.tail _ (.tail _ (.head _)))))
  obtain ⟨b2, en2, cl2, c2', hb2, hp2⟩ := laid_strict (h.funcs (n := "chapman/bounds.strict") (.tail _ (.tail _ (.tail _ (.tail _ (.head _))))))
  intro p hp
  simp only [globs, List.mem_cons, List.not_mem_nil, or_false] at hp
  rcases hp with rfl | rfl | rfl | rfl | rfl
  · refine ⟨repCell (a0 0 _ rfl) ?_, repCell (a0 1 _ rfl) ?_, repCell (a0 2 _ rfl) ?_, trivial⟩
    all_goals (simp only [Rep]; exact ⟨trivial, rfl⟩)
  · refine ⟨repCell c1' ?_, trivial⟩
    simp only [Rep]
    exact ⟨b1, en1, cl1, rfl, heap_lt hb1, hb1, hp1⟩
  · refine ⟨repCell c2' ?_, trivial⟩
    simp only [Rep]
    exact ⟨b2, en2, cl2, rfl, heap_lt hb2, hb2, hp2⟩
  · refine ⟨repCell c3' ?_, trivial⟩
    simp only [Rep]
    exact ⟨b3, en3, cl3, rfl, heap_lt hb3, hb3, hp3⟩
  · refine ⟨repCell (a4 0 _ rfl) ?_, repCell (a4 1 _ rfl) ?_, repCell (a4 2 _ rfl) ?_, repCell (a4 3 _ rfl) ?_, trivial⟩
    all_goals (simp only [Rep]; exact ⟨trivial, rfl⟩)
set_option maxRecDepth 100000 in
theorem door_met (os : Os) (args : Array Value) : laidMetH Tryd.prog laidL ((World.doorLaid Tryd.prog 96 os).forCall (fun _ _ => 0) ⟨#[], args, []⟩).memory :=
  laidMetH_of_parts3 (fuel := 8) (laidMet_of_run' 8 (by kernel_rfl) (by kernel_rfl)) (by kernel_rfl) (by kernel_rfl)
end
section
set_option linter.unusedVariables false
set_option linter.unusedSimpArgs false
open Go.RowKit
theorem ty5 {f : Nat} {ds : List Dat} (h : tyR T (f + 1) 5 ds) : ∃ n : Int, ds = [.lit (.int .u8 n)] ∧ 0 ≤ n ∧ n < 256 := by
  simp only [tyR, T5, ti5] at h
  obtain ⟨n, h1, h2⟩ := h
  have := bounds_u8 h2
  exact ⟨n, h1, by omega⟩
theorem cut_eqs {ds a r : List Dat} {k : Nat} (h1 : ds.take k = a) (h2 : ds.drop k = r) : ds = a ++ r := by
  rw [← h1, ← h2, List.take_append_drop]
theorem ty23 {f : Nat} {ds : List Dat} (h : tyR T (f + 2) 23 ds) : ∃ b : List Int, ds = [bytesD b] ∧ ∀ x ∈ b, 0 ≤ x ∧ x < 256 := by
  rw [tyR] at h
  simp only [T23, ti23, T5, ti5] at h
  obtain ⟨rows, rfl, h⟩ := h
  obtain ⟨l, rfl, hl⟩ := rows_of (f := fun n : Int => [Dat.lit (.int .u8 n)]) (Q := fun x => 0 ≤ x ∧ x < 256) h fun r hr => ty5 hr
  exact ⟨l, rfl, hl⟩
theorem ty24 {f : Nat} {ds : List Dat} (h : tyR T (f + 3) 24 ds) : ∃ b c d : List Int, ds = [bytesD b, bytesD c, bytesD d] ∧ (∀ x ∈ b, 0 ≤ x ∧ x < 256) ∧ (∀ x ∈ c, 0 ≤ x ∧ x < 256) ∧ ∀ x ∈ d, 0 ≤ x ∧ x < 256 := by
  rw [tyR] at h
  simp only [T24, ti24, T23, ti23, List.replicate_succ, List.replicate_zero, StructR] at h
  obtain ⟨h1, h2, h3, h4⟩ := h
  obtain ⟨b, h1, hb⟩ := ty23 h1
  obtain ⟨c, h2, hc⟩ := ty23 h2
  obtain ⟨d, h3, hd⟩ := ty23 h3
  exact ⟨b, c, d, cut_eqs h1 (cut_eqs h2 (cut_eqs h3 h4)), hb, hc, hd⟩
theorem tyRs_one {f t : Nat} {ts : List Nat} {dss : List (List Dat)} (h : tyRs T f (t :: ts) dss) : ∃ ds r, dss = ds :: r ∧ tyR T f t ds ∧ tyRs T f ts r := by
  cases dss with
  | nil => exact h.elim
  | cons ds r => exact ⟨ds, r, rfl, h.1, h.2⟩
theorem tyRs_nil {f : Nat} {dss : List (List Dat)} (h : tyRs T f [] dss) : dss = [] := by
  cases dss with
  | nil => rfl
  | cons ds r => exact h.elim
end
section
set_option linter.unusedVariables false
set_option linter.unusedSimpArgs false
open Go.RowKit
theorem law4_spec : ∀ dss, tyRs T 8 [5, 23] dss → Spec Tryd.prog 4 (avTys T [5, 23] dss) (.d (.lit (.bool true))) := by
  intro dss h
  obtain ⟨d0, r0, rfl, h0, h⟩ := tyRs_one h
  obtain ⟨d1, r1, rfl, h1, h⟩ := tyRs_one h
  obtain rfl := tyRs_nil h
  obtain ⟨k, rfl, hk⟩ := ty5 h0
  obtain ⟨b, rfl, hb⟩ := ty23 h1
  have := f4_spec k hk b hb
  simp only [avTys, avTy, T5, ti5, T23, ti23, List.map_cons, List.map_nil, List.headD_cons, if_true, Bool.false_eq_true, if_false]
  exact this
end
end Go.Proofs.YtopigomfhggkoaaDoor.A
