/- Mended states: the walk. Other numbers in the columns of totals; lists that are the same: the walks. Lists of broken constraints: same, refs; rows of examples. The examples: their schemas and states. The examples: the walk. Plain: when the constraints hold; that Keeps is right; made schemas are valid. The made schemas: the walk. -/
import Derived.Test.YtlkfbhhopkoopaaY4
namespace Go.Proofs.Ytlkfbhhopkoopaa.A
attribute [local go_sem] Nat.reduceAdd Nat.reduceSub Nat.reduceMul Nat.reduceLT Nat.reduceLeDiff Nat.reduceEqDiff Nat.reduceBEq reduceIte reduceCtorEq e_step_none e_slotU e_slotB e_move e_assign e_pick e_unOp e_binOp e_alloc e_box e_build e_buildSlice e_load e_store e_fieldAddr e_field e_indexAddr e_index e_slice e_makeSlice e_makeFunc e_convert e_extract e_nilCheck e_len e_append e_max e_min e_call e_callV e_fn e_cap_ptr e_cap_lit e_cap_sl e_cap_fn e_fnOf_clo e_fnOf_fn e_flat_fn e_clo e_ev_tmp e_ev_int e_ev_bool e_ev_string e_ev_slice e_ev_nilFunc e_ev_nilIface e_ev_pointer e_ev_agg e_ev_func e_pickT e_pickF e_not e_neg e_add e_sub e_mul e_quo e_rem e_eql e_neq e_lss e_leq e_gtr e_geq e_shl e_shr e_and e_or e_xor e_andNot e_beq e_bne e_sadd e_seql e_sneq e_b2_d e_b2_nil e_b2_nnil e_b2_agg e_lits_nil e_lits_cons e_litC e_eqR e_eqO_e e_eqO_n e_eqV4 e_eqV3 e_eqV2 e_eqV1 e_eqFs_nil e_eqFs_cons e_and2 e_eq1 e_eqL_i e_eqL_s e_eqL_b e_allocR e_boxR e_box_agg e_box_d e_box_own e_box_clo e_one_nil e_one_d e_one_own e_one_clo e_one_ptr e_cells_agg e_cells_d e_cells_own e_cells_clo e_cells_ptr e_ob_own e_ob_ptr e_ob_elo e_ob_d e_ob_el e_ob_agg e_load_box e_load_fzb e_load_el e_load_elo e_storeX_ptr e_storeX_d e_storeX_own e_storeX_agg e_storeX_el e_storeC' e_notIn_nil e_notIn_cons e_store_box e_storeB e_store_elo e_store_elo_agg e_storeE e_fa_ptr e_fa_el e_fa_elo e_faR e_fd e_fdR e_ia_d e_ia_row e_ia_fz e_ia_ptr e_ia_el e_ix_s e_ix_a e_len_s e_len_nil e_len_d e_len_row e_len_fz e_conv_i e_conv_s e_extr e_maxR e_minR e_nil_ptr e_nil_el e_nil_elo e_rows_nil e_rows_d e_rows_row e_rows_fz e_rok_nil e_rok_d e_rok_row e_rok_fz e_app_row e_appR e_app_nil e_appN e_make e_bnd_none e_bnd_some e_optmap_none e_optmap_some e_slR e_slRe e_sl_s e_sl_d e_sl_nil e_sl_row e_sl_fz e_fill_nil e_fill_cons e_fill1 e_placeS e_plS e_placeE e_buildO e_build1 e_build2 e_build3 e_bindD e_bs e_bsR e_allD_nil e_allD_cons e_allD_el e_allD_clo e_allD2 e_allD1 e_chunk0 e_chunkS e_clP_nil e_clP_cons e_cl_d e_cl_any e_cl_el e_cl_agg e_cl_tup e_cl_clo e_cl_own e_clOwn_row e_clOwn_fz e_cl_ptr e_clPtr_box e_clBox e_clPtr_fzb e_clL_nil e_clL_cons e_ok_d e_ok_any e_ok_el e_ok_agg e_ok_tup e_ok_clo e_ok_own e_okOwn_row e_okOwn_fz e_ok_ptr e_okPtr_box e_okPtr_fzb e_okL_nil e_okL_cons e_ids_d e_ids_any e_ids_el e_ids_own e_ids_ptr e_ids_agg e_ids_tup e_ids_clo e_idsL_nil e_idsL_cons e_frz_nil e_frz_cons e_frz_row e_frz_fz e_frz_fzb e_frz_box e_frzB e_flat_lit e_flat_sl e_flat_agg e_flat_tup e_flat_any e_flat_clo e_flatL_nil e_flatL_cons e_new_lit e_new_agg e_new_tup e_new_own e_newOwn_row e_newL_nil e_newL_cons e_objD e_setMany e_takeA e_zerosA e_gdL e_idsG e_idsOp e_callV' e_callN' e_callF' e_o_move e_o_assign e_o_pick e_o_unOp e_o_binOp e_o_alloc e_o_box e_o_build e_o_buildSlice e_o_load e_o_store e_o_fieldAddr e_o_field e_o_indexAddr e_o_index e_o_slice0 e_o_slice1 e_o_slice2 e_o_slice3 e_o_makeSlice e_o_makeFunc e_o_convert e_o_extract e_o_nilCheck e_o_bcall e_o_vcall litI litB litS
attribute [local go_sem] List.map_cons List.map_nil List.getD_cons_zero List.getD_cons_succ List.getD_nil List.getElem?_cons_zero List.getElem?_cons_succ List.getElem?_nil Option.getD_some Option.getD_none Option.map_some Option.map_none List.length_cons List.length_nil List.all_cons List.all_nil Bool.and_true Bool.true_and and_true true_and and_self List.take_zero List.take_succ_cons List.drop_zero List.drop_succ_cons List.nil_append List.cons_append List.append_nil List.replicate_succ List.replicate_zero List.flatten_cons List.flatten_nil Nat.zero_add Nat.add_zero Nat.mul_one Nat.zero_mul Nat.one_mul Nat.mul_zero List.set_cons_zero List.set_cons_succ List.foldl_cons List.foldl_nil appendOk rowsOk inB sliceOk cutRows mtake mdrop List.length_append List.length_take List.length_drop if_true if_false or_false or_true true_or Bool.not_true Bool.not_false Bool.false_eq_true List.length_map Int.toNat_natCast Int.toNat_zero Int.toNat_one eq_self St.after St.put applyEff R0 T1 T2 T3 T4 T5 T9 T15 T22 T24 T25 T26 T28 T29 T30 T32 T34 T36 T39 T42 T44 T47 T49 T51 T52 T54 T55 T57 T58 T60 T64 T68 T70 T72 T74 T76 T81 T83 T87 T90 T94 T97 T102 T113 T116 T119 T131 T134 T143 T145 T149 T151 T154 ti1 ti2 ti3 ti4 ti5 ti9 ti15 ti22 ti24 ti25 ti26 ti28 ti29 ti30 ti32 ti34 ti36 ti39 ti42 ti44 ti47 ti49 ti51 ti52 ti54 ti55 ti57 ti58 ti60 ti64 ti68 ti70 ti72 ti74 ti76 ti81 ti83 ti87 ti90 ti94 ti97 ti102 ti113 ti116 ti119 ti131 ti134 ti143 ti145 ti149 ti151 ti154
section
set_option linter.unusedVariables false
set_option linter.unusedSimpArgs false
open Go.RowKit
attribute [local irreducible] AWp evOps evD
theorem bkRows_mem {p : Rw → Bool} {i : Nat} {x : Bk} : ∀ {l : List Rw} {k : Nat}, x ∈ bkRows p i l k → ∃ j, j < l.length ∧ x = ((i : Int), ((k + j : Nat) : Int), -1) ∧ p (l.getD j []) = true
  | [], k, h => by simp [bkRows] at h
  | r :: l, k, h => by
    simp only [bkRows, List.mem_append] at h
    rcases h with h | h
    · split at h
      · rename_i hp
        simp only [List.mem_singleton] at h
        exact ⟨0, by simp, by simpa using h, by simpa using hp⟩
      · simp at h
    · obtain ⟨j, h1, h2, h3⟩ := bkRows_mem h
      exact ⟨j + 1, by simpa using h1, by rw [h2]; simp; omega, by simpa using h3⟩
theorem bkRefs_mem {s : Sch} {st : Stt} {x : Bk} : ∀ {l : List Rf} {i : Nat}, x ∈ bkRefs s st l i → ∃ k, k < l.length ∧ ∃ j, j < (st.getD (l.getD k rfN).table []).length ∧ x = (((i + k : Nat) : Int), (j : Int), -1) ∧ brk s st (l.getD k rfN) ((st.getD (l.getD k rfN).table []).getD j []) = true
  | [], i, h => by simp [bkRefs] at h
  | r :: l, i, h => by
    simp only [bkRefs, List.mem_append] at h
    rcases h with h | h
    · obtain ⟨j, h1, h2, h3⟩ := bkRows_mem h
      exact ⟨0, by simp, j, by simpa using h1, by simpa using h2, by simpa using h3⟩
    · obtain ⟨k, h1, j, h2, h3, h4⟩ := bkRefs_mem h
      exact ⟨k + 1, by simpa using h1, j, by simpa using h2, by rw [h3]; simp; omega, by simpa using h4⟩
theorem bkTots_mem {st : Stt} {x : Bk} : ∀ {l : List Tt} {i : Nat}, x ∈ bkTots st l i → ∃ k, k < l.length ∧ x = (-1, -1, ((i + k : Nat) : Int)) ∧ over st (l.getD k ttN) = true
  | [], i, h => by simp [bkTots] at h
  | r :: l, i, h => by
    simp only [bkTots, List.mem_append] at h
    rcases h with h | h
    · split at h
      · rename_i hp
        simp only [List.mem_singleton] at h
        exact ⟨0, by simp, by simpa using h, by simpa using hp⟩
      · simp at h
    · obtain ⟨k, h1, h2, h3⟩ := bkTots_mem h
      exact ⟨k + 1, by simpa using h1, by rw [h2]; simp; omega, by simpa using h3⟩
/-- The first broken constraint, if it is a reference. -/
theorem check_head {s : Sch} {st : Stt} {x : Bk} {l : List Bk} (h : checkR s st = x :: l) (hx : ¬ x.1 < 0) : ∃ k, k < s.refs.length ∧ ∃ j, j < (st.getD (s.refs.getD k rfN).table []).length ∧ x = ((k : Int), (j : Int), -1) := by
  have hm : x ∈ checkR s st := by rw [h]; exact List.mem_cons_self ..
  simp only [checkR, List.mem_append] at hm
  rcases hm with hm | hm
  · obtain ⟨k, h1, j, h2, h3, _⟩ := bkRefs_mem hm
    exact ⟨k, h1, j, h2, by simpa using h3⟩
  · obtain ⟨k, _, h2, _⟩ := bkTots_mem hm
    rw [h2] at hx
    simp at hx
def mendM (s : Sch) : Nat → Stt → Stt
  | 0, st => st
  | n + 1, st => match checkR s st with
    | [] => st
    | x :: _ => if x.1 < 0 then st else mendM s n (withoutR st (s.refs.getD x.1.toNat rfN).table x.2.1.toNat)
theorem sub_without (l : List Rw) (i : Nat) : (l.take i ++ l.drop (i + 1)).Sublist l := by
  have h : (l.take i ++ l.drop (i + 1)).Sublist (l.take i ++ l.drop i) := by
    refine List.Sublist.append_left ?_ _
    rw [show l.drop (i + 1) = (l.drop i).drop 1 from by rw [List.drop_drop]]
    exact List.drop_sublist _ _
  rwa [List.take_append_drop] at h
theorem StV.without {s : Sch} {st : Stt} (h : StV s st) {t : Nat} (ht : t < s.tables.length) (i : Nat) : StV s (withoutR st t i) :=
  h.set ht (fun r hr => h.rows t ht r ((sub_without _ i).subset hr)) ((h.srt t ht).sublist (sub_without _ i))
theorem cnt_without {s : Sch} {st : Stt} (h : StV s st) {t : Nat} (ht : t < s.tables.length) {i : Nat} (hi : i < (st.getD t []).length) : cnt (withoutR st t i) + 1 = cnt st := by
  have h1 := cnt_set (st := st) (t := t) (by rw [h.len]; exact ht) ((st.getD t []).take i ++ (st.getD t []).drop (i + 1))
  have h2 := cnt_le (st := st) t
  simp only [List.length_append, List.length_take, List.length_drop] at h1
  unfold withoutR
  omega
theorem bks_at (l : List Bk) {i : Nat} (h : i < l.length) : (l.map bkD).getD i [] = bkD (l.getD i (0, 0, 0)) := by
  simp [List.getD_eq_getElem?_getD, h]
set_option maxHeartbeats 16000000 in
set_option maxRecDepth 10000 in
theorem f12_spec (s : Sch) (st : Stt) (h : SchOk s) (hs : StV s st) (hc : cnt st ≤ 1000) : Spec Try.prog 12 [.agg (schA s), .agg (stA st)] (.agg (stA (mendM s 40 st))) := by
  obtain ⟨R, hR⟩ : ∃ R, mendM s 40 st = R := ⟨_, rfl⟩
  rw [hR]
  refine spec_of_awp (fn := Try.f12) Try.func12 (by kernel_rfl) rfl ?_
  intro w0 C0
  simp only [Try.ntmps12, litI, litB, litS, List.length_cons, List.length_nil, Nat.reduceAdd, Nat.reduceSub, List.replicate_succ, List.replicate_zero, List.cons_append, List.nil_append]
  repeat' first
    | refine awp_seq ?_
    | refine awp_block ?_
    | refine awp_skip ?_
    | (refine reg _ (by (simp only [List.map_cons, List.map_nil]; rfl)) rfl ?_; intro K hK)
    | (refine awp_cond _ (by rfl) ?_ ?_ <;> (intro hb; first | (cases hb; done) | (have ht : true = true := hb; clear ht hb) | (have ht : false = false := hb; clear ht hb) | (simp only [hb]) | skip))
    | (refine awp_exit ?_; simp only [thenA, blockA, scopeA, reduceIte, RetQ, Nat.reduceEqDiff])
    | (refine awp_ret ?_; simp only [thenA, blockA, scopeA, RetQ])
    | (refine ev_nil (hK _ ?_); clear hK K)
    | (apply ev_guardU; (case hj | hu | hσ => (simp only [go_sem]; try rfl)))
    | (refine ev_guardT _ _ (by (simp only [go_sem]; rfl)) (by (simp only [go_sem]; rfl)) ?_ ?_ <;> (intro hb; first | (cases hb; done) | (have ht : true = true := hb; clear ht hb) | (have ht : false = false := hb; clear ht hb) | (simp only [hb]) | skip))
    | (refine ev_guardF _ _ (by (simp only [go_sem]; rfl)) (by (simp only [go_sem]; rfl)) ?_ ?_ <;> (intro hb; first | (cases hb; done) | (have ht : true = true := hb; clear ht hb) | (have ht : false = false := hb; clear ht hb) | (simp only [hb]) | skip))
    | (apply ev_step0; (case hr | hσ => (simp only [go_sem]; try rfl)); (case hc => (first | trivial | decide | (simp only [inB, sliceOk, appendOk, rowsOk]; omega) | (simp [inB, sliceOk, appendOk, rowsOk]; omega))))
    | (apply ev_step; (case hr => (simp only [go_sem]; try rfl)); (case hσ => (intro g u; simp only [go_sem]; try rfl)); (case hc => (first | trivial | decide | (simp only [inB, sliceOk, appendOk, rowsOk]; omega) | (simp [inB, sliceOk, appendOk, rowsOk]; omega))); intro g u; (try clear u); (try clear g))
    | fail
  rename_i g2 g3
  refine awp_loopI (fun j : Nat × Stt => j.1 ≤ 40 ∧ StV s j.2 ∧ cnt j.2 ≤ 1000 ∧ mendM s (40 - j.1) j.2 = R) (fun j => 40 - j.1) (fun j => ⟨[.any, .any, .ptr 2 g2 0, .ptr 3 g3 0, .ptr 4 g 0, litI .i64 j.1, .any, .any, .any, .any, .any, .any, .any, .any, .any, .any, .any, .any, .any, .any, .any, .any, .any, .any, .any, .any, .any, .any, .any, .any, .any, .any, .any, .any, .any, .any, .any, .any, .any, .any, .any], [.no, .no, .box g2 (schA s), .box g3 (stA j.2), .box g [.d (.lit (.slice none 0 0))], .no, .no, .no, .no, .no, .no, .no, .no, .no, .no, .no, .no, .no, .no, .no, .no, .no, .no, .no, .no, .no, .no, .no, .no, .no, .no, .no, .no, .no, .no, .no, .no, .no, .no, .no, .no]⟩) (0, st) ⟨by simp, hs, hc, hR⟩ ?_ ?_
  · refine Wk.mk ?_ ?_
    all_goals (repeat' first | exact trivial | exact LeA.refl _ | exact LeA.any _ | exact LeO.refl _ | exact LeO.no _ | exact LeA.nil _ | exact LeA.nilOwn _ | exact LeO.nil _ _ _ | refine LeO.box ?_ | (refine LeA.i ?_; (first | rfl | (push_cast; rfl) | (rw [wrap_id (by omega)]; push_cast; omega) | (simp [wrap_id]; omega))) | refine ⟨?_, ?_⟩)
  rintro ⟨n, x⟩ ⟨hn, hv, hcx, hm⟩
  simp only [litI, litB] at hn hv hcx hm ⊢
  by_cases h1 : n < 40
  rotate_left
  · have d1 : decide ((n : Int) < 40) = false := decide_eq_false (by omega)
    have : n = 40 := by omega
    subst this
    have hm' : x = R := hm
    rw [← hm']
    repeat' first
      | refine awp_seq ?_
      | refine awp_block ?_
      | refine awp_skip ?_
      | (refine reg _ (by (simp only [List.map_cons, List.map_nil]; rfl)) rfl ?_; intro K hK)
      | (refine awp_cond _ (by rfl) ?_ ?_ <;> (intro hb; first | (cases hb; done) | (have ht : true = true := hb; clear ht hb) | (have ht : false = false := hb; clear ht hb) | (simp only [hb]) | skip))
      | (refine awp_exit ?_; simp only [thenA, blockA, scopeA, reduceIte, RetQ, Nat.reduceEqDiff])
      | (refine awp_ret ?_; simp only [thenA, blockA, scopeA, RetQ])
      | (refine ev_nil (hK _ ?_); clear hK K)
      | (apply ev_guardU; (case hj | hu | hσ => (simp only [go_sem, d1]; try rfl)))
      | (refine ev_guardT _ _ (by (simp only [go_sem, d1]; rfl)) (by (simp only [go_sem, d1]; rfl)) ?_ ?_ <;> (intro hb; first | (cases hb; done) | (have ht : true = true := hb; clear ht hb) | (have ht : false = false := hb; clear ht hb) | (simp only [hb]) | skip))
      | (refine ev_guardF _ _ (by (simp only [go_sem, d1]; rfl)) (by (simp only [go_sem, d1]; rfl)) ?_ ?_ <;> (intro hb; first | (cases hb; done) | (have ht : true = true := hb; clear ht hb) | (have ht : false = false := hb; clear ht hb) | (simp only [hb]) | skip))
      | (apply regD; (case hd => (simp only [List.map_cons, List.map_nil]; rfl)); (case hok => rfl); (case' h => (intro K hK; (repeat' first
        | (apply evd_nil; refine (hK _ ?_); clear hK K)
        | (apply evd_step0; (case hr | hi | hσ => (simp only [go_sem, d1]; try rfl)); (case hc => (first | trivial | decide | (simp only [inB, sliceOk, appendOk, rowsOk]; omega) | (simp [inB, sliceOk, appendOk, rowsOk]; omega))))
        | (apply evd_step; (case hr | hi => (simp only [go_sem, d1]; try rfl)); (case hc => (first | trivial | decide | (simp only [inB, sliceOk, appendOk, rowsOk]; omega) | (simp [inB, sliceOk, appendOk, rowsOk]; omega))); (case hw | hσ => (intro g u; simp only [go_sem, d1]; try rfl)); (case' hk => (intro g u; (try clear u); (try clear g))))
        | fail))); (case hB => kernel_rfl))
      | (apply ev_step0; (case hr | hσ => (simp only [go_sem, d1]; try rfl)); (case hc => (first | trivial | decide | (simp only [inB, sliceOk, appendOk, rowsOk]; omega) | (simp [inB, sliceOk, appendOk, rowsOk]; omega))))
      | (apply ev_step; (case hr => (simp only [go_sem, d1]; try rfl)); (case hσ => (intro g u; simp only [go_sem, d1]; try rfl)); (case hc => (first | trivial | decide | (simp only [inB, sliceOk, appendOk, rowsOk]; omega) | (simp [inB, sliceOk, appendOk, rowsOk]; omega))); intro g u; (try clear u); (try clear g))
      | fail
    all_goals (refine resR_one T_ok rfl _ (by (simp only [go_sem, resA]; rfl)) (by first | trivial | (simp only [go_sem, resA])) (by first | trivial | (simp only [go_sem])) ?_; simp only [go_sem])
    exact LeA.refl _
  have d1 : decide ((n : Int) < 40) = true := decide_eq_true (by omega)
  have h16 := f16_spec s x h (hv.ok hcx)
  have h40 : 40 - n = (40 - (n + 1)) + 1 := by omega
  rw [h40, mendM] at hm
  cases hch : checkR s x with
  | nil =>
    rw [hch] at hm h16
    have hm' : x = R := hm
    rw [← hm']
    repeat' first
      | refine awp_seq ?_
      | refine awp_block ?_
      | refine awp_skip ?_
      | (refine reg _ (by (simp only [List.map_cons, List.map_nil]; rfl)) rfl ?_; intro K hK)
      | (refine awp_cond _ (by rfl) ?_ ?_ <;> (intro hb; first | (cases hb; done) | (have ht : true = true := hb; clear ht hb) | (have ht : false = false := hb; clear ht hb) | (simp only [hb]) | skip))
      | (refine awp_exit ?_; simp only [thenA, blockA, scopeA, reduceIte, RetQ, Nat.reduceEqDiff])
      | (refine awp_ret ?_; simp only [thenA, blockA, scopeA, RetQ])
      | (refine ev_nil (hK _ ?_); clear hK K)
      | (apply ev_guardU; (case hj | hu | hσ => (simp only [go_sem, d1]; try rfl)))
      | (refine ev_guardT _ _ (by (simp only [go_sem, d1]; rfl)) (by (simp only [go_sem, d1]; rfl)) ?_ ?_ <;> (intro hb; first | (cases hb; done) | (have ht : true = true := hb; clear ht hb) | (have ht : false = false := hb; clear ht hb) | (simp only [hb]) | skip))
      | (refine ev_guardF _ _ (by (simp only [go_sem, d1]; rfl)) (by (simp only [go_sem, d1]; rfl)) ?_ ?_ <;> (intro hb; first | (cases hb; done) | (have ht : true = true := hb; clear ht hb) | (have ht : false = false := hb; clear ht hb) | (simp only [hb]) | skip))
      | (apply ev_call0; (case hys => (simp only [go_sem, d1]; try rfl)); (case hs => first | exact h16 ..); (case hok | hσ => (simp only [go_sem, d1]; try rfl)))
      | (apply regD; (case hd => (simp only [List.map_cons, List.map_nil]; rfl)); (case hok => rfl); (case' h => (intro K hK; (repeat' first
        | (apply evd_nil; refine (hK _ ?_); clear hK K)
        | (apply evd_call0; (case hi | hys => (simp only [go_sem, d1]; try rfl)); (case hs => first | exact h16 ..); (case hok | hw | hσ => (simp only [go_sem, d1]; try rfl)))
        | (apply evd_step0; (case hr | hi | hσ => (simp only [go_sem, d1]; try rfl)); (case hc => (first | trivial | decide | (simp only [inB, sliceOk, appendOk, rowsOk]; omega) | (simp [inB, sliceOk, appendOk, rowsOk]; omega))))
        | (apply evd_step; (case hr | hi => (simp only [go_sem, d1]; try rfl)); (case hc => (first | trivial | decide | (simp only [inB, sliceOk, appendOk, rowsOk]; omega) | (simp [inB, sliceOk, appendOk, rowsOk]; omega))); (case hw | hσ => (intro g u; simp only [go_sem, d1]; try rfl)); (case' hk => (intro g u; (try clear u); (try clear g))))
        | fail))); (case hB => kernel_rfl))
      | (apply ev_step0; (case hr | hσ => (simp only [go_sem, d1]; try rfl)); (case hc => (first | trivial | decide | (simp only [inB, sliceOk, appendOk, rowsOk]; omega) | (simp [inB, sliceOk, appendOk, rowsOk]; omega))))
      | (apply ev_step; (case hr => (simp only [go_sem, d1]; try rfl)); (case hσ => (intro g u; simp only [go_sem, d1]; try rfl)); (case hc => (first | trivial | decide | (simp only [inB, sliceOk, appendOk, rowsOk]; omega) | (simp [inB, sliceOk, appendOk, rowsOk]; omega))); intro g u; (try clear u); (try clear g))
      | fail
    all_goals (refine resR_one T_ok rfl _ (by (simp only [go_sem, resA]; rfl)) (by first | trivial | (simp only [go_sem, resA])) (by first | trivial | (simp only [go_sem])) ?_; simp only [go_sem])
    exact LeA.refl _
  | cons y l =>
  rw [hch] at hm h16
  have d2 : ((((y :: l).length : Nat) : Int) == 0) = false := by simp; omega
  have hg := bks_at (y :: l) (i := 0) (by simp)
  simp only [List.getD_cons_zero] at hg
  have hlen : (0 : Nat) < (y :: l).length := by simp
  by_cases hy : y.1 < 0
  · have d3 : decide (y.1 < 0) = true := decide_eq_true hy
    have hm' : x = R := by rw [← hm]; simp only [if_pos hy]
    rw [← hm']
    generalize y :: l = yl at *
    repeat' first
      | refine awp_seq ?_
      | refine awp_block ?_
      | refine awp_skip ?_
      | (refine reg _ (by (simp only [List.map_cons, List.map_nil]; rfl)) rfl ?_; intro K hK)
      | (refine awp_cond _ (by rfl) ?_ ?_ <;> (intro hb; first | (cases hb; done) | (have ht : true = true := hb; clear ht hb) | (have ht : false = false := hb; clear ht hb) | (simp only [hb]) | skip))
      | (refine awp_exit ?_; simp only [thenA, blockA, scopeA, reduceIte, RetQ, Nat.reduceEqDiff])
      | (refine awp_ret ?_; simp only [thenA, blockA, scopeA, RetQ])
      | (refine ev_nil (hK _ ?_); clear hK K)
      | (apply ev_guardU; (case hj | hu | hσ => (simp only [go_sem, d1, d2, hg, d3]; try rfl)))
      | (refine ev_guardT _ _ (by (simp only [go_sem, d1, d2, hg, d3]; rfl)) (by (simp only [go_sem, d1, d2, hg, d3]; rfl)) ?_ ?_ <;> (intro hb; first | (cases hb; done) | (have ht : true = true := hb; clear ht hb) | (have ht : false = false := hb; clear ht hb) | (simp only [hb]) | skip))
      | (refine ev_guardF _ _ (by (simp only [go_sem, d1, d2, hg, d3]; rfl)) (by (simp only [go_sem, d1, d2, hg, d3]; rfl)) ?_ ?_ <;> (intro hb; first | (cases hb; done) | (have ht : true = true := hb; clear ht hb) | (have ht : false = false := hb; clear ht hb) | (simp only [hb]) | skip))
      | (apply ev_call0; (case hys => (simp only [go_sem, d1, d2, hg, d3]; try rfl)); (case hs => first | exact h16 ..); (case hok | hσ => (simp only [go_sem, d1, d2, hg, d3]; try rfl)))
      | (apply regD; (case hd => (simp only [List.map_cons, List.map_nil]; rfl)); (case hok => rfl); (case' h => (intro K hK; (repeat' first
        | (apply evd_nil; refine (hK _ ?_); clear hK K)
        | (apply evd_call0; (case hi | hys => (simp only [go_sem, d1, d2, hg, d3]; try rfl)); (case hs => first | exact h16 ..); (case hok | hw | hσ => (simp only [go_sem, d1, d2, hg, d3]; try rfl)))
        | (apply evd_step0; (case hr | hi | hσ => (simp only [go_sem, d1, d2, hg, d3]; try rfl)); (case hc => (first | trivial | decide | (simp only [inB, sliceOk, appendOk, rowsOk]; omega) | (simp [inB, sliceOk, appendOk, rowsOk]; omega))))
        | (apply evd_step; (case hr | hi => (simp only [go_sem, d1, d2, hg, d3]; try rfl)); (case hc => (first | trivial | decide | (simp only [inB, sliceOk, appendOk, rowsOk]; omega) | (simp [inB, sliceOk, appendOk, rowsOk]; omega))); (case hw | hσ => (intro g u; simp only [go_sem, d1, d2, hg, d3]; try rfl)); (case' hk => (intro g u; (try clear u); (try clear g))))
        | fail))); (case hB => kernel_rfl))
      | (apply ev_step0; (case hr | hσ => (simp only [go_sem, d1, d2, hg, d3]; try rfl)); (case hc => (first | trivial | decide | (simp only [inB, sliceOk, appendOk, rowsOk]; omega) | (simp [inB, sliceOk, appendOk, rowsOk]; omega))))
      | (apply ev_step; (case hr => (simp only [go_sem, d1, d2, hg, d3]; try rfl)); (case hσ => (intro g u; simp only [go_sem, d1, d2, hg, d3]; try rfl)); (case hc => (first | trivial | decide | (simp only [inB, sliceOk, appendOk, rowsOk]; omega) | (simp [inB, sliceOk, appendOk, rowsOk]; omega))); intro g u; (try clear u); (try clear g))
      | fail
    all_goals (refine resR_one T_ok rfl _ (by (simp only [go_sem, resA]; rfl)) (by first | trivial | (simp only [go_sem, resA])) (by first | trivial | (simp only [go_sem])) ?_; simp only [go_sem])
    exact LeA.refl _
  · have d3 : decide (y.1 < 0) = false := decide_eq_false hy
    simp only [if_neg hy] at hm
    obtain ⟨k, hk, j, hj, rfl⟩ := check_head hch hy
    generalize (((k : Int), (j : Int), (-1 : Int)) : Bk) :: l = yl at *
    simp only at hm hg d3
    rw [Int.toNat_natCast, Int.toNat_natCast] at hm
    have hx := rfs_at s.refs hk
    obtain ⟨r, hr, r1, r2, r3, r4, r5, r6⟩ := ref_at h hk (hv.ok hcx)
    rw [hr] at hx hj hm
    have := hv.len
    have := h.tlen
    have := cnt_le (st := x) r.table
    have h26 := f26_spec x r.table j r5 (by omega) hj (by omega)
    have hcw := cnt_without hv r1 hj
    repeat' first
      | refine awp_seq ?_
      | refine awp_block ?_
      | refine awp_skip ?_
      | (refine reg _ (by (simp only [List.map_cons, List.map_nil]; rfl)) rfl ?_; intro K hK)
      | (refine awp_cond _ (by rfl) ?_ ?_ <;> (intro hb; first | (cases hb; done) | (have ht : true = true := hb; clear ht hb) | (have ht : false = false := hb; clear ht hb) | (simp only [hb]) | skip))
      | (refine awp_exit ?_; simp only [thenA, blockA, scopeA, reduceIte, RetQ, Nat.reduceEqDiff])
      | (refine awp_ret ?_; simp only [thenA, blockA, scopeA, RetQ])
      | (refine ev_nil (hK _ ?_); clear hK K)
      | (apply ev_guardU; (case hj | hu | hσ => (simp only [go_sem, d1, d2, hg, d3, hx]; try rfl)))
      | (refine ev_guardT _ _ (by (simp only [go_sem, d1, d2, hg, d3, hx]; rfl)) (by (simp only [go_sem, d1, d2, hg, d3, hx]; rfl)) ?_ ?_ <;> (intro hb; first | (cases hb; done) | (have ht : true = true := hb; clear ht hb) | (have ht : false = false := hb; clear ht hb) | (simp only [hb]) | skip))
      | (refine ev_guardF _ _ (by (simp only [go_sem, d1, d2, hg, d3, hx]; rfl)) (by (simp only [go_sem, d1, d2, hg, d3, hx]; rfl)) ?_ ?_ <;> (intro hb; first | (cases hb; done) | (have ht : true = true := hb; clear ht hb) | (have ht : false = false := hb; clear ht hb) | (simp only [hb]) | skip))
      | (apply ev_call0; (case hys => (simp only [go_sem, d1, d2, hg, d3, hx]; try rfl)); (case hs => first | exact h16 .. | exact h26 ..); (case hok | hσ => (simp only [go_sem, d1, d2, hg, d3, hx]; try rfl)))
      | (apply regD; (case hd => (simp only [List.map_cons, List.map_nil]; rfl)); (case hok => rfl); (case' h => (intro K hK; (repeat' first
        | (apply evd_nil; refine (hK _ ?_); clear hK K)
        | (apply evd_call0; (case hi | hys => (simp only [go_sem, d1, d2, hg, d3, hx]; try rfl)); (case hs => first | exact h16 .. | exact h26 ..); (case hok | hw | hσ => (simp only [go_sem, d1, d2, hg, d3, hx]; try rfl)))
        | (apply evd_step0; (case hr | hi | hσ => (simp only [go_sem, d1, d2, hg, d3, hx]; try rfl)); (case hc => (first | trivial | decide | (simp only [inB, sliceOk, appendOk, rowsOk]; omega) | (simp [inB, sliceOk, appendOk, rowsOk]; omega))))
        | (apply evd_step; (case hr | hi => (simp only [go_sem, d1, d2, hg, d3, hx]; try rfl)); (case hc => (first | trivial | decide | (simp only [inB, sliceOk, appendOk, rowsOk]; omega) | (simp [inB, sliceOk, appendOk, rowsOk]; omega))); (case hw | hσ => (intro g u; simp only [go_sem, d1, d2, hg, d3, hx]; try rfl)); (case' hk => (intro g u; (try clear u); (try clear g))))
        | fail))); (case hB => kernel_rfl))
      | (apply ev_step0; (case hr | hσ => (simp only [go_sem, d1, d2, hg, d3, hx]; try rfl)); (case hc => (first | trivial | decide | (simp only [inB, sliceOk, appendOk, rowsOk]; omega) | (simp [inB, sliceOk, appendOk, rowsOk]; omega))))
      | (apply ev_step; (case hr => (simp only [go_sem, d1, d2, hg, d3, hx]; try rfl)); (case hσ => (intro g u; simp only [go_sem, d1, d2, hg, d3, hx]; try rfl)); (case hc => (first | trivial | decide | (simp only [inB, sliceOk, appendOk, rowsOk]; omega) | (simp [inB, sliceOk, appendOk, rowsOk]; omega))); intro g u; (try clear u); (try clear g))
      | fail
    refine Exists.intro (n + 1, withoutR x r.table j) ⟨⟨by show n + 1 ≤ 40; omega, hv.without r1 j, by show cnt (withoutR x r.table j) ≤ 1000; omega, hm⟩, by show 40 - (n + 1) < 40 - n; omega, ?_⟩
    refine Wk.mk ?_ ?_
    all_goals (repeat' first | exact trivial | exact LeA.refl _ | exact LeA.any _ | exact LeO.refl _ | exact LeO.no _ | exact LeA.nil _ | exact LeA.nilOwn _ | exact LeO.nil _ _ _ | refine LeO.box ?_ | (refine LeA.i ?_; (first | rfl | (push_cast; rfl) | (rw [wrap_id (by omega)]; push_cast; omega) | (simp [wrap_id]; omega))) | refine ⟨?_, ?_⟩)
end
section
set_option linter.unusedVariables false
set_option linter.unusedSimpArgs false
open Go.RowKit
attribute [local irreducible] AWp evOps evD
def oddRow (c : Nat) (n : List Int) (i : Nat) (r : Rw) : Rw := if (decide (i < n.length) && small (n.getD i 0)) = true then setV r c ⟨2, n.getD i 0, ⟨#[]⟩⟩ else r
def oddRows (c : Nat) (n : List Int) (l : List Rw) : List Rw := (List.range l.length).map fun i => oddRow c n i (l.getD i [])
def oddTo (c : Nat) (n : List Int) (l : List Rw) (k : Nat) : List Rw := (List.range k).map fun i => oddRow c n i (l.getD i [])
def oddM (s : Sch) (st : Stt) (n : List Int) : Stt := match s.totals with
  | [] => st
  | x :: _ => st.set x.table (oddRows x.column n (st.getD x.table []))
theorem oddTo_succ (c : Nat) (n : List Int) (l : List Rw) (k : Nat) : oddTo c n l (k + 1) = oddTo c n l k ++ [oddRow c n k (l.getD k [])] := by
  simp [oddTo, List.range_succ]
theorem oddTo_len (c : Nat) (n : List Int) (l : List Rw) (k : Nat) : (oddTo c n l k).length = k := by simp [oddTo]
set_option maxHeartbeats 16000000 in
set_option maxRecDepth 10000 in
theorem f13_spec (s : Sch) (st : Stt) (n : List Int) (h : SchOk s) (hs : StOk s st) : Spec Try.prog 13 [.agg (schA s), .agg (stA st), .d (ints n)] (.agg (stA (oddM s st n))) := by
  unfold oddM
  cases htt : s.totals with
  | nil =>
    have d0 : ((s.totals.length : Int) == 0) = true := by rw [htt]; rfl
    refine spec_of_awp (fn := Try.f13) Try.func13 (by kernel_rfl) rfl ?_
    intro w0 C0
    simp only [Try.ntmps13, litI, litB, litS, List.length_cons, List.length_nil, Nat.reduceAdd, Nat.reduceSub, List.replicate_succ, List.replicate_zero, List.cons_append, List.nil_append]
    repeat' first
      | refine awp_seq ?_
      | refine awp_block ?_
      | refine awp_skip ?_
      | (refine reg _ (by (simp only [List.map_cons, List.map_nil]; rfl)) rfl ?_; intro K hK)
      | (refine awp_cond _ (by rfl) ?_ ?_ <;> (intro hb; first | (cases hb; done) | (have ht : true = true := hb; clear ht hb) | (have ht : false = false := hb; clear ht hb) | (simp only [hb]) | skip))
      | (refine awp_exit ?_; simp only [thenA, blockA, scopeA, reduceIte, RetQ, Nat.reduceEqDiff])
      | (refine awp_ret ?_; simp only [thenA, blockA, scopeA, RetQ])
      | (refine ev_nil (hK _ ?_); clear hK K)
      | (apply ev_guardU; (case hj | hu | hσ => (simp only [go_sem, d0]; try rfl)))
      | (refine ev_guardT _ _ (by (simp only [go_sem, d0]; rfl)) (by (simp only [go_sem, d0]; rfl)) ?_ ?_ <;> (intro hb; first | (cases hb; done) | (have ht : true = true := hb; clear ht hb) | (have ht : false = false := hb; clear ht hb) | (simp only [hb]) | skip))
      | (refine ev_guardF _ _ (by (simp only [go_sem, d0]; rfl)) (by (simp only [go_sem, d0]; rfl)) ?_ ?_ <;> (intro hb; first | (cases hb; done) | (have ht : true = true := hb; clear ht hb) | (have ht : false = false := hb; clear ht hb) | (simp only [hb]) | skip))
      | (apply ev_step0; (case hr | hσ => (simp only [go_sem, d0]; try rfl)); (case hc => (first | trivial | decide | (simp only [inB, sliceOk, appendOk, rowsOk]; omega) | (simp [inB, sliceOk, appendOk, rowsOk]; omega))))
      | (apply ev_step; (case hr => (simp only [go_sem, d0]; try rfl)); (case hσ => (intro g u; simp only [go_sem, d0]; try rfl)); (case hc => (first | trivial | decide | (simp only [inB, sliceOk, appendOk, rowsOk]; omega) | (simp [inB, sliceOk, appendOk, rowsOk]; omega))); intro g u; (try clear u); (try clear g))
      | fail
    all_goals (refine resR_one T_ok rfl _ (by (simp only [go_sem, resA]; rfl)) (by first | trivial | (simp only [go_sem, resA])) (by first | trivial | (simp only [go_sem])) ?_; simp only [go_sem])
    exact LeA.refl _
  | cons x xs =>
  have hxm : x ∈ s.totals := by rw [htt]; exact List.mem_cons_self ..
  have d0 : ((s.totals.length : Int) == 0) = false := by rw [htt]; simp; omega
  have hx := tts_at s.totals (i := 0) (by rw [htt]; simp)
  have hx0 : s.totals.getD 0 ttN = x := by rw [htt]; rfl
  rw [hx0] at hx
  have ht0 : 0 < s.totals.length := by rw [htt]; simp
  obtain ⟨ht1, ht2, -⟩ := h.tots _ hxm
  have hkc := h.keys _ ht1
  have hfew := hs.few _ ht1
  have hrows := hs.rows _ ht1
  have hlen : x.table < st.length := by rw [hs.len]; exact ht1
  have hsl := hs.len
  have htl := h.tlen
  have hy := stt_at st hlen
  have hss : (st.map fun t => [rwsD t]).set x.table [rwsD (oddRows x.column n (st.getD x.table []))] = (st.set x.table (oddRows x.column n (st.getD x.table []))).map fun t => [rwsD t] := by rw [List.map_set]
  have hoT : oddRows x.column n (st.getD x.table []) = oddTo x.column n (st.getD x.table []) (st.getD x.table []).length := rfl
  show Spec Try.prog 13 [.agg (schA s), .agg (stA st), .d (ints n)] (.agg (stA (st.set x.table (oddRows x.column n (st.getD x.table [])))))
  rw [hoT] at hss ⊢
  have hoS := oddTo_succ x.column n (st.getD x.table [])
  have hoL := oddTo_len x.column n (st.getD x.table [])
  have ho0 : oddTo x.column n (st.getD x.table []) 0 = [] := rfl
  generalize oddTo x.column n (st.getD x.table []) = odd at *
  generalize colN s x.table = cn at *
  generalize st.getD x.table [] = l at *
  clear htt hx0 hoT
  refine spec_of_awp (fn := Try.f13) Try.func13 (by kernel_rfl) rfl ?_
  intro w0 C0
  simp only [Try.ntmps13, litI, litB, litS, List.length_cons, List.length_nil, Nat.reduceAdd, Nat.reduceSub, List.replicate_succ, List.replicate_zero, List.cons_append, List.nil_append]
  refine awp_len 2 rfl fun hnl => ?_
  simp only [List.length_map] at hnl
  repeat' first
    | refine awp_seq ?_
    | refine awp_block ?_
    | refine awp_skip ?_
    | (refine reg _ (by (simp only [List.map_cons, List.map_nil]; rfl)) rfl ?_; intro K hK)
    | (refine awp_cond _ (by rfl) ?_ ?_ <;> (intro hb; first | (cases hb; done) | (have ht : true = true := hb; clear ht hb) | (have ht : false = false := hb; clear ht hb) | (simp only [hb]) | skip))
    | (refine awp_exit ?_; simp only [thenA, blockA, scopeA, reduceIte, RetQ, Nat.reduceEqDiff])
    | (refine awp_ret ?_; simp only [thenA, blockA, scopeA, RetQ])
    | (refine ev_nil (hK _ ?_); clear hK K)
    | (apply ev_guardU; (case hj | hu | hσ => (simp only [go_sem, d0, hx]; try rfl)))
    | (refine ev_guardT _ _ (by (simp only [go_sem, d0, hx]; rfl)) (by (simp only [go_sem, d0, hx]; rfl)) ?_ ?_ <;> (intro hb; first | (cases hb; done) | (have ht : true = true := hb; clear ht hb) | (have ht : false = false := hb; clear ht hb) | (simp only [hb]) | skip))
    | (refine ev_guardF _ _ (by (simp only [go_sem, d0, hx]; rfl)) (by (simp only [go_sem, d0, hx]; rfl)) ?_ ?_ <;> (intro hb; first | (cases hb; done) | (have ht : true = true := hb; clear ht hb) | (have ht : false = false := hb; clear ht hb) | (simp only [hb]) | skip))
    | (apply ev_step0; (case hr | hσ => (simp only [go_sem, d0, hx]; try rfl)); (case hc => (first | trivial | decide | (simp only [inB, sliceOk, appendOk, rowsOk]; omega) | (simp [inB, sliceOk, appendOk, rowsOk]; omega))))
    | (apply ev_step; (case hr => (simp only [go_sem, d0, hx]; try rfl)); (case hσ => (intro g u; simp only [go_sem, d0, hx]; try rfl)); (case hc => (first | trivial | decide | (simp only [inB, sliceOk, appendOk, rowsOk]; omega) | (simp [inB, sliceOk, appendOk, rowsOk]; omega))); intro g u; (try clear u); (try clear g))
    | fail
  rename_i g3 g4 g6
  revert g; intro g7
  refine awp_loopI (fun j : Nat × Value => j.1 ≤ l.length) (fun j => l.length - j.1) (fun j => ⟨[.any, .any, .d (ints n), .ptr 3 g3 0, .ptr 4 g4 0, .any, .ptr 6 g6 0, .ptr 7 g7 0, .own 21 j.2, litI .i64 j.1, .any, .any, .any, .any, .any, .any, .any, .any, .any, .any, .any, .any, .any, .any, .any, .any, .any, .any, .any, .any, .any, .any, .any, .any, .any, .any, .any, .any, .any, .any, .any, .any, .any, .any, .any, .any, .any, .any, .any, .any, .any, .any, .any, .any, .any, .any, .any, .any, .any, .any, .any, .any, .any, .any, .any, .any, .any, .any, .any, .any, .any, .any, .any, .any, .any, .any, .any, .any, .any, .any, .any, .any, .any, .any, .any, .any, .any, .any, .any, .any, .any, .any], [.no, .no, .no, .box g3 (schA s), .box g4 (stA st), .no, .box g6 [.d (.lit (.slice none 0 0))], .box g7 (ttA x), .no, .no, .no, .no, .no, .no, .no, .no, .no, .no, .no, .no, .no, .row j.2 57 3 ((odd j.1).map rwD), .no, .no, .no, .no, .no, .no, .no, .no, .no, .no, .no, .no, .no, .no, .no, .no, .no, .no, .no, .no, .no, .no, .no, .no, .no, .no, .no, .no, .no, .no, .no, .no, .no, .no, .no, .no, .no, .no, .no, .no, .no, .no, .no, .no, .no, .no, .no, .no, .no, .no, .no, .no, .no, .no, .no, .no, .no, .no, .no, .no, .no, .no, .no, .no, .no, .no, .no, .no, .no, .no]⟩) (0, u) (by simp) ?_ ?_
  · rw [ho0]
    refine Wk.mk ?_ ?_
    all_goals (repeat' first | exact trivial | exact LeA.refl _ | exact LeA.any _ | exact LeO.refl _ | exact LeO.no _ | exact LeA.nil _ | exact LeA.nilOwn _ | exact LeO.nil _ _ _ | refine LeO.box ?_ | (refine LeA.i ?_; (first | rfl | (push_cast; rfl) | (rw [wrap_id (by omega)]; push_cast; omega) | (simp [wrap_id]; omega))) | refine ⟨?_, ?_⟩)
  rintro ⟨i, v⟩ hi
  simp only [litI, litB] at hi ⊢
  by_cases h1 : i < l.length
  rotate_left
  · have d1 : decide ((i : Int) < (l.length : Int)) = false := decide_eq_false (by omega)
    have : i = l.length := by omega
    subst this
    repeat' first
      | refine awp_seq ?_
      | refine awp_block ?_
      | refine awp_skip ?_
      | (refine reg _ (by (simp only [List.map_cons, List.map_nil]; rfl)) rfl ?_; intro K hK)
      | (refine awp_cond _ (by rfl) ?_ ?_ <;> (intro hb; first | (cases hb; done) | (have ht : true = true := hb; clear ht hb) | (have ht : false = false := hb; clear ht hb) | (simp only [hb]) | skip))
      | (refine awp_exit ?_; simp only [thenA, blockA, scopeA, reduceIte, RetQ, Nat.reduceEqDiff])
      | (refine awp_ret ?_; simp only [thenA, blockA, scopeA, RetQ])
      | (refine ev_nil (hK _ ?_); clear hK K)
      | (apply ev_guardU; (case hj | hu | hσ => (simp only [go_sem, d1, hy, hss]; try rfl)))
      | (refine ev_guardT _ _ (by (simp only [go_sem, d1, hy, hss]; rfl)) (by (simp only [go_sem, d1, hy, hss]; rfl)) ?_ ?_ <;> (intro hb; first | (cases hb; done) | (have ht : true = true := hb; clear ht hb) | (have ht : false = false := hb; clear ht hb) | (simp only [hb]) | skip))
      | (refine ev_guardF _ _ (by (simp only [go_sem, d1, hy, hss]; rfl)) (by (simp only [go_sem, d1, hy, hss]; rfl)) ?_ ?_ <;> (intro hb; first | (cases hb; done) | (have ht : true = true := hb; clear ht hb) | (have ht : false = false := hb; clear ht hb) | (simp only [hb]) | skip))
      | (apply ev_step0; (case hr | hσ => (simp only [go_sem, d1, hy, hss]; try rfl)); (case hc => (first | trivial | decide | (simp only [inB, sliceOk, appendOk, rowsOk]; omega) | (simp [inB, sliceOk, appendOk, rowsOk]; omega))))
      | (apply ev_step; (case hr => (simp only [go_sem, d1, hy, hss]; try rfl)); (case hσ => (intro g u; simp only [go_sem, d1, hy, hss]; try rfl)); (case hc => (first | trivial | decide | (simp only [inB, sliceOk, appendOk, rowsOk]; omega) | (simp [inB, sliceOk, appendOk, rowsOk]; omega))); intro g u; (try clear u); (try clear g))
      | fail
    all_goals (refine resR_one T_ok rfl _ (by (simp only [go_sem, resA]; rfl)) (by first | trivial | (simp only [go_sem, resA])) (by first | trivial | (simp only [go_sem])) ?_; simp only [go_sem])
    refine LeA.agg ⟨LeA.s ?_, trivial⟩
    first | rfl | rw [← hss]
  have d1 : decide ((i : Int) < (l.length : Int)) = true := decide_eq_true (by omega)
  have hz := rws_at l h1
  have hro := hrows _ (getD_mem' h1 [])
  have hS := hoS i
  have hOL := hoL i
  unfold oddRow at hS
  generalize l.getD i [] = r at *
  have hcl : x.column < r.length := by rw [hro.1]; exact ht2
  have hrl := hro.1
  have hw := cls_at r hcl
  have hset : (r.map clD).set x.column (clD ⟨⟨2, n.getD i 0, ⟨#[]⟩⟩, (r.getD x.column nullC).st, (r.getD x.column nullC).sq⟩) = (setV r x.column ⟨2, n.getD i 0, ⟨#[]⟩⟩).map clD := by
    rw [setV, List.map_set]
  generalize r.getD x.column nullC = c at *
  by_cases h2 : i < n.length
  · have d2 : decide ((i : Int) < (n.length : Int)) = true := decide_eq_true (by omega)
    have hn := ints_at n h2
    rw [decide_eq_true h2, Bool.true_and] at hS
    generalize n.getD i 0 = m at *
    by_cases h3 : m ≤ 4000000000000000000
    · have d3 : decide (m ≤ 4000000000000000000) = true := decide_eq_true h3
      by_cases h4 : m ≥ -4000000000000000000
      · have d4 : decide (m ≥ -4000000000000000000) = true := decide_eq_true h4
        rw [small_t ⟨h4, h3⟩, if_pos rfl] at hS
        repeat' first
          | refine awp_seq ?_
          | refine awp_block ?_
          | refine awp_skip ?_
          | (refine reg _ (by (simp only [List.map_cons, List.map_nil]; rfl)) rfl ?_; intro K hK)
          | (refine awp_cond _ (by rfl) ?_ ?_ <;> (intro hb; first | (cases hb; done) | (have ht : true = true := hb; clear ht hb) | (have ht : false = false := hb; clear ht hb) | (simp only [hb]) | skip))
          | (refine awp_exit ?_; simp only [thenA, blockA, scopeA, reduceIte, RetQ, Nat.reduceEqDiff])
          | (refine awp_ret ?_; simp only [thenA, blockA, scopeA, RetQ])
          | (refine ev_nil (hK _ ?_); clear hK K)
          | (apply ev_guardU; (case hj | hu | hσ => (simp only [go_sem, d1, hy, hz, d2, hn, d3, d4, hw, hset, hOL]; try rfl)))
          | (refine ev_guardT _ _ (by (simp only [go_sem, d1, hy, hz, d2, hn, d3, d4, hw, hset, hOL]; rfl)) (by (simp only [go_sem, d1, hy, hz, d2, hn, d3, d4, hw, hset, hOL]; rfl)) ?_ ?_ <;> (intro hb; first | (cases hb; done) | (have ht : true = true := hb; clear ht hb) | (have ht : false = false := hb; clear ht hb) | (simp only [hb]) | skip))
          | (refine ev_guardF _ _ (by (simp only [go_sem, d1, hy, hz, d2, hn, d3, d4, hw, hset, hOL]; rfl)) (by (simp only [go_sem, d1, hy, hz, d2, hn, d3, d4, hw, hset, hOL]; rfl)) ?_ ?_ <;> (intro hb; first | (cases hb; done) | (have ht : true = true := hb; clear ht hb) | (have ht : false = false := hb; clear ht hb) | (simp only [hb]) | skip))
          | (apply regD; (case hd => (simp only [List.map_cons, List.map_nil]; rfl)); (case hok => rfl); (case' h => (intro K hK; (repeat' first
        | (apply evd_nil; refine (hK _ ?_); clear hK K)
        | (apply evd_call0; (case hi | hys => (simp only [go_sem, d1, hy, hz, d2, hn, d3, d4, hw, hset, hOL]; try rfl)); (case hs => first | exact f29_spec ..); (case hok | hw | hσ => (simp only [go_sem, d1, hy, hz, d2, hn, d3, d4, hw, hset, hOL]; try rfl)))
        | (apply evd_step0; (case hr | hi | hσ => (simp only [go_sem, d1, hy, hz, d2, hn, d3, d4, hw, hset, hOL]; try rfl)); (case hc => (first | trivial | decide | (simp only [inB, sliceOk, appendOk, rowsOk]; omega) | (simp [inB, sliceOk, appendOk, rowsOk]; omega))))
        | (apply evd_step; (case hr | hi => (simp only [go_sem, d1, hy, hz, d2, hn, d3, d4, hw, hset, hOL]; try rfl)); (case hc => (first | trivial | decide | (simp only [inB, sliceOk, appendOk, rowsOk]; omega) | (simp [inB, sliceOk, appendOk, rowsOk]; omega))); (case hw | hσ => (intro g u; simp only [go_sem, d1, hy, hz, d2, hn, d3, d4, hw, hset, hOL]; try rfl)); (case' hk => (intro g u; (try clear u); (try clear g))))
        | fail))); (case hB => kernel_rfl))
          | (apply ev_step0; (case hr | hσ => (simp only [go_sem, d1, hy, hz, d2, hn, d3, d4, hw, hset, hOL]; try rfl)); (case hc => (first | trivial | decide | (simp only [inB, sliceOk, appendOk, rowsOk]; omega) | (simp [inB, sliceOk, appendOk, rowsOk]; omega))))
          | (apply ev_step; (case hr => (simp only [go_sem, d1, hy, hz, d2, hn, d3, d4, hw, hset, hOL]; try rfl)); (case hσ => (intro g u; simp only [go_sem, d1, hy, hz, d2, hn, d3, d4, hw, hset, hOL]; try rfl)); (case hc => (first | trivial | decide | (simp only [inB, sliceOk, appendOk, rowsOk]; omega) | (simp [inB, sliceOk, appendOk, rowsOk]; omega))); intro g u; (try clear u); (try clear g))
          | fail
        refine Exists.intro (i + 1, u) ⟨by show i + 1 ≤ _; omega, by show _ - (i + 1) < _ - i; omega, ?_⟩
        simp only [hS, List.map_append, List.map_cons, List.map_nil]
        refine Wk.mk ?_ ?_
        all_goals (repeat' first | exact trivial | exact LeA.refl _ | exact LeA.any _ | exact LeO.refl _ | exact LeO.no _ | exact LeA.nil _ | exact LeA.nilOwn _ | exact LeO.nil _ _ _ | refine LeO.box ?_ | (refine LeA.i ?_; (first | rfl | (push_cast; rfl) | (rw [wrap_id (by omega)]; push_cast; omega) | (simp [wrap_id]; omega))) | refine ⟨?_, ?_⟩)
      · have d4 : decide (m ≥ -4000000000000000000) = false := decide_eq_false h4
        rw [small_f (by omega), if_neg Bool.false_ne_true] at hS
        repeat' first
          | refine awp_seq ?_
          | refine awp_block ?_
          | refine awp_skip ?_
          | (refine reg _ (by (simp only [List.map_cons, List.map_nil]; rfl)) rfl ?_; intro K hK)
          | (refine awp_cond _ (by rfl) ?_ ?_ <;> (intro hb; first | (cases hb; done) | (have ht : true = true := hb; clear ht hb) | (have ht : false = false := hb; clear ht hb) | (simp only [hb]) | skip))
          | (refine awp_exit ?_; simp only [thenA, blockA, scopeA, reduceIte, RetQ, Nat.reduceEqDiff])
          | (refine awp_ret ?_; simp only [thenA, blockA, scopeA, RetQ])
          | (refine ev_nil (hK _ ?_); clear hK K)
          | (apply ev_guardU; (case hj | hu | hσ => (simp only [go_sem, d1, hy, hz, d2, hn, d3, d4, hw, hOL]; try rfl)))
          | (refine ev_guardT _ _ (by (simp only [go_sem, d1, hy, hz, d2, hn, d3, d4, hw, hOL]; rfl)) (by (simp only [go_sem, d1, hy, hz, d2, hn, d3, d4, hw, hOL]; rfl)) ?_ ?_ <;> (intro hb; first | (cases hb; done) | (have ht : true = true := hb; clear ht hb) | (have ht : false = false := hb; clear ht hb) | (simp only [hb]) | skip))
          | (refine ev_guardF _ _ (by (simp only [go_sem, d1, hy, hz, d2, hn, d3, d4, hw, hOL]; rfl)) (by (simp only [go_sem, d1, hy, hz, d2, hn, d3, d4, hw, hOL]; rfl)) ?_ ?_ <;> (intro hb; first | (cases hb; done) | (have ht : true = true := hb; clear ht hb) | (have ht : false = false := hb; clear ht hb) | (simp only [hb]) | skip))
          | (apply regD; (case hd => (simp only [List.map_cons, List.map_nil]; rfl)); (case hok => rfl); (case' h => (intro K hK; (repeat' first
        | (apply evd_nil; refine (hK _ ?_); clear hK K)
        | (apply evd_step0; (case hr | hi | hσ => (simp only [go_sem, d1, hy, hz, d2, hn, d3, d4, hw, hOL]; try rfl)); (case hc => (first | trivial | decide | (simp only [inB, sliceOk, appendOk, rowsOk]; omega) | (simp [inB, sliceOk, appendOk, rowsOk]; omega))))
        | (apply evd_step; (case hr | hi => (simp only [go_sem, d1, hy, hz, d2, hn, d3, d4, hw, hOL]; try rfl)); (case hc => (first | trivial | decide | (simp only [inB, sliceOk, appendOk, rowsOk]; omega) | (simp [inB, sliceOk, appendOk, rowsOk]; omega))); (case hw | hσ => (intro g u; simp only [go_sem, d1, hy, hz, d2, hn, d3, d4, hw, hOL]; try rfl)); (case' hk => (intro g u; (try clear u); (try clear g))))
        | fail))); (case hB => kernel_rfl))
          | (apply ev_step0; (case hr | hσ => (simp only [go_sem, d1, hy, hz, d2, hn, d3, d4, hw, hOL]; try rfl)); (case hc => (first | trivial | decide | (simp only [inB, sliceOk, appendOk, rowsOk]; omega) | (simp [inB, sliceOk, appendOk, rowsOk]; omega))))
          | (apply ev_step; (case hr => (simp only [go_sem, d1, hy, hz, d2, hn, d3, d4, hw, hOL]; try rfl)); (case hσ => (intro g u; simp only [go_sem, d1, hy, hz, d2, hn, d3, d4, hw, hOL]; try rfl)); (case hc => (first | trivial | decide | (simp only [inB, sliceOk, appendOk, rowsOk]; omega) | (simp [inB, sliceOk, appendOk, rowsOk]; omega))); intro g u; (try clear u); (try clear g))
          | fail
        refine Exists.intro (i + 1, u) ⟨by show i + 1 ≤ _; omega, by show _ - (i + 1) < _ - i; omega, ?_⟩
        simp only [hS, List.map_append, List.map_cons, List.map_nil]
        refine Wk.mk ?_ ?_
        all_goals (repeat' first | exact trivial | exact LeA.refl _ | exact LeA.any _ | exact LeO.refl _ | exact LeO.no _ | exact LeA.nil _ | exact LeA.nilOwn _ | exact LeO.nil _ _ _ | refine LeO.box ?_ | (refine LeA.i ?_; (first | rfl | (push_cast; rfl) | (rw [wrap_id (by omega)]; push_cast; omega) | (simp [wrap_id]; omega))) | refine ⟨?_, ?_⟩)
    · have d3 : decide (m ≤ 4000000000000000000) = false := decide_eq_false h3
      rw [small_f (by omega), if_neg Bool.false_ne_true] at hS
      repeat' first
        | refine awp_seq ?_
        | refine awp_block ?_
        | refine awp_skip ?_
        | (refine reg _ (by (simp only [List.map_cons, List.map_nil]; rfl)) rfl ?_; intro K hK)
        | (refine awp_cond _ (by rfl) ?_ ?_ <;> (intro hb; first | (cases hb; done) | (have ht : true = true := hb; clear ht hb) | (have ht : false = false := hb; clear ht hb) | (simp only [hb]) | skip))
        | (refine awp_exit ?_; simp only [thenA, blockA, scopeA, reduceIte, RetQ, Nat.reduceEqDiff])
        | (refine awp_ret ?_; simp only [thenA, blockA, scopeA, RetQ])
        | (refine ev_nil (hK _ ?_); clear hK K)
        | (apply ev_guardU; (case hj | hu | hσ => (simp only [go_sem, d1, hy, hz, d2, hn, d3, hw, hOL]; try rfl)))
        | (refine ev_guardT _ _ (by (simp only [go_sem, d1, hy, hz, d2, hn, d3, hw, hOL]; rfl)) (by (simp only [go_sem, d1, hy, hz, d2, hn, d3, hw, hOL]; rfl)) ?_ ?_ <;> (intro hb; first | (cases hb; done) | (have ht : true = true := hb; clear ht hb) | (have ht : false = false := hb; clear ht hb) | (simp only [hb]) | skip))
        | (refine ev_guardF _ _ (by (simp only [go_sem, d1, hy, hz, d2, hn, d3, hw, hOL]; rfl)) (by (simp only [go_sem, d1, hy, hz, d2, hn, d3, hw, hOL]; rfl)) ?_ ?_ <;> (intro hb; first | (cases hb; done) | (have ht : true = true := hb; clear ht hb) | (have ht : false = false := hb; clear ht hb) | (simp only [hb]) | skip))
        | (apply regD; (case hd => (simp only [List.map_cons, List.map_nil]; rfl)); (case hok => rfl); (case' h => (intro K hK; (repeat' first
        | (apply evd_nil; refine (hK _ ?_); clear hK K)
        | (apply evd_step0; (case hr | hi | hσ => (simp only [go_sem, d1, hy, hz, d2, hn, d3, hw, hOL]; try rfl)); (case hc => (first | trivial | decide | (simp only [inB, sliceOk, appendOk, rowsOk]; omega) | (simp [inB, sliceOk, appendOk, rowsOk]; omega))))
        | (apply evd_step; (case hr | hi => (simp only [go_sem, d1, hy, hz, d2, hn, d3, hw, hOL]; try rfl)); (case hc => (first | trivial | decide | (simp only [inB, sliceOk, appendOk, rowsOk]; omega) | (simp [inB, sliceOk, appendOk, rowsOk]; omega))); (case hw | hσ => (intro g u; simp only [go_sem, d1, hy, hz, d2, hn, d3, hw, hOL]; try rfl)); (case' hk => (intro g u; (try clear u); (try clear g))))
        | fail))); (case hB => kernel_rfl))
        | (apply ev_step0; (case hr | hσ => (simp only [go_sem, d1, hy, hz, d2, hn, d3, hw, hOL]; try rfl)); (case hc => (first | trivial | decide | (simp only [inB, sliceOk, appendOk, rowsOk]; omega) | (simp [inB, sliceOk, appendOk, rowsOk]; omega))))
        | (apply ev_step; (case hr => (simp only [go_sem, d1, hy, hz, d2, hn, d3, hw, hOL]; try rfl)); (case hσ => (intro g u; simp only [go_sem, d1, hy, hz, d2, hn, d3, hw, hOL]; try rfl)); (case hc => (first | trivial | decide | (simp only [inB, sliceOk, appendOk, rowsOk]; omega) | (simp [inB, sliceOk, appendOk, rowsOk]; omega))); intro g u; (try clear u); (try clear g))
        | fail
      refine Exists.intro (i + 1, u) ⟨by show i + 1 ≤ _; omega, by show _ - (i + 1) < _ - i; omega, ?_⟩
      simp only [hS, List.map_append, List.map_cons, List.map_nil]
      refine Wk.mk ?_ ?_
      all_goals (repeat' first | exact trivial | exact LeA.refl _ | exact LeA.any _ | exact LeO.refl _ | exact LeO.no _ | exact LeA.nil _ | exact LeA.nilOwn _ | exact LeO.nil _ _ _ | refine LeO.box ?_ | (refine LeA.i ?_; (first | rfl | (push_cast; rfl) | (rw [wrap_id (by omega)]; push_cast; omega) | (simp [wrap_id]; omega))) | refine ⟨?_, ?_⟩)
  · have d2 : decide ((i : Int) < (n.length : Int)) = false := decide_eq_false (by omega)
    rw [decide_eq_false h2, Bool.false_and, if_neg Bool.false_ne_true] at hS
    repeat' first
      | refine awp_seq ?_
      | refine awp_block ?_
      | refine awp_skip ?_
      | (refine reg _ (by (simp only [List.map_cons, List.map_nil]; rfl)) rfl ?_; intro K hK)
      | (refine awp_cond _ (by rfl) ?_ ?_ <;> (intro hb; first | (cases hb; done) | (have ht : true = true := hb; clear ht hb) | (have ht : false = false := hb; clear ht hb) | (simp only [hb]) | skip))
      | (refine awp_exit ?_; simp only [thenA, blockA, scopeA, reduceIte, RetQ, Nat.reduceEqDiff])
      | (refine awp_ret ?_; simp only [thenA, blockA, scopeA, RetQ])
      | (refine ev_nil (hK _ ?_); clear hK K)
      | (apply ev_guardU; (case hj | hu | hσ => (simp only [go_sem, d1, hy, hz, d2, hw, hOL]; try rfl)))
      | (refine ev_guardT _ _ (by (simp only [go_sem, d1, hy, hz, d2, hw, hOL]; rfl)) (by (simp only [go_sem, d1, hy, hz, d2, hw, hOL]; rfl)) ?_ ?_ <;> (intro hb; first | (cases hb; done) | (have ht : true = true := hb; clear ht hb) | (have ht : false = false := hb; clear ht hb) | (simp only [hb]) | skip))
      | (refine ev_guardF _ _ (by (simp only [go_sem, d1, hy, hz, d2, hw, hOL]; rfl)) (by (simp only [go_sem, d1, hy, hz, d2, hw, hOL]; rfl)) ?_ ?_ <;> (intro hb; first | (cases hb; done) | (have ht : true = true := hb; clear ht hb) | (have ht : false = false := hb; clear ht hb) | (simp only [hb]) | skip))
      | (apply regD; (case hd => (simp only [List.map_cons, List.map_nil]; rfl)); (case hok => rfl); (case' h => (intro K hK; (repeat' first
        | (apply evd_nil; refine (hK _ ?_); clear hK K)
        | (apply evd_step0; (case hr | hi | hσ => (simp only [go_sem, d1, hy, hz, d2, hw, hOL]; try rfl)); (case hc => (first | trivial | decide | (simp only [inB, sliceOk, appendOk, rowsOk]; omega) | (simp [inB, sliceOk, appendOk, rowsOk]; omega))))
        | (apply evd_step; (case hr | hi => (simp only [go_sem, d1, hy, hz, d2, hw, hOL]; try rfl)); (case hc => (first | trivial | decide | (simp only [inB, sliceOk, appendOk, rowsOk]; omega) | (simp [inB, sliceOk, appendOk, rowsOk]; omega))); (case hw | hσ => (intro g u; simp only [go_sem, d1, hy, hz, d2, hw, hOL]; try rfl)); (case' hk => (intro g u; (try clear u); (try clear g))))
        | fail))); (case hB => kernel_rfl))
      | (apply ev_step0; (case hr | hσ => (simp only [go_sem, d1, hy, hz, d2, hw, hOL]; try rfl)); (case hc => (first | trivial | decide | (simp only [inB, sliceOk, appendOk, rowsOk]; omega) | (simp [inB, sliceOk, appendOk, rowsOk]; omega))))
      | (apply ev_step; (case hr => (simp only [go_sem, d1, hy, hz, d2, hw, hOL]; try rfl)); (case hσ => (intro g u; simp only [go_sem, d1, hy, hz, d2, hw, hOL]; try rfl)); (case hc => (first | trivial | decide | (simp only [inB, sliceOk, appendOk, rowsOk]; omega) | (simp [inB, sliceOk, appendOk, rowsOk]; omega))); intro g u; (try clear u); (try clear g))
      | fail
    refine Exists.intro (i + 1, u) ⟨by show i + 1 ≤ _; omega, by show _ - (i + 1) < _ - i; omega, ?_⟩
    simp only [hS, List.map_append, List.map_cons, List.map_nil]
    refine Wk.mk ?_ ?_
    all_goals (repeat' first | exact trivial | exact LeA.refl _ | exact LeA.any _ | exact LeO.refl _ | exact LeO.no _ | exact LeA.nil _ | exact LeA.nilOwn _ | exact LeO.nil _ _ _ | refine LeO.box ?_ | (refine LeA.i ?_; (first | rfl | (push_cast; rfl) | (rw [wrap_id (by omega)]; push_cast; omega) | (simp [wrap_id]; omega))) | refine ⟨?_, ?_⟩)
end
section
set_option linter.unusedVariables false
set_option linter.unusedSimpArgs false
open Go.RowKit
attribute [local irreducible] AWp evOps evD
def sameB (a b : List Bk) : Bool := decide (a = b)
set_option maxHeartbeats 8000000 in
set_option maxRecDepth 10000 in
theorem f14_spec (a b : List Bk) : Spec Try.prog 14 [.d (bksD a), .d (bksD b)] (litB (sameB a b)) := by
  unfold sameB
  by_cases hl : a.length = b.length
  rotate_left
  · have d : ((a.length : Int) != (b.length : Int)) = true := by simp; omega
    have hz : decide (a = b) = false := decide_eq_false fun e => hl (by rw [e])
    rw [hz]
    refine spec_of_awp (fn := Try.f14) Try.func14 (by kernel_rfl) rfl ?_
    intro w0 C0
    simp only [Try.ntmps14, litI, litB, litS, List.length_cons, List.length_nil, Nat.reduceAdd, Nat.reduceSub, List.replicate_succ, List.replicate_zero, List.cons_append, List.nil_append]
    repeat' first
      | refine awp_seq ?_
      | refine awp_block ?_
      | refine awp_skip ?_
      | (refine reg _ (by (simp only [List.map_cons, List.map_nil]; rfl)) rfl ?_; intro K hK)
      | (refine awp_cond _ (by rfl) ?_ ?_ <;> (intro hb; first | (cases hb; done) | (have ht : true = true := hb; clear ht hb) | (have ht : false = false := hb; clear ht hb) | (simp only [hb]) | skip))
      | (refine awp_exit ?_; simp only [thenA, blockA, scopeA, reduceIte, RetQ, Nat.reduceEqDiff])
      | (refine awp_ret ?_; simp only [thenA, blockA, scopeA, RetQ])
      | (refine ev_nil (hK _ ?_); clear hK K)
      | (apply ev_step0; (case hr | hσ => (simp only [go_sem, d]; try rfl)); (case hc => (first | trivial | decide | (simp only [inB, sliceOk, appendOk, rowsOk]; omega) | (simp [inB, sliceOk, appendOk, rowsOk]; omega))))
      | (apply ev_step; (case hr => (simp only [go_sem, d]; try rfl)); (case hσ => (intro g u; simp only [go_sem, d]; try rfl)); (case hc => (first | trivial | decide | (simp only [inB, sliceOk, appendOk, rowsOk]; omega) | (simp [inB, sliceOk, appendOk, rowsOk]; omega))); intro g u; (try clear u); (try clear g))
      | fail
    all_goals (refine resR_one T_ok rfl _ (by (simp only [go_sem, resA]; rfl)) (by first | trivial | (simp only [go_sem, resA])) (by first | trivial | (simp only [go_sem])) ?_; simp only [go_sem])
    exact LeA.refl _
  have d : ((a.length : Int) != (b.length : Int)) = false := by simp; omega
  refine spec_of_awp (fn := Try.f14) Try.func14 (by kernel_rfl) rfl ?_
  intro w0 C0
  simp only [Try.ntmps14, litI, litB, litS, List.length_cons, List.length_nil, Nat.reduceAdd, Nat.reduceSub, List.replicate_succ, List.replicate_zero, List.cons_append, List.nil_append]
  refine awp_len 0 rfl fun hll => ?_
  simp only [List.length_map] at hll
  repeat' first
    | refine awp_seq ?_
    | refine awp_block ?_
    | refine awp_skip ?_
    | (refine reg _ (by (simp only [List.map_cons, List.map_nil]; rfl)) rfl ?_; intro K hK)
    | (refine awp_cond _ (by rfl) ?_ ?_ <;> (intro hb; first | (cases hb; done) | (have ht : true = true := hb; clear ht hb) | (have ht : false = false := hb; clear ht hb) | (simp only [hb]) | skip))
    | (refine awp_exit ?_; simp only [thenA, blockA, scopeA, reduceIte, RetQ, Nat.reduceEqDiff])
    | (refine awp_ret ?_; simp only [thenA, blockA, scopeA, RetQ])
    | (refine ev_nil (hK _ ?_); clear hK K)
    | (apply ev_step0; (case hr | hσ => (simp only [go_sem, d]; try rfl)); (case hc => (first | trivial | decide | (simp only [inB, sliceOk, appendOk, rowsOk]; omega) | (simp [inB, sliceOk, appendOk, rowsOk]; omega))))
    | (apply ev_step; (case hr => (simp only [go_sem, d]; try rfl)); (case hσ => (intro g u; simp only [go_sem, d]; try rfl)); (case hc => (first | trivial | decide | (simp only [inB, sliceOk, appendOk, rowsOk]; omega) | (simp [inB, sliceOk, appendOk, rowsOk]; omega))); intro g u; (try clear u); (try clear g))
    | fail
  refine awp_loopI (fun i : Nat => i ≤ a.length ∧ (a = b ↔ a.drop i = b.drop i)) (fun i => a.length - i) (fun i => ⟨[.d (bksD a), .d (bksD b), .any, .any, .any, litI .i64 i, .any, .any, .any, .any, .any, .any, .any, .any, .any, .any, .any, .any, .any, .any, .any, .any, .any, .any, .any, .any, .any, .any, .any, .any, .any, .any, .any, .any, .any, .any, .any, .any, .any, .any, .any, .any, .any, .any, .any, .any, .any, .any, .any, .any, .any, .any, .any, .any], [.no, .no, .no, .no, .no, .no, .no, .no, .no, .no, .no, .no, .no, .no, .no, .no, .no, .no, .no, .no, .no, .no, .no, .no, .no, .no, .no, .no, .no, .no, .no, .no, .no, .no, .no, .no, .no, .no, .no, .no, .no, .no, .no, .no, .no, .no, .no, .no, .no, .no, .no, .no, .no, .no]⟩) 0 ⟨by omega, by simp⟩ ?_ ?_
  · refine Wk.mk ?_ ?_
    all_goals (repeat' first | exact trivial | exact LeA.refl _ | exact LeA.any _ | exact LeO.refl _ | exact LeO.no _ | exact LeA.nil _ | exact LeA.nilOwn _ | exact LeO.nil _ _ _ | refine LeO.box ?_ | (refine LeA.i ?_; (first | rfl | (push_cast; rfl) | (rw [wrap_id (by omega)]; push_cast; omega) | (simp [wrap_id]; omega))) | refine ⟨?_, ?_⟩)
  rintro i ⟨hi, hc⟩
  simp only [litI, litB] at hi hc ⊢
  by_cases h1 : i < a.length
  · have d1 : decide ((i : Int) < (a.length : Int)) = true := decide_eq_true (by omega)
    have hx := bks_at a h1
    have hy := bks_at b (i := i) (by omega)
    have hbl : i < b.length := by omega
    rw [drop_at a (0, 0, 0) h1, drop_at b (0, 0, 0) hbl] at hc
    generalize a.getD i (0, 0, 0) = x at *
    generalize b.getD i (0, 0, 0) = y at *
    obtain ⟨x1, x2, x3⟩ := x
    obtain ⟨y1, y2, y3⟩ := y
    simp only [List.cons.injEq, Prod.mk.injEq] at hc
    by_cases e1 : x1 = y1
    · have q1 : (x1 != y1) = false := by simpa using e1
      by_cases e2 : x2 = y2
      · have q2 : (x2 != y2) = false := by simpa using e2
        by_cases e3 : x3 = y3
        · have q3 : (x3 != y3) = false := by simpa using e3
          repeat' first
            | refine awp_seq ?_
            | refine awp_block ?_
            | refine awp_skip ?_
            | (refine reg _ (by (simp only [List.map_cons, List.map_nil]; rfl)) rfl ?_; intro K hK)
            | (refine awp_cond _ (by rfl) ?_ ?_ <;> (intro hb; first | (cases hb; done) | (have ht : true = true := hb; clear ht hb) | (have ht : false = false := hb; clear ht hb) | (simp only [hb]) | skip))
            | (refine awp_exit ?_; simp only [thenA, blockA, scopeA, reduceIte, RetQ, Nat.reduceEqDiff])
            | (refine awp_ret ?_; simp only [thenA, blockA, scopeA, RetQ])
            | (refine ev_nil (hK _ ?_); clear hK K)
            | (apply regD; (case hd => (simp only [List.map_cons, List.map_nil]; rfl)); (case hok => rfl); (case' h => (intro K hK; (repeat' first
        | (apply evd_nil; refine (hK _ ?_); clear hK K)
        | (apply evd_guardU0; (case hj | hu | hσ => (simp only [go_sem, d1, hx, hy, q1, q2, q3]; try rfl)))
        | (apply evd_guardU; (case hj | hu | hσ => (simp only [go_sem, d1, hx, hy, q1, q2, q3]; try rfl)))
        | (apply evd_skipT0; (case hj | hb | hσ => (simp only [go_sem, d1, hx, hy, q1, q2, q3]; try rfl)))
        | (apply evd_skipF0; (case hj | hb | hσ => (simp only [go_sem, d1, hx, hy, q1, q2, q3]; try rfl)))
        | (apply evd_skipT; (case hj | hb | hσ => (simp only [go_sem, d1, hx, hy, q1, q2, q3]; try rfl)))
        | (apply evd_skipF; (case hj | hb | hσ => (simp only [go_sem, d1, hx, hy, q1, q2, q3]; try rfl)))
        | (apply evd_guardT; (case hj | hb => (simp only [go_sem, d1, hx, hy, q1, q2, q3]; try rfl)); (case' h2 => (intro hb; first | (cases hb; done) | (simp only [hb]) | skip)); (case' h1 => (intro hb; first | (cases hb; done) | (simp only [hb]) | skip)))
        | (apply evd_guardF; (case hj | hb => (simp only [go_sem, d1, hx, hy, q1, q2, q3]; try rfl)); (case' h2 => (intro hb; first | (cases hb; done) | (simp only [hb]) | skip)); (case' h1 => (intro hb; first | (cases hb; done) | (simp only [hb]) | skip)))
        | (apply evd_step0; (case hr | hi | hσ => (simp only [go_sem, d1, hx, hy, q1, q2, q3]; try rfl)); (case hc => (first | trivial | decide | (simp only [inB, sliceOk, appendOk, rowsOk]; omega) | (simp [inB, sliceOk, appendOk, rowsOk]; omega))))
        | (apply evd_step; (case hr | hi => (simp only [go_sem, d1, hx, hy, q1, q2, q3]; try rfl)); (case hc => (first | trivial | decide | (simp only [inB, sliceOk, appendOk, rowsOk]; omega) | (simp [inB, sliceOk, appendOk, rowsOk]; omega))); (case hw | hσ => (intro g u; simp only [go_sem, d1, hx, hy, q1, q2, q3]; try rfl)); (case' hk => (intro g u; (try clear u); (try clear g))))
        | fail))); (case hB => kernel_rfl))
            | (apply ev_step0; (case hr | hσ => (simp only [go_sem, d1, hx, hy, q1, q2, q3]; try rfl)); (case hc => (first | trivial | decide | (simp only [inB, sliceOk, appendOk, rowsOk]; omega) | (simp [inB, sliceOk, appendOk, rowsOk]; omega))))
            | (apply ev_step; (case hr => (simp only [go_sem, d1, hx, hy, q1, q2, q3]; try rfl)); (case hσ => (intro g u; simp only [go_sem, d1, hx, hy, q1, q2, q3]; try rfl)); (case hc => (first | trivial | decide | (simp only [inB, sliceOk, appendOk, rowsOk]; omega) | (simp [inB, sliceOk, appendOk, rowsOk]; omega))); intro g u; (try clear u); (try clear g))
            | fail
          refine Exists.intro (i + 1) ⟨⟨by omega, by simpa [e1, e2, e3] using hc⟩, by omega, ?_⟩
          refine Wk.mk ?_ ?_
          all_goals (repeat' first | exact trivial | exact LeA.refl _ | exact LeA.any _ | exact LeO.refl _ | exact LeO.no _ | exact LeA.nil _ | exact LeA.nilOwn _ | exact LeO.nil _ _ _ | refine LeO.box ?_ | (refine LeA.i ?_; (first | rfl | (push_cast; rfl) | (rw [wrap_id (by omega)]; push_cast; omega) | (simp [wrap_id]; omega))) | refine ⟨?_, ?_⟩)
        · have q3 : (x3 != y3) = true := by simpa using e3
          have hz : decide (a = b) = false := decide_eq_false fun e => e3 (hc.1 e).1.2.2
          rw [hz]
          repeat' first
            | refine awp_seq ?_
            | refine awp_block ?_
            | refine awp_skip ?_
            | (refine reg _ (by (simp only [List.map_cons, List.map_nil]; rfl)) rfl ?_; intro K hK)
            | (refine awp_cond _ (by rfl) ?_ ?_ <;> (intro hb; first | (cases hb; done) | (have ht : true = true := hb; clear ht hb) | (have ht : false = false := hb; clear ht hb) | (simp only [hb]) | skip))
            | (refine awp_exit ?_; simp only [thenA, blockA, scopeA, reduceIte, RetQ, Nat.reduceEqDiff])
            | (refine awp_ret ?_; simp only [thenA, blockA, scopeA, RetQ])
            | (refine ev_nil (hK _ ?_); clear hK K)
            | (apply regD; (case hd => (simp only [List.map_cons, List.map_nil]; rfl)); (case hok => rfl); (case' h => (intro K hK; (repeat' first
        | (apply evd_nil; refine (hK _ ?_); clear hK K)
        | (apply evd_guardU0; (case hj | hu | hσ => (simp only [go_sem, d1, hx, hy, q1, q2, q3]; try rfl)))
        | (apply evd_guardU; (case hj | hu | hσ => (simp only [go_sem, d1, hx, hy, q1, q2, q3]; try rfl)))
        | (apply evd_skipT0; (case hj | hb | hσ => (simp only [go_sem, d1, hx, hy, q1, q2, q3]; try rfl)))
        | (apply evd_skipF0; (case hj | hb | hσ => (simp only [go_sem, d1, hx, hy, q1, q2, q3]; try rfl)))
        | (apply evd_skipT; (case hj | hb | hσ => (simp only [go_sem, d1, hx, hy, q1, q2, q3]; try rfl)))
        | (apply evd_skipF; (case hj | hb | hσ => (simp only [go_sem, d1, hx, hy, q1, q2, q3]; try rfl)))
        | (apply evd_guardT; (case hj | hb => (simp only [go_sem, d1, hx, hy, q1, q2, q3]; try rfl)); (case' h2 => (intro hb; first | (cases hb; done) | (simp only [hb]) | skip)); (case' h1 => (intro hb; first | (cases hb; done) | (simp only [hb]) | skip)))
        | (apply evd_guardF; (case hj | hb => (simp only [go_sem, d1, hx, hy, q1, q2, q3]; try rfl)); (case' h2 => (intro hb; first | (cases hb; done) | (simp only [hb]) | skip)); (case' h1 => (intro hb; first | (cases hb; done) | (simp only [hb]) | skip)))
        | (apply evd_step0; (case hr | hi | hσ => (simp only [go_sem, d1, hx, hy, q1, q2, q3]; try rfl)); (case hc => (first | trivial | decide | (simp only [inB, sliceOk, appendOk, rowsOk]; omega) | (simp [inB, sliceOk, appendOk, rowsOk]; omega))))
        | (apply evd_step; (case hr | hi => (simp only [go_sem, d1, hx, hy, q1, q2, q3]; try rfl)); (case hc => (first | trivial | decide | (simp only [inB, sliceOk, appendOk, rowsOk]; omega) | (simp [inB, sliceOk, appendOk, rowsOk]; omega))); (case hw | hσ => (intro g u; simp only [go_sem, d1, hx, hy, q1, q2, q3]; try rfl)); (case' hk => (intro g u; (try clear u); (try clear g))))
        | fail))); (case hB => kernel_rfl))
            | (apply ev_step0; (case hr | hσ => (simp only [go_sem, d1, hx, hy, q1, q2, q3]; try rfl)); (case hc => (first | trivial | decide | (simp only [inB, sliceOk, appendOk, rowsOk]; omega) | (simp [inB, sliceOk, appendOk, rowsOk]; omega))))
            | (apply ev_step; (case hr => (simp only [go_sem, d1, hx, hy, q1, q2, q3]; try rfl)); (case hσ => (intro g u; simp only [go_sem, d1, hx, hy, q1, q2, q3]; try rfl)); (case hc => (first | trivial | decide | (simp only [inB, sliceOk, appendOk, rowsOk]; omega) | (simp [inB, sliceOk, appendOk, rowsOk]; omega))); intro g u; (try clear u); (try clear g))
            | fail
          all_goals (refine resR_one T_ok rfl _ (by (simp only [go_sem, resA]; rfl)) (by first | trivial | (simp only [go_sem, resA])) (by first | trivial | (simp only [go_sem])) ?_; simp only [go_sem])
          exact LeA.refl _
      · have q2 : (x2 != y2) = true := by simpa using e2
        have hz : decide (a = b) = false := decide_eq_false fun e => e2 (hc.1 e).1.2.1
        rw [hz]
        repeat' first
          | refine awp_seq ?_
          | refine awp_block ?_
          | refine awp_skip ?_
          | (refine reg _ (by (simp only [List.map_cons, List.map_nil]; rfl)) rfl ?_; intro K hK)
          | (refine awp_cond _ (by rfl) ?_ ?_ <;> (intro hb; first | (cases hb; done) | (have ht : true = true := hb; clear ht hb) | (have ht : false = false := hb; clear ht hb) | (simp only [hb]) | skip))
          | (refine awp_exit ?_; simp only [thenA, blockA, scopeA, reduceIte, RetQ, Nat.reduceEqDiff])
          | (refine awp_ret ?_; simp only [thenA, blockA, scopeA, RetQ])
          | (refine ev_nil (hK _ ?_); clear hK K)
          | (apply regD; (case hd => (simp only [List.map_cons, List.map_nil]; rfl)); (case hok => rfl); (case' h => (intro K hK; (repeat' first
        | (apply evd_nil; refine (hK _ ?_); clear hK K)
        | (apply evd_guardU0; (case hj | hu | hσ => (simp only [go_sem, d1, hx, hy, q1, q2]; try rfl)))
        | (apply evd_guardU; (case hj | hu | hσ => (simp only [go_sem, d1, hx, hy, q1, q2]; try rfl)))
        | (apply evd_skipT0; (case hj | hb | hσ => (simp only [go_sem, d1, hx, hy, q1, q2]; try rfl)))
        | (apply evd_skipF0; (case hj | hb | hσ => (simp only [go_sem, d1, hx, hy, q1, q2]; try rfl)))
        | (apply evd_skipT; (case hj | hb | hσ => (simp only [go_sem, d1, hx, hy, q1, q2]; try rfl)))
        | (apply evd_skipF; (case hj | hb | hσ => (simp only [go_sem, d1, hx, hy, q1, q2]; try rfl)))
        | (apply evd_guardT; (case hj | hb => (simp only [go_sem, d1, hx, hy, q1, q2]; try rfl)); (case' h2 => (intro hb; first | (cases hb; done) | (simp only [hb]) | skip)); (case' h1 => (intro hb; first | (cases hb; done) | (simp only [hb]) | skip)))
        | (apply evd_guardF; (case hj | hb => (simp only [go_sem, d1, hx, hy, q1, q2]; try rfl)); (case' h2 => (intro hb; first | (cases hb; done) | (simp only [hb]) | skip)); (case' h1 => (intro hb; first | (cases hb; done) | (simp only [hb]) | skip)))
        | (apply evd_step0; (case hr | hi | hσ => (simp only [go_sem, d1, hx, hy, q1, q2]; try rfl)); (case hc => (first | trivial | decide | (simp only [inB, sliceOk, appendOk, rowsOk]; omega) | (simp [inB, sliceOk, appendOk, rowsOk]; omega))))
        | (apply evd_step; (case hr | hi => (simp only [go_sem, d1, hx, hy, q1, q2]; try rfl)); (case hc => (first | trivial | decide | (simp only [inB, sliceOk, appendOk, rowsOk]; omega) | (simp [inB, sliceOk, appendOk, rowsOk]; omega))); (case hw | hσ => (intro g u; simp only [go_sem, d1, hx, hy, q1, q2]; try rfl)); (case' hk => (intro g u; (try clear u); (try clear g))))
        | fail))); (case hB => kernel_rfl))
          | (apply ev_step0; (case hr | hσ => (simp only [go_sem, d1, hx, hy, q1, q2]; try rfl)); (case hc => (first | trivial | decide | (simp only [inB, sliceOk, appendOk, rowsOk]; omega) | (simp [inB, sliceOk, appendOk, rowsOk]; omega))))
          | (apply ev_step; (case hr => (simp only [go_sem, d1, hx, hy, q1, q2]; try rfl)); (case hσ => (intro g u; simp only [go_sem, d1, hx, hy, q1, q2]; try rfl)); (case hc => (first | trivial | decide | (simp only [inB, sliceOk, appendOk, rowsOk]; omega) | (simp [inB, sliceOk, appendOk, rowsOk]; omega))); intro g u; (try clear u); (try clear g))
          | fail
        all_goals (refine resR_one T_ok rfl _ (by (simp only [go_sem, resA]; rfl)) (by first | trivial | (simp only [go_sem, resA])) (by first | trivial | (simp only [go_sem])) ?_; simp only [go_sem])
        exact LeA.refl _
    · have q1 : (x1 != y1) = true := by simpa using e1
      have hz : decide (a = b) = false := decide_eq_false fun e => e1 (hc.1 e).1.1
      rw [hz]
      repeat' first
        | refine awp_seq ?_
        | refine awp_block ?_
        | refine awp_skip ?_
        | (refine reg _ (by (simp only [List.map_cons, List.map_nil]; rfl)) rfl ?_; intro K hK)
        | (refine awp_cond _ (by rfl) ?_ ?_ <;> (intro hb; first | (cases hb; done) | (have ht : true = true := hb; clear ht hb) | (have ht : false = false := hb; clear ht hb) | (simp only [hb]) | skip))
        | (refine awp_exit ?_; simp only [thenA, blockA, scopeA, reduceIte, RetQ, Nat.reduceEqDiff])
        | (refine awp_ret ?_; simp only [thenA, blockA, scopeA, RetQ])
        | (refine ev_nil (hK _ ?_); clear hK K)
        | (apply regD; (case hd => (simp only [List.map_cons, List.map_nil]; rfl)); (case hok => rfl); (case' h => (intro K hK; (repeat' first
        | (apply evd_nil; refine (hK _ ?_); clear hK K)
        | (apply evd_guardU0; (case hj | hu | hσ => (simp only [go_sem, d1, hx, hy, q1]; try rfl)))
        | (apply evd_guardU; (case hj | hu | hσ => (simp only [go_sem, d1, hx, hy, q1]; try rfl)))
        | (apply evd_skipT0; (case hj | hb | hσ => (simp only [go_sem, d1, hx, hy, q1]; try rfl)))
        | (apply evd_skipF0; (case hj | hb | hσ => (simp only [go_sem, d1, hx, hy, q1]; try rfl)))
        | (apply evd_skipT; (case hj | hb | hσ => (simp only [go_sem, d1, hx, hy, q1]; try rfl)))
        | (apply evd_skipF; (case hj | hb | hσ => (simp only [go_sem, d1, hx, hy, q1]; try rfl)))
        | (apply evd_guardT; (case hj | hb => (simp only [go_sem, d1, hx, hy, q1]; try rfl)); (case' h2 => (intro hb; first | (cases hb; done) | (simp only [hb]) | skip)); (case' h1 => (intro hb; first | (cases hb; done) | (simp only [hb]) | skip)))
        | (apply evd_guardF; (case hj | hb => (simp only [go_sem, d1, hx, hy, q1]; try rfl)); (case' h2 => (intro hb; first | (cases hb; done) | (simp only [hb]) | skip)); (case' h1 => (intro hb; first | (cases hb; done) | (simp only [hb]) | skip)))
        | (apply evd_step0; (case hr | hi | hσ => (simp only [go_sem, d1, hx, hy, q1]; try rfl)); (case hc => (first | trivial | decide | (simp only [inB, sliceOk, appendOk, rowsOk]; omega) | (simp [inB, sliceOk, appendOk, rowsOk]; omega))))
        | (apply evd_step; (case hr | hi => (simp only [go_sem, d1, hx, hy, q1]; try rfl)); (case hc => (first | trivial | decide | (simp only [inB, sliceOk, appendOk, rowsOk]; omega) | (simp [inB, sliceOk, appendOk, rowsOk]; omega))); (case hw | hσ => (intro g u; simp only [go_sem, d1, hx, hy, q1]; try rfl)); (case' hk => (intro g u; (try clear u); (try clear g))))
        | fail))); (case hB => kernel_rfl))
        | (apply ev_step0; (case hr | hσ => (simp only [go_sem, d1, hx, hy, q1]; try rfl)); (case hc => (first | trivial | decide | (simp only [inB, sliceOk, appendOk, rowsOk]; omega) | (simp [inB, sliceOk, appendOk, rowsOk]; omega))))
        | (apply ev_step; (case hr => (simp only [go_sem, d1, hx, hy, q1]; try rfl)); (case hσ => (intro g u; simp only [go_sem, d1, hx, hy, q1]; try rfl)); (case hc => (first | trivial | decide | (simp only [inB, sliceOk, appendOk, rowsOk]; omega) | (simp [inB, sliceOk, appendOk, rowsOk]; omega))); intro g u; (try clear u); (try clear g))
        | fail
      all_goals (refine resR_one T_ok rfl _ (by (simp only [go_sem, resA]; rfl)) (by first | trivial | (simp only [go_sem, resA])) (by first | trivial | (simp only [go_sem])) ?_; simp only [go_sem])
      exact LeA.refl _
  · have d1 : decide ((i : Int) < (a.length : Int)) = false := decide_eq_false (by omega)
    rw [List.drop_eq_nil_of_le (by omega), List.drop_eq_nil_of_le (by omega)] at hc
    repeat' first
      | refine awp_seq ?_
      | refine awp_block ?_
      | refine awp_skip ?_
      | (refine reg _ (by (simp only [List.map_cons, List.map_nil]; rfl)) rfl ?_; intro K hK)
      | (refine awp_cond _ (by rfl) ?_ ?_ <;> (intro hb; first | (cases hb; done) | (have ht : true = true := hb; clear ht hb) | (have ht : false = false := hb; clear ht hb) | (simp only [hb]) | skip))
      | (refine awp_exit ?_; simp only [thenA, blockA, scopeA, reduceIte, RetQ, Nat.reduceEqDiff])
      | (refine awp_ret ?_; simp only [thenA, blockA, scopeA, RetQ])
      | (refine ev_nil (hK _ ?_); clear hK K)
      | (apply ev_step0; (case hr | hσ => (simp only [go_sem, d1]; try rfl)); (case hc => (first | trivial | decide | (simp only [inB, sliceOk, appendOk, rowsOk]; omega) | (simp [inB, sliceOk, appendOk, rowsOk]; omega))))
      | (apply ev_step; (case hr => (simp only [go_sem, d1]; try rfl)); (case hσ => (intro g u; simp only [go_sem, d1]; try rfl)); (case hc => (first | trivial | decide | (simp only [inB, sliceOk, appendOk, rowsOk]; omega) | (simp [inB, sliceOk, appendOk, rowsOk]; omega))); intro g u; (try clear u); (try clear g))
      | fail
    all_goals (refine resR_one T_ok rfl _ (by (simp only [go_sem, resA]; rfl)) (by first | trivial | (simp only [go_sem, resA])) (by first | trivial | (simp only [go_sem])) ?_; simp only [go_sem])
    exact LeA.b (decide_eq_true (hc.2 rfl)).symm
def refsM : List Bk → Nat
  | [] => 0
  | x :: l => (if decide (x.1 ≥ 0) = true then 1 else 0) + refsM l
theorem refsM_le : ∀ l : List Bk, refsM l ≤ l.length
  | [] => by simp [refsM]
  | x :: l => by
    have := refsM_le l
    simp only [refsM, List.length_cons]
    split <;> omega
theorem refsM_take (l : List Bk) {i : Nat} (h : i < l.length) : refsM (l.take (i + 1)) = refsM (l.take i) + (if decide ((l.getD i (0, 0, 0)).1 ≥ 0) = true then 1 else 0) := by
  have hs : ∀ (l : List Bk) (x : Bk), refsM (l ++ [x]) = refsM l + (if decide (x.1 ≥ 0) = true then 1 else 0) := fun l x => by
    induction l with
    | nil => simp [refsM]
    | cons y l ih => simp only [List.cons_append, refsM, ih]; omega
  rw [take_succ' l (0, 0, 0) h, hs]
theorem f27_spec (a : List Bk) : Spec Try.prog 27 [.d (bksD a)] (litI .i64 (refsM a : Int)) := by
  refine spec_of_awp (fn := Try.f27) Try.func27 (by kernel_rfl) rfl ?_
  intro w0 C0
  simp only [Try.ntmps27, litI, litB, litS, List.length_cons, List.length_nil, Nat.reduceAdd, Nat.reduceSub, List.replicate_succ, List.replicate_zero, List.cons_append, List.nil_append]
  refine awp_len 0 rfl fun hll => ?_
  simp only [List.length_map] at hll
  repeat' first
    | refine awp_seq ?_
    | refine awp_block ?_
    | refine awp_skip ?_
    | (refine reg _ (by (simp only [List.map_cons, List.map_nil]; rfl)) rfl ?_; intro K hK)
    | (refine awp_cond _ (by rfl) ?_ ?_ <;> (intro hb; first | (cases hb; done) | (have ht : true = true := hb; clear ht hb) | (have ht : false = false := hb; clear ht hb) | (simp only [hb]) | skip))
    | (refine awp_exit ?_; simp only [thenA, blockA, scopeA, reduceIte, RetQ, Nat.reduceEqDiff])
    | (refine awp_ret ?_; simp only [thenA, blockA, scopeA, RetQ])
    | (refine ev_nil (hK _ ?_); clear hK K)
    | (apply ev_step0; (case hr | hσ => (simp only [go_sem]; try rfl)); (case hc => (first | trivial | decide | (simp only [inB, sliceOk, appendOk, rowsOk]; omega) | (simp [inB, sliceOk, appendOk, rowsOk]; omega))))
    | (apply ev_step; (case hr => (simp only [go_sem]; try rfl)); (case hσ => (intro g u; simp only [go_sem]; try rfl)); (case hc => (first | trivial | decide | (simp only [inB, sliceOk, appendOk, rowsOk]; omega) | (simp [inB, sliceOk, appendOk, rowsOk]; omega))); intro g u; (try clear u); (try clear g))
    | fail
  refine awp_loopI (fun i : Nat => i ≤ a.length) (fun i => a.length - i) (fun i => ⟨[.d (bksD a), .any, .any, litI .i64 (refsM (a.take i) : Int), litI .i64 i, .any, .any, .any, .any, .any, .any, .any, .any, .any, .any, .any, .any, .any, .any, .any], [.no, .no, .no, .no, .no, .no, .no, .no, .no, .no, .no, .no, .no, .no, .no, .no, .no, .no, .no, .no]⟩) 0 (by omega) ?_ ?_
  · refine Wk.mk ?_ ?_
    all_goals (repeat' first | exact trivial | exact LeA.refl _ | exact LeA.any _ | exact LeO.refl _ | exact LeO.no _ | exact LeA.nil _ | exact LeA.nilOwn _ | exact LeO.nil _ _ _ | refine LeO.box ?_ | (refine LeA.i ?_; (first | rfl | (push_cast; rfl) | (rw [wrap_id (by omega)]; push_cast; omega) | (simp [wrap_id]; omega))) | refine ⟨?_, ?_⟩)
  intro i hi
  simp only [litI, litB] at hi ⊢
  by_cases h1 : i < a.length
  · have d1 : decide ((i : Int) < (a.length : Int)) = true := decide_eq_true (by omega)
    have hx := bks_at a h1
    have hS := refsM_take a h1
    have hle := refsM_le (a.take i)
    have hlt : (a.take i).length = i := by simp; omega
    generalize a.getD i (0, 0, 0) = x at *
    generalize refsM (a.take i) = n at *
    cases hc : decide (x.1 ≥ 0) with
    | true =>
      rw [hc, if_pos rfl] at hS
      repeat' first
        | refine awp_seq ?_
        | refine awp_block ?_
        | refine awp_skip ?_
        | (refine reg _ (by (simp only [List.map_cons, List.map_nil]; rfl)) rfl ?_; intro K hK)
        | (refine awp_cond _ (by rfl) ?_ ?_ <;> (intro hb; first | (cases hb; done) | (have ht : true = true := hb; clear ht hb) | (have ht : false = false := hb; clear ht hb) | (simp only [hb]) | skip))
        | (refine awp_exit ?_; simp only [thenA, blockA, scopeA, reduceIte, RetQ, Nat.reduceEqDiff])
        | (refine awp_ret ?_; simp only [thenA, blockA, scopeA, RetQ])
        | (refine ev_nil (hK _ ?_); clear hK K)
        | (apply ev_step0; (case hr | hσ => (simp only [go_sem, d1, hx, hc]; try rfl)); (case hc => (first | trivial | decide | (simp only [inB, sliceOk, appendOk, rowsOk]; omega) | (simp [inB, sliceOk, appendOk, rowsOk]; omega))))
        | (apply ev_step; (case hr => (simp only [go_sem, d1, hx, hc]; try rfl)); (case hσ => (intro g u; simp only [go_sem, d1, hx, hc]; try rfl)); (case hc => (first | trivial | decide | (simp only [inB, sliceOk, appendOk, rowsOk]; omega) | (simp [inB, sliceOk, appendOk, rowsOk]; omega))); intro g u; (try clear u); (try clear g))
        | fail
      refine Exists.intro (i + 1) ⟨by omega, by omega, ?_⟩
      simp only [hS]
      refine Wk.mk ?_ ?_
      all_goals (repeat' first | exact trivial | exact LeA.refl _ | exact LeA.any _ | exact LeO.refl _ | exact LeO.no _ | exact LeA.nil _ | exact LeA.nilOwn _ | exact LeO.nil _ _ _ | refine LeO.box ?_ | (refine LeA.i ?_; (first | rfl | (push_cast; rfl) | (rw [wrap_id (by omega)]; push_cast; omega) | (simp [wrap_id]; omega))) | refine ⟨?_, ?_⟩)
    | false =>
      rw [hc, if_neg Bool.false_ne_true, Nat.add_zero] at hS
      repeat' first
        | refine awp_seq ?_
        | refine awp_block ?_
        | refine awp_skip ?_
        | (refine reg _ (by (simp only [List.map_cons, List.map_nil]; rfl)) rfl ?_; intro K hK)
        | (refine awp_cond _ (by rfl) ?_ ?_ <;> (intro hb; first | (cases hb; done) | (have ht : true = true := hb; clear ht hb) | (have ht : false = false := hb; clear ht hb) | (simp only [hb]) | skip))
        | (refine awp_exit ?_; simp only [thenA, blockA, scopeA, reduceIte, RetQ, Nat.reduceEqDiff])
        | (refine awp_ret ?_; simp only [thenA, blockA, scopeA, RetQ])
        | (refine ev_nil (hK _ ?_); clear hK K)
        | (apply ev_step0; (case hr | hσ => (simp only [go_sem, d1, hx, hc]; try rfl)); (case hc => (first | trivial | decide | (simp only [inB, sliceOk, appendOk, rowsOk]; omega) | (simp [inB, sliceOk, appendOk, rowsOk]; omega))))
        | (apply ev_step; (case hr => (simp only [go_sem, d1, hx, hc]; try rfl)); (case hσ => (intro g u; simp only [go_sem, d1, hx, hc]; try rfl)); (case hc => (first | trivial | decide | (simp only [inB, sliceOk, appendOk, rowsOk]; omega) | (simp [inB, sliceOk, appendOk, rowsOk]; omega))); intro g u; (try clear u); (try clear g))
        | fail
      refine Exists.intro (i + 1) ⟨by omega, by omega, ?_⟩
      simp only [hS]
      refine Wk.mk ?_ ?_
      all_goals (repeat' first | exact trivial | exact LeA.refl _ | exact LeA.any _ | exact LeO.refl _ | exact LeO.no _ | exact LeA.nil _ | exact LeA.nilOwn _ | exact LeO.nil _ _ _ | refine LeO.box ?_ | (refine LeA.i ?_; (first | rfl | (push_cast; rfl) | (rw [wrap_id (by omega)]; push_cast; omega) | (simp [wrap_id]; omega))) | refine ⟨?_, ?_⟩)
  · have d1 : decide ((i : Int) < (a.length : Int)) = false := decide_eq_false (by omega)
    have : i = a.length := by omega
    subst this
    rw [List.take_length]
    repeat' first
      | refine awp_seq ?_
      | refine awp_block ?_
      | refine awp_skip ?_
      | (refine reg _ (by (simp only [List.map_cons, List.map_nil]; rfl)) rfl ?_; intro K hK)
      | (refine awp_cond _ (by rfl) ?_ ?_ <;> (intro hb; first | (cases hb; done) | (have ht : true = true := hb; clear ht hb) | (have ht : false = false := hb; clear ht hb) | (simp only [hb]) | skip))
      | (refine awp_exit ?_; simp only [thenA, blockA, scopeA, reduceIte, RetQ, Nat.reduceEqDiff])
      | (refine awp_ret ?_; simp only [thenA, blockA, scopeA, RetQ])
      | (refine ev_nil (hK _ ?_); clear hK K)
      | (apply ev_step0; (case hr | hσ => (simp only [go_sem, d1]; try rfl)); (case hc => (first | trivial | decide | (simp only [inB, sliceOk, appendOk, rowsOk]; omega) | (simp [inB, sliceOk, appendOk, rowsOk]; omega))))
      | (apply ev_step; (case hr => (simp only [go_sem, d1]; try rfl)); (case hσ => (intro g u; simp only [go_sem, d1]; try rfl)); (case hc => (first | trivial | decide | (simp only [inB, sliceOk, appendOk, rowsOk]; omega) | (simp [inB, sliceOk, appendOk, rowsOk]; omega))); intro g u; (try clear u); (try clear g))
      | fail
    all_goals (refine resR_one T_ok rfl _ (by (simp only [go_sem, resA]; rfl)) (by first | trivial | (simp only [go_sem, resA])) (by first | trivial | (simp only [go_sem])) ?_; simp only [go_sem])
    exact LeA.refl _
abbrev numC (k : Int) (v : Vl) : Rw := [⟨⟨2, k, ⟨#[]⟩⟩, 0, 0⟩, ⟨v, 0, 0⟩]
theorem f30_spec (k : Int) (v : Vl) : Spec Try.prog 30 [litI .i64 k, .agg (vl v)] (.agg (rwA (numC k v))) := by
  refine spec_of_awp (fn := Try.f30) Try.func30 (by kernel_rfl) rfl ?_
  intro w0 C0
  simp only [Try.ntmps30, litI, litB, litS, List.length_cons, List.length_nil, Nat.reduceAdd, Nat.reduceSub, List.replicate_succ, List.replicate_zero, List.cons_append, List.nil_append]
  repeat' first
    | refine awp_seq ?_
    | refine awp_block ?_
    | refine awp_skip ?_
    | (refine reg _ (by (simp only [List.map_cons, List.map_nil]; rfl)) rfl ?_; intro K hK)
    | (refine awp_cond _ (by rfl) ?_ ?_ <;> (intro hb; first | (cases hb; done) | (have ht : true = true := hb; clear ht hb) | (have ht : false = false := hb; clear ht hb) | (simp only [hb]) | skip))
    | (refine awp_exit ?_; simp only [thenA, blockA, scopeA, reduceIte, RetQ, Nat.reduceEqDiff])
    | (refine awp_ret ?_; simp only [thenA, blockA, scopeA, RetQ])
    | (refine ev_nil (hK _ ?_); clear hK K)
    | (apply regD; (case hd => (simp only [List.map_cons, List.map_nil]; rfl)); (case hok => rfl); (case' h => (intro K hK; (repeat' first
        | (apply evd_nil; refine (hK _ ?_); clear hK K)
        | (apply evd_call0; (case hi | hys => (simp only [go_sem]; try rfl)); (case hs => first | exact f29_spec ..); (case hok | hw | hσ => (simp only [go_sem]; try rfl)))
        | (apply evd_step0; (case hr | hi | hσ => (simp only [go_sem]; try rfl)); (case hc => (first | trivial | decide | (simp only [inB, sliceOk, appendOk, rowsOk]; omega) | (simp [inB, sliceOk, appendOk, rowsOk]; omega))))
        | (apply evd_step; (case hr | hi => (simp only [go_sem]; try rfl)); (case hc => (first | trivial | decide | (simp only [inB, sliceOk, appendOk, rowsOk]; omega) | (simp [inB, sliceOk, appendOk, rowsOk]; omega))); (case hw | hσ => (intro g u; simp only [go_sem]; try rfl)); (case' hk => (intro g u; (try clear u); (try clear g))))
        | fail))); (case hB => kernel_rfl))
    | (apply ev_step0; (case hr | hσ => (simp only [go_sem]; try rfl)); (case hc => (first | trivial | decide | (simp only [inB, sliceOk, appendOk, rowsOk]; omega) | (simp [inB, sliceOk, appendOk, rowsOk]; omega))))
    | (apply ev_step; (case hr => (simp only [go_sem]; try rfl)); (case hσ => (intro g u; simp only [go_sem]; try rfl)); (case hc => (first | trivial | decide | (simp only [inB, sliceOk, appendOk, rowsOk]; omega) | (simp [inB, sliceOk, appendOk, rowsOk]; omega))); intro g u; (try clear u); (try clear g))
    | fail
  all_goals (refine resR_one T_ok rfl _ (by (simp only [go_sem, resA]; rfl)) (by first | trivial | (simp only [go_sem, resA])) (by first | trivial | (simp only [go_sem])) ?_; simp only [go_sem])
  exact LeA.agg ⟨LeA.s rfl, LeA.refl _, LeA.refl _, trivial⟩
end
section
set_option linter.unusedVariables false
set_option linter.unusedSimpArgs false
open Go.RowKit
abbrev num (n : Int) : Vl := ⟨2, n, ⟨#[]⟩⟩
abbrev exCols : List Col := [⟨⟨#[107]⟩, ⟨2, 0, false⟩, 0, num 0⟩, ⟨⟨#[118]⟩, ⟨2, 0, true⟩, 0, nullV⟩]
abbrev exT : Tb := ⟨⟨#[116]⟩, exCols, 1, 0, false⟩
abbrev exU : Tb := ⟨⟨#[117]⟩, exCols, 1, 0, false⟩
abbrev exS : Sch := ⟨[exT, exU], [⟨1, 1, 0⟩], []⟩
abbrev exZ : Sch := ⟨[exT, exU], [], [⟨1, 1, 0, 9⟩]⟩
abbrev exBad : Stt := [[], [numC 7 (num 5)]]
abbrev exGood : Stt := [[numC 5 nullV], [numC 7 (num 5)]]
abbrev exNull : Stt := [[], [numC 7 nullV]]
abbrev exTwo : Stt := [[], [numC 7 (num 5), numC 8 (num 5)]]
theorem ex_types {rs : List Rf} {ts : List Tt} : ∀ t ∈ (⟨[exT, exU], rs, ts⟩ : Sch).tables, ∀ c ∈ t.cols, 0 ≤ c.ty.scale ∧ c.ty.scale ≤ 6 := by
  intro t ht c hc
  simp only [List.mem_cons, List.not_mem_nil, or_false] at ht
  rcases ht with rfl | rfl <;>
  · simp only [exT, exU, exCols, List.mem_cons, List.not_mem_nil, or_false] at hc
    rcases hc with rfl | rfl <;> decide
theorem two {p : Nat → Prop} (h0 : p 0) (h1 : p 1) : ∀ t, t < 2 → p t := fun t ht => by
  match t, ht with
  | 0, _ => exact h0
  | 1, _ => exact h1
theorem exS_ok : SchOk exS where
  tlen := by decide
  keys := two (by decide) (by decide)
  types := ex_types
  rlen := by decide
  refs := fun r hr => by
    simp only [List.mem_singleton] at hr
    subst hr; decide
  totlen := by decide
  tots := fun t ht => by simp at ht
theorem exZ_ok : SchOk exZ where
  tlen := by decide
  keys := two (by decide) (by decide)
  types := ex_types
  rlen := by decide
  refs := fun r hr => by simp at hr
  totlen := by decide
  tots := fun t ht => by
    simp only [List.mem_singleton] at ht
    subst ht; decide
theorem cl_ok (k i : Int) (h : -10 ≤ i ∧ i ≤ 10) : ClOk ⟨⟨k, i, ⟨#[]⟩⟩, 0, 0⟩ := ⟨by show (0 : Nat) ≤ _; omega, by show _ ≤ i; omega, by show i ≤ _; omega⟩
theorem numC_ok (k j i : Int) (hk : -10 ≤ k ∧ k ≤ 10) (hi : -10 ≤ i ∧ i ≤ 10) : RowOk 2 (numC k ⟨j, i, ⟨#[]⟩⟩) := ⟨rfl, fun c hc => by
  simp only [numC, List.mem_cons, List.not_mem_nil, or_false] at hc
  rcases hc with rfl | rfl
  · exact cl_ok _ _ hk
  · exact cl_ok _ _ hi⟩
theorem ex_st {rs : List Rf} {ts : List Tt} {st : Stt} (hl : st.length = 2) (h0 : (st.getD 0 []).length ≤ 1000) (h1 : (st.getD 1 []).length ≤ 1000) (k0 : ∀ r ∈ st.getD 0 [], RowOk 2 r) (k1 : ∀ r ∈ st.getD 1 [], RowOk 2 r) (s0 : Srt 1 (st.getD 0 [])) (s1 : Srt 1 (st.getD 1 [])) : StS ⟨[exT, exU], rs, ts⟩ st :=
  ⟨⟨hl, two h0 h1, two k0 k1⟩, two s0 s1⟩
theorem exBad_ok : StS exS exBad := ex_st rfl (by decide) (by decide) (fun r hr => by simp at hr) (fun r hr => by simp at hr; subst hr; exact numC_ok _ _ _ (by decide) (by decide)) (by simp [Srt]) (by simp [Srt])
theorem exGood_ok : StS exS exGood := ex_st rfl (by decide) (by decide) (fun r hr => by simp at hr; subst hr; exact numC_ok _ _ _ (by decide) (by decide)) (fun r hr => by simp at hr; subst hr; exact numC_ok _ _ _ (by decide) (by decide)) (by simp [Srt]) (by simp [Srt])
theorem exNull_ok : StS exS exNull := ex_st rfl (by decide) (by decide) (fun r hr => by simp at hr) (fun r hr => by simp at hr; subst hr; exact numC_ok _ _ _ (by decide) (by decide)) (by simp [Srt]) (by simp [Srt])
theorem exTwo_ok : StS exZ exTwo := ex_st rfl (by decide) (by decide) (fun r hr => by simp at hr) (fun r hr => by simp at hr; rcases hr with rfl | rfl <;> exact numC_ok _ _ _ (by decide) (by decide)) (by simp [Srt]) (by simp only [Srt]; refine List.pairwise_cons.2 ⟨fun x hx => ?_, by simp⟩; simp at hx; subst hx; decide)
theorem ex1 : checkR exS exBad = [(0, 0, -1)] := by decide +kernel
theorem ex2 : holdsM exS exGood = true := by decide +kernel
theorem ex3 : holdsM exS exNull = true := by decide +kernel
theorem ex4 : holdsM exS exBad = false := by decide +kernel
theorem ex5 : keepsM exS exNull exGood = true := by decide +kernel
theorem ex6 : keepsM exS exGood exBad = false := by decide +kernel
theorem ex7 : keepsM exS exBad exGood = false := by decide +kernel
theorem ex8 : checkR exZ exTwo = [(-1, -1, 0)] := by decide +kernel
theorem ex9 : sumIn exZ exTwo 0 = (10, 0) := by decide +kernel
theorem ex10 : sumIn exZ exTwo 1 = (0, 1) := by decide +kernel
theorem ex11 : refdR exS exGood 0 [num 5] = true := by decide +kernel
theorem ex12 : refdR exS exGood 0 [num 7] = false := by decide +kernel
theorem LeR.cons {r r' : List Dat} {rs rs' : List (List Dat)} (h : ∀ m vs, DatL m r vs → DatL m r' vs) (hl : r.length = r'.length) (hs : LeR rs rs') : LeR (r :: rs) (r' :: rs') :=
  ⟨by simp [hs.1], fun m sz xs hx => ⟨by rw [← hl]; exact hx.1, h _ _ hx.2.1, hs.2 _ _ _ hx.2.2⟩⟩
theorem LeR.refl (rs : List (List Dat)) : LeR rs rs := ⟨rfl, fun _ _ _ h => h⟩
theorem LeR.nil1 (sz : Nat) {rs rs' : List (List Dat)} (h : LeR rs rs') : LeR ([.lit (.slice none 0 0)] :: rs) ([.sl sz []] :: rs') :=
  LeR.cons (fun m vs hv => by
    match vs, hv with
    | [y], h2 =>
      simp only [DatL] at h2 ⊢
      refine ⟨?_, trivial⟩
      have h4 := LeA.nil sz m y (by simp only [Has]; exact h2.1)
      simpa only [Has] using h4) rfl h
end
section
set_option linter.unusedVariables false
set_option linter.unusedSimpArgs false
open Go.RowKit
attribute [local irreducible] AWp evOps evD
set_option maxHeartbeats 16000000 in
set_option maxRecDepth 10000 in
theorem f9_spec : Spec Try.prog 9 [] (litB true) := by
  have r75 := f30_spec 7 (num 5)
  have r5n := f30_spec 5 nullV
  have r7n := f30_spec 7 nullV
  have r85 := f30_spec 8 (num 5)
  refine spec_of_awp (fn := Try.f9) Try.func9 (by kernel_rfl) rfl ?_
  intro w0 C0
  simp only [Try.ntmps9, litI, litB, litS, List.length_cons, List.length_nil, Nat.reduceAdd, Nat.reduceSub, List.replicate_succ, List.replicate_zero, List.cons_append, List.nil_append]
  repeat' first
    | ((fail_if_success show AWp _ (Code.seq (Code.region 7 _ _) _) _ _); refine awp_seq ?_)
    | refine awp_block ?_
    | refine awp_skip ?_
    | (refine reg _ (by (simp only [List.map_cons, List.map_nil]; rfl)) rfl ?_; intro K hK)
    | (refine awp_cond _ (by rfl) ?_ ?_ <;> (intro hb; first | (cases hb; done) | (have ht : true = true := hb; clear ht hb) | (have ht : false = false := hb; clear ht hb) | (simp only [hb]) | skip))
    | (refine awp_exit ?_; simp only [thenA, blockA, scopeA, reduceIte, RetQ, Nat.reduceEqDiff])
    | (refine awp_ret ?_; simp only [thenA, blockA, scopeA, RetQ])
    | (refine ev_nil (hK _ ?_); clear hK K)
    | (apply ev_guardU; (case hj | hu | hσ => (simp only [go_sem]; try rfl)))
    | (refine ev_guardT _ _ (by (simp only [go_sem]; rfl)) (by (simp only [go_sem]; rfl)) ?_ ?_ <;> (intro hb; first | (cases hb; done) | (have ht : true = true := hb; clear ht hb) | (have ht : false = false := hb; clear ht hb) | (simp only [hb]) | skip))
    | (refine ev_guardF _ _ (by (simp only [go_sem]; rfl)) (by (simp only [go_sem]; rfl)) ?_ ?_ <;> (intro hb; first | (cases hb; done) | (have ht : true = true := hb; clear ht hb) | (have ht : false = false := hb; clear ht hb) | (simp only [hb]) | skip))
    | (apply ev_call0; (case hys => (simp only [go_sem]; try rfl)); (case hs => first | exact f28_spec .. | exact f29_spec .. | exact f31_spec .. | exact r75 .. | exact r5n .. | exact r7n .. | exact r85 ..); (case hok | hσ => (simp only [go_sem]; try rfl)))
    | (apply ev_step0; (case hr | hσ => (simp only [go_sem]; try rfl)); (case hc => (first | trivial | decide | (simp only [inB, sliceOk, appendOk, rowsOk]; omega) | (simp [inB, sliceOk, appendOk, rowsOk]; omega))))
    | (apply ev_step; (case hr => (simp only [go_sem]; try rfl)); (case hσ => (intro g u; simp only [go_sem]; try rfl)); (case hc => (first | trivial | decide | (simp only [inB, sliceOk, appendOk, rowsOk]; omega) | (simp [inB, sliceOk, appendOk, rowsOk]; omega))); intro g u; (try clear u); (try clear g))
    | fail
  rename_i g1 g2 u18 g3 g4 u24 u26 g5 u30 u31 u35 u38 u39 u43 g6 g7
  refine awp_wk (σ' := ⟨[.any, .any, .any, .any, .any, .ptr 5 g5 0, .ptr 6 g6 0, .ptr 7 g7 0, .ptr 8 g 0, .any, .any, .any, .any, .any, .any, .any, .any, .any, .any, .any, .any, .any, .any, .any, .any, .any, .any, .any, .any, .any, .any, .any, .any, .any, .any, .any, .any, .any, .any, .any, .any, .any, .any, .any, .any, .any, .any, .any, .any, .any, .any, .any, .any, .any, .any, .any, .any, .any, .any, .any, .any, .any, .any, .any, .any, .any, .any, .any, .any, .any, .any, .any, .any, .any, .any, .any, .any, .any, .any, .any, .any, .any, .any, .any, .any, .any, .any, .any, .any, .any, .any, .any, .any, .any, .any, .any, .any, .any, .any, .any, .any, .any, .any, .any, .any, .any, .any, .any, .any, .any, .any, .any, .any, .any, .any, .any, .any, .any, .any, .any, .any, .any, .any, .any, .any, .any, .any, .any, .any, .any, .any, .any, .any, .any, .any, .any], [.no, .no, .no, .no, .no, .box g5 [.own 24 u24, .own 26 u26, .d (.sl 4 [])], .box g6 [.own 31 u31], .box g7 [.own 39 u39], .box g [.own 44 u], .no, .no, .no, .no, .no, .no, .no, .no, .no, .no, .no, .no, .no, .no, .no, .row u24 60 5 (exS.tables.map tbD), .no, .row u26 68 3 (exS.refs.map rfD), .no, .no, .no, .no, .row u31 51 1 (exBad.map fun t => [rwsD t]), .no, .no, .no, .no, .no, .no, .no, .row u39 51 1 (exGood.map fun t => [rwsD t]), .no, .no, .no, .no, .row u 51 1 (exNull.map fun t => [rwsD t]), .no, .no, .no, .no, .no, .no, .no, .no, .no, .no, .no, .no, .no, .no, .no, .no, .no, .no, .no, .no, .no, .no, .no, .no, .no, .no, .no, .no, .no, .no, .no, .no, .no, .no, .no, .no, .no, .no, .no, .no, .no, .no, .no, .no, .no, .no, .no, .no, .no, .no, .no, .no, .no, .no, .no, .no, .no, .no, .no, .no, .no, .no, .no, .no, .no, .no, .no, .no, .no, .no, .no, .no, .no, .no, .no, .no, .no, .no, .no, .no, .no, .no, .no, .no, .no, .no, .no, .no, .no, .no, .no]⟩) ?_ ?_
  · refine Wk.mk ?_ ?_
    all_goals (repeat' first | exact trivial | exact LeA.refl _ | exact LeA.any _ | exact LeO.refl _ | exact LeO.no _ | exact LeA.nil _ | refine LeO.box ?_ | exact LeO.rows (LeR.nil1 3 (LeR.refl _)) | refine ⟨?_, ?_⟩)
  have c1 := f15_spec exS exBad exS_ok exBad_ok
  rw [ex1] at c1
  have c2 : Spec Try.prog 14 [.d (bksD [(0, 0, -1)]), .d (bksD [(0, 0, -1)])] (litB true) := f14_spec [(0, 0, -1)] [(0, 0, -1)]
  have c3 := f17_spec exS exGood exS_ok exGood_ok
  rw [ex2] at c3
  have c4 := f17_spec exS exNull exS_ok exNull_ok
  rw [ex3] at c4
  have c5 := f17_spec exS exBad exS_ok exBad_ok
  rw [ex4] at c5
  have c6 := f24_spec exS exNull exGood exS_ok exNull_ok exGood_ok
  rw [ex5] at c6
  have c7 := f24_spec exS exGood exBad exS_ok exGood_ok exBad_ok
  rw [ex6] at c7
  have c8 := f24_spec exS exBad exGood exS_ok exBad_ok exGood_ok
  rw [ex7] at c8
  repeat' first
    | ((fail_if_success show AWp _ (Code.seq (Code.region 11 _ _) _) _ _); refine awp_seq ?_)
    | refine awp_block ?_
    | refine awp_skip ?_
    | (refine reg _ (by (simp only [List.map_cons, List.map_nil]; rfl)) rfl ?_; intro K hK)
    | (refine awp_cond _ (by rfl) ?_ ?_ <;> (intro hb; first | (cases hb; done) | (have ht : true = true := hb; clear ht hb) | (have ht : false = false := hb; clear ht hb) | (simp only [hb]) | skip))
    | (refine awp_exit ?_; simp only [thenA, blockA, scopeA, reduceIte, RetQ, Nat.reduceEqDiff])
    | (refine awp_ret ?_; simp only [thenA, blockA, scopeA, RetQ])
    | (refine ev_nil (hK _ ?_); clear hK K)
    | (apply ev_guardU; (case hj | hu | hσ => (simp only [go_sem]; try rfl)))
    | (refine ev_guardT _ _ (by (simp only [go_sem]; rfl)) (by (simp only [go_sem]; rfl)) ?_ ?_ <;> (intro hb; first | (cases hb; done) | (have ht : true = true := hb; clear ht hb) | (have ht : false = false := hb; clear ht hb) | (simp only [hb]) | skip))
    | (refine ev_guardF _ _ (by (simp only [go_sem]; rfl)) (by (simp only [go_sem]; rfl)) ?_ ?_ <;> (intro hb; first | (cases hb; done) | (have ht : true = true := hb; clear ht hb) | (have ht : false = false := hb; clear ht hb) | (simp only [hb]) | skip))
    | (apply ev_call0; (case hys => (simp only [go_sem]; try rfl)); (case hs => first | exact c1 .. | exact c2 .. | exact c3 .. | exact c4 .. | exact c5 .. | exact c6 .. | exact c7 .. | exact c8 .. | exact f29_spec .. | exact r75 .. | exact r85 ..); (case hok | hσ => (simp only [go_sem]; try rfl)))
    | (apply ev_step0; (case hr | hσ => (simp only [go_sem]; try rfl)); (case hc => (first | trivial | decide | (simp only [inB, sliceOk, appendOk, rowsOk]; omega) | (simp [inB, sliceOk, appendOk, rowsOk]; omega))))
    | (apply ev_step; (case hr => (simp only [go_sem]; try rfl)); (case hσ => (intro g u; simp only [go_sem]; try rfl)); (case hc => (first | trivial | decide | (simp only [inB, sliceOk, appendOk, rowsOk]; omega) | (simp [inB, sliceOk, appendOk, rowsOk]; omega))); intro g u; (try clear u); (try clear g))
    | fail
  rename_i u44 g8 u50 u92 g9 u98
  change AWp _ _ _ _
  refine awp_wk (σ' := ⟨[.any, .any, .any, .any, .any, .ptr 5 g5 0, .any, .ptr 7 g7 0, .any, .ptr 9 g9 0, .ptr 10 g 0, .any, .any, .any, .any, .any, .any, .any, .any, .any, .any, .any, .any, .any, .any, .any, .any, .any, .any, .any, .any, .any, .any, .any, .any, .any, .any, .any, .any, .any, .any, .any, .any, .any, .any, .any, .any, .any, .any, .any, .any, .any, .any, .any, .any, .any, .any, .any, .any, .any, .any, .any, .any, .any, .any, .any, .any, .any, .any, .any, .any, .any, .any, .any, .any, .any, .any, .any, .any, .any, .any, .any, .any, .any, .any, .any, .any, .any, .any, .any, .any, .any, .any, .any, .any, .any, .any, .any, .any, .any, .any, .any, .any, .any, .any, .any, .any, .any, .any, .any, .any, .any, .any, .any, .any, .any, .any, .any, .any, .any, .any, .any, .any, .any, .any, .any, .any, .any, .any, .any, .any, .any, .any, .any, .any, .any], [.no, .no, .no, .no, .no, .box g5 [.own 24 u24, .own 26 u26, .d (.sl 4 [])], .no, .box g7 [.own 39 u39], .no, .box g9 [.own 24 u24, .d (.sl 3 []), .own 92 u92], .box g [.own 99 u], .no, .no, .no, .no, .no, .no, .no, .no, .no, .no, .no, .no, .no, .fz u24 5 (exS.tables.map tbD), .no, .fz u26 3 (exS.refs.map rfD), .no, .no, .no, .no, .no, .no, .no, .no, .no, .no, .no, .no, .row u39 51 1 (exGood.map fun t => [rwsD t]), .no, .no, .no, .no, .no, .no, .no, .no, .no, .no, .no, .no, .no, .no, .no, .no, .no, .no, .no, .no, .no, .no, .no, .no, .no, .no, .no, .no, .no, .no, .no, .no, .no, .no, .no, .no, .no, .no, .no, .no, .no, .no, .no, .no, .no, .no, .no, .no, .no, .no, .no, .no, .row u92 76 4 (exZ.totals.map ttD), .no, .no, .no, .no, .no, .no, .row u 51 1 (exTwo.map fun t => [rwsD t]), .no, .no, .no, .no, .no, .no, .no, .no, .no, .no, .no, .no, .no, .no, .no, .no, .no, .no, .no, .no, .no, .no, .no, .no, .no, .no, .no, .no, .no, .no, .no, .no, .no, .no, .no, .no]⟩) ?_ ?_
  · refine Wk.mk ?_ ?_
    all_goals (repeat' first | exact trivial | exact LeA.refl _ | exact LeA.any _ | exact LeO.refl _ | exact LeO.no _ | exact LeA.nil _ | refine LeO.box ?_ | exact LeO.rows (LeR.nil1 3 (LeR.refl _)) | refine ⟨?_, ?_⟩)
  have d1 := f15_spec exZ exTwo exZ_ok exTwo_ok
  rw [ex8] at d1
  have d2 : Spec Try.prog 14 [.d (bksD [(-1, -1, 0)]), .d (bksD [(-1, -1, 0)])] (litB true) := f14_spec [(-1, -1, 0)] [(-1, -1, 0)]
  have d3 := f19_spec exZ exTwo 0 exZ_ok exTwo_ok.toStOk
  rw [ex9] at d3
  have d4 := f19_spec exZ exTwo 1 exZ_ok exTwo_ok.toStOk
  rw [ex10] at d4
  have d5 := f22_spec exS exGood 0 [num 5] exS_ok exGood_ok.toStOk
  rw [ex11] at d5
  have d6 := f22_spec exS exGood 0 [num 7] exS_ok exGood_ok.toStOk
  rw [ex12] at d6
  repeat' first
    | refine awp_seq ?_
    | refine awp_block ?_
    | refine awp_skip ?_
    | (refine reg _ (by (simp only [List.map_cons, List.map_nil]; rfl)) rfl ?_; intro K hK)
    | (refine awp_cond _ (by rfl) ?_ ?_ <;> (intro hb; first | (cases hb; done) | (have ht : true = true := hb; clear ht hb) | (have ht : false = false := hb; clear ht hb) | (simp only [hb]) | skip))
    | (refine awp_exit ?_; simp only [thenA, blockA, scopeA, reduceIte, RetQ, Nat.reduceEqDiff])
    | (refine awp_ret ?_; simp only [thenA, blockA, scopeA, RetQ])
    | (refine ev_nil (hK _ ?_); clear hK K)
    | (apply ev_guardU; (case hj | hu | hσ => (simp only [go_sem]; try rfl)))
    | (refine ev_guardT _ _ (by (simp only [go_sem]; rfl)) (by (simp only [go_sem]; rfl)) ?_ ?_ <;> (intro hb; first | (cases hb; done) | (have ht : true = true := hb; clear ht hb) | (have ht : false = false := hb; clear ht hb) | (simp only [hb]) | skip))
    | (refine ev_guardF _ _ (by (simp only [go_sem]; rfl)) (by (simp only [go_sem]; rfl)) ?_ ?_ <;> (intro hb; first | (cases hb; done) | (have ht : true = true := hb; clear ht hb) | (have ht : false = false := hb; clear ht hb) | (simp only [hb]) | skip))
    | (apply ev_call0; (case hys => (simp only [go_sem]; try rfl)); (case hs => first | exact d1 .. | exact d2 .. | exact d3 .. | exact d4 .. | exact d5 .. | exact d6 .. | exact f29_spec ..); (case hok | hσ => (simp only [go_sem]; try rfl)))
    | (apply regD; (case hd => (simp only [List.map_cons, List.map_nil]; rfl)); (case hok => rfl); (case' h => (intro K hK; (repeat' first
        | (apply evd_nil; refine (hK _ ?_); clear hK K)
        | (apply evd_guardU0; (case hj | hu | hσ => (simp only [go_sem]; try rfl)))
        | (apply evd_guardU; (case hj | hu | hσ => (simp only [go_sem]; try rfl)))
        | (apply evd_skipT0; (case hj | hb | hσ => (simp only [go_sem]; try rfl)))
        | (apply evd_skipF0; (case hj | hb | hσ => (simp only [go_sem]; try rfl)))
        | (apply evd_skipT; (case hj | hb | hσ => (simp only [go_sem]; try rfl)))
        | (apply evd_skipF; (case hj | hb | hσ => (simp only [go_sem]; try rfl)))
        | (apply evd_guardT; (case hj | hb => (simp only [go_sem]; try rfl)); (case' h2 => (intro hb; first | (cases hb; done) | (simp only [hb]) | skip)); (case' h1 => (intro hb; first | (cases hb; done) | (simp only [hb]) | skip)))
        | (apply evd_guardF; (case hj | hb => (simp only [go_sem]; try rfl)); (case' h2 => (intro hb; first | (cases hb; done) | (simp only [hb]) | skip)); (case' h1 => (intro hb; first | (cases hb; done) | (simp only [hb]) | skip)))
        | (apply evd_call0; (case hi | hys => (simp only [go_sem]; try rfl)); (case hs => first | exact d1 .. | exact d2 .. | exact d3 .. | exact d4 .. | exact d5 .. | exact d6 .. | exact f29_spec ..); (case hok | hw | hσ => (simp only [go_sem]; try rfl)))
        | (apply evd_step0; (case hr | hi | hσ => (simp only [go_sem]; try rfl)); (case hc => (first | trivial | decide | (simp only [inB, sliceOk, appendOk, rowsOk]; omega) | (simp [inB, sliceOk, appendOk, rowsOk]; omega))))
        | (apply evd_step; (case hr | hi => (simp only [go_sem]; try rfl)); (case hc => (first | trivial | decide | (simp only [inB, sliceOk, appendOk, rowsOk]; omega) | (simp [inB, sliceOk, appendOk, rowsOk]; omega))); (case hw | hσ => (intro g u; simp only [go_sem]; try rfl)); (case' hk => (intro g u; (try clear u); (try clear g))))
        | fail))); (case hB => kernel_rfl))
    | (apply ev_step0; (case hr | hσ => (simp only [go_sem]; try rfl)); (case hc => (first | trivial | decide | (simp only [inB, sliceOk, appendOk, rowsOk]; omega) | (simp [inB, sliceOk, appendOk, rowsOk]; omega))))
    | (apply ev_step; (case hr => (simp only [go_sem]; try rfl)); (case hσ => (intro g u; simp only [go_sem]; try rfl)); (case hc => (first | trivial | decide | (simp only [inB, sliceOk, appendOk, rowsOk]; omega) | (simp [inB, sliceOk, appendOk, rowsOk]; omega))); intro g u; (try clear u); (try clear g))
    | fail
  all_goals (refine resR_one T_ok rfl _ (by (simp only [go_sem, resA]; rfl)) (by first | trivial | (simp only [go_sem, resA])) (by first | trivial | (simp only [go_sem])) ?_; simp only [go_sem])
  exact LeA.refl _
end
section
set_option linter.unusedVariables false
set_option linter.unusedSimpArgs false
open Go.RowKit
theorem bkRows_nil {p : Rw → Bool} {i : Nat} : ∀ {l : List Rw} {k : Nat}, bkRows p i l k = [] ↔ ∀ r ∈ l, p r = false
  | [], k => by simp [bkRows]
  | r :: l, k => by
    simp only [bkRows, List.append_eq_nil_iff, bkRows_nil, List.mem_cons, forall_eq_or_imp]
    cases p r <;> simp
theorem bkRefs_nil {s : Sch} {st : Stt} : ∀ {l : List Rf} {i : Nat}, bkRefs s st l i = [] ↔ ∀ r ∈ l, ∀ x ∈ st.getD r.table [], brk s st r x = false
  | [], i => by simp [bkRefs]
  | r :: l, i => by simp only [bkRefs, List.append_eq_nil_iff, bkRows_nil, bkRefs_nil, List.mem_cons, forall_eq_or_imp]
theorem bkTots_nil {st : Stt} : ∀ {l : List Tt} {i : Nat}, bkTots st l i = [] ↔ ∀ t ∈ l, over st t = false
  | [], i => by simp [bkTots]
  | r :: l, i => by
    simp only [bkTots, List.append_eq_nil_iff, bkTots_nil, List.mem_cons, forall_eq_or_imp]
    cases over st r <;> simp
theorem holds_iff {s : Sch} {st : Stt} : holdsM s st = true ↔ (∀ r ∈ s.refs, ∀ x ∈ st.getD r.table [], brk s st r x = false) ∧ ∀ t ∈ s.totals, over st t = false := by
  rw [holdsM, List.isEmpty_iff, checkR, List.append_eq_nil_iff, bkRefs_nil, bkTots_nil]
theorem brk_iff {s : Sch} {st : Stt} {r : Rf} {l : Rw} (hl : r.column + keyN s r.to ≤ l.length) : brk s st r l = false ↔ nothing (toV s r l) = true ∨ ∃ x ∈ st.getD r.to [], keyR x (keyN s r.to) = toV s r l := by
  have ht := toV_len (s := s) (r := r) (l := l) hl
  have hf := findR_neg (toV s r l) (st.getD r.to []) 0
  rw [ht] at hf
  unfold brk
  cases hn : nothing (toV s r l) with
  | true => simp
  | false =>
    simp only [Bool.not_false, Bool.true_and, decide_eq_false_iff_not, hf, Bool.false_eq_true, false_or]
    constructor
    · intro h
      apply Classical.byContradiction
      intro hc
      exact h fun x hx e => hc ⟨x, hx, e⟩
    · rintro ⟨x, hx, e⟩ h
      exact h x hx e
theorem keyR_full {n : Nat} {l : Rw} (h : l.length = n) : keyR l n = vsOf l := by rw [keyR, List.take_of_length_le (by omega)]; rfl
theorem toV_vs (s : Sch) (r : Rf) (l : Rw) : toV s r l = ((vsOf l).drop r.column).take (keyN s r.to) := by
  simp only [toV, keyR, vsOf, List.map_take, List.map_drop]
theorem refsTo_iff {s : Sch} {r : Rf} {key : List Vl} {l : Rw} : refsTo s r key l = true ↔ nothing (toV s r l) = false ∧ toV s r l = key := by
  rw [refsTo, Bool.and_eq_true, Bool.not_eq_true', beq_iff_eq, cmpVs_cmp.eq]
theorem refd_iff {s : Sch} {st : Stt} {t : Nat} {key : List Vl} : refdR s st (t : Int) key = true ↔ ∃ r ∈ s.refs, r.to = t ∧ ∃ l ∈ st.getD r.table [], nothing (toV s r l) = false ∧ toV s r l = key := by
  simp only [refdR, List.any_eq_true, Bool.and_eq_true, beq_iff_eq, refsTo_iff, Int.natCast_inj]
theorem keeps_eq {s : Sch} {old now : Stt} (h : SchOk s) (hso : StS s old) (hsn : StS s now) : keepsM s old now = (holdsM s old && holdsM s now) := by
  rw [keepsM]
  cases ho : holdsM s old with
  | false => rfl
  | true =>
  rw [Bool.true_and, Bool.true_and, Bool.eq_iff_iff, Bool.and_eq_true, List.all_eq_true, holds_iff, Bool.not_eq_true', List.any_eq_false]
  have hold := (holds_iff.1 ho).1
  have hw : ∀ r ∈ s.refs, ∀ (st : Stt), StS s st → ∀ l ∈ st.getD r.table [], r.column + keyN s r.to ≤ l.length := fun r hr st hst l hl => by
    have h1 := h.refs r hr
    rw [(hst.rows _ h1.1 l hl).1]; exact h1.2.2
  constructor
  · rintro ⟨hA, hT⟩
    refine ⟨fun r hr l hl => ?_, fun t ht => by simpa using hT t ht⟩
    have hrr := h.refs r hr
    have hto : r.to < s.tables.length := by omega
    have hc := hA r.table (List.mem_range.2 hrr.1)
    rw [chM, Bool.and_eq_true, List.all_eq_true, List.all_eq_true] at hc
    have hcr := hc.1 l hl
    rw [chR, Bool.or_eq_true, Bool.and_eq_true] at hcr
    rcases hcr with ⟨hh, hsm⟩ | hcome
    · -- the row was there
      have hlt : lowR (cmpK (keyR l (keyN s r.table))) (old.getD r.table []) < (old.getD r.table []).length := by
        simp only [hitR, Bool.and_eq_true, decide_eq_true_eq] at hh
        exact hh.1
      obtain ⟨x, hx⟩ : ∃ x, (old.getD r.table []).getD (lowR (cmpK (keyR l (keyN s r.table))) (old.getD r.table [])) [] = x := ⟨_, rfl⟩
      have hxm : x ∈ old.getD r.table [] := by rw [← hx]; exact getD_mem' hlt []
      rw [hx, sameM, beq_iff_eq, cmpVs_cmp.eq, keyR_full (hso.rows _ hrr.1 x hxm).1, keyR_full (hsn.rows _ hrr.1 l hl).1] at hsm
      have htv : toV s r x = toV s r l := by rw [toV_vs, toV_vs, hsm]
      have hbx := (brk_iff (hw r hr old hso x hxm)).1 (hold r hr x hxm)
      rw [htv] at hbx
      rw [brk_iff (hw r hr now hsn l hl)]
      rcases hbx with hbx | ⟨y, hy, hyk⟩
      · exact .inl hbx
      · cases hn : nothing (toV s r l) with
        | true => exact .inl rfl
        | false =>
        right
        have hc2 := hA r.to (List.mem_range.2 hto)
        rw [chM, Bool.and_eq_true, List.all_eq_true, List.all_eq_true] at hc2
        have hg := hc2.2 y hy
        rw [chG, Bool.or_eq_true, Bool.not_eq_true', decide_eq_false_iff_not] at hg
        rcases hg with hg | hg
        · rw [findR_neg] at hg
          have hkl : (keyR y (keyN s r.to)).length = keyN s r.to := by rw [hyk]; exact toV_len (hw r hr now hsn l hl)
          rw [hkl] at hg
          apply Classical.byContradiction
          intro hc
          exact hg fun z hz e => hc ⟨z, hz, by rw [e, hyk]⟩
        · rw [goneM, Bool.not_eq_true'] at hg
          have : refdR s now (r.to : Int) (keyR y (keyN s r.to)) = true := refd_iff.2 ⟨r, hr, rfl, l, hl, hn, hyk.symm⟩
          rw [this] at hg; cases hg
    · rw [comeM, Bool.not_eq_true', List.any_eq_false] at hcome
      have := hcome r hr
      simpa using this
  · rintro ⟨hR, hT⟩
    refine ⟨fun t ht => ?_, fun t ht => by simpa using hT t ht⟩
    have htl := List.mem_range.1 ht
    rw [chM, Bool.and_eq_true, List.all_eq_true, List.all_eq_true]
    refine ⟨fun l hl => ?_, fun y hy => ?_⟩
    · rw [chR, Bool.or_eq_true]
      right
      rw [comeM, Bool.not_eq_true', List.any_eq_false]
      intro r hr
      by_cases e : r.table = t
      · subst e
        rw [hR r hr l hl, Bool.and_false]; simp
      · have : ((r.table : Int) == (t : Int)) = false := by simp; omega
        rw [this]; simp
    · rw [chG, Bool.or_eq_true, Bool.not_eq_true', decide_eq_false_iff_not]
      by_cases hf : findR (keyR y (keyN s t)) (now.getD t []) 0 < 0
      · right
        rw [goneM, Bool.not_eq_true', Bool.eq_false_iff]
        intro hrf
        obtain ⟨r, hr, rfl, l, hl, hn, hk⟩ := refd_iff.1 hrf
        have hb := (brk_iff (hw r hr now hsn l hl)).1 (hR r hr l hl)
        rw [hn] at hb
        rcases hb with hb | ⟨z, hz, hzk⟩
        · cases hb
        · rw [findR_neg] at hf
          have hkl : (keyR y (keyN s r.to)).length = keyN s r.to := by rw [← hk]; exact toV_len (hw r hr now hsn l hl)
          rw [hkl] at hf
          exact hf z hz (by rw [hzk, hk])
      · exact .inl hf
theorem StV.sts {s : Sch} {st : Stt} (h : StV s st) (hc : cnt st ≤ 1000) : StS s st := { toStOk := h.ok hc, srt := h.srt }
theorem setV_key {r : Rw} {c k : Nat} (h : k ≤ c) (v : Vl) : keyR (setV r c v) k = keyR r k := by
  simp only [keyR, setV, List.take_set_of_le h]
theorem odd_sts {s : Sch} {st : Stt} (h : SchOk s) (hs : StS s st) (n : List Int) : StS s (oddM s st n) := by
  unfold oddM
  cases htt : s.totals with
  | nil => exact hs
  | cons x xs =>
  have hxm : x ∈ s.totals := by rw [htt]; exact List.mem_cons_self ..
  obtain ⟨ht1, ht2, ht3⟩ := h.tots _ hxm
  have htl : x.table < st.length := by rw [hs.len]; exact ht1
  show StS s (st.set x.table (oddRows x.column n (st.getD x.table [])))
  have hol : (oddRows x.column n (st.getD x.table [])).length = (st.getD x.table []).length := by simp [oddRows]
  have hoi : ∀ i (hi : i < (st.getD x.table []).length), (oddRows x.column n (st.getD x.table []))[i]'(by rw [hol]; exact hi) = oddRow x.column n i (st.getD x.table [])[i] := fun i hi => by
    simp only [oddRows, List.getElem_map, List.getElem_range]; rw [getD_get hi]
  have hkey : ∀ i r, keyR (oddRow x.column n i r) (keyN s x.table) = keyR r (keyN s x.table) := fun i r => by
    unfold oddRow; split
    · exact setV_key ht3 _
    · rfl
  refine ⟨⟨by rw [List.length_set]; exact hs.len, fun t ht => ?_, fun t ht r hr => ?_⟩, fun t ht => ?_⟩
  · rw [getD_set' htl]; split
    · rename_i e; subst e; rw [hol]; exact hs.few _ ht
    · exact hs.few t ht
  · rw [getD_set' htl] at hr; split at hr
    · rename_i e; subst e
      simp only [oddRows, List.mem_map, List.mem_range] at hr
      obtain ⟨i, hi, rfl⟩ := hr
      have hro := hs.rows _ ht _ (getD_mem' hi [])
      unfold oddRow; split
      · rename_i hc
        simp only [Bool.and_eq_true, decide_eq_true_eq, small_iff] at hc
        refine ⟨by rw [setV_len]; exact hro.1, fun c hc' => ?_⟩
        rcases List.mem_or_eq_of_mem_set hc' with hc' | rfl
        · exact hro.2 c hc'
        · exact ⟨by show (0 : Nat) ≤ _; omega, hc.2.1, hc.2.2⟩
      · exact hro
    · exact hs.rows t ht r hr
  · rw [getD_set' htl]; split
    · rename_i e; subst e
      unfold Srt
      rw [List.pairwise_iff_getElem]
      intro i j hi hj hij
      rw [hol] at hi hj
      rw [hoi i hi, hoi j hj, hkey, hkey]
      exact (List.pairwise_iff_getElem.1 (hs.srt _ ht)) i j hi hj hij
    · exact hs.srt t ht
theorem plain_scale {n : ByteArray} {t : Ty} (h : 0 ≤ t.scale ∧ t.scale ≤ 6) : 0 ≤ (plainC n t).ty.scale ∧ (plainC n t).ty.scale ≤ 6 := h
theorem sc0 : (0 : Int) ≤ 0 ∧ (0 : Int) ≤ 6 := by decide
theorem madeS_ok {b : List Int} (hb : ∀ x ∈ b, 0 ≤ x ∧ x < 256) : SchOk (madeS b) := by
  have hm := fun (i : Nat) (m : Int) (hm : 0 < m) => (⟨Int.tmod_nonneg m (atB_bd hb i).1, Int.tmod_lt_of_pos _ hm⟩ : 0 ≤ (atB b i).tmod m ∧ (atB b i).tmod m < m)
  have hacc : (accT b).key = 2 ∧ 4 ≤ (accT b).cols.length ∧ (accT b).cols.length ≤ 5 ∧ ∀ c ∈ (accT b).cols, 0 ≤ c.ty.scale ∧ c.ty.scale ≤ 6 := by
    have h1 := hm 1 3 (by decide)
    have h2 := hm 0 2 (by decide)
    unfold accT
    by_cases hc : 0 < (atB b 0).tmod 4
    · simp only [if_pos hc]
      refine ⟨by simp, by simp, by simp, fun c hc => ?_⟩
      simp only [List.cons_append, List.nil_append, List.mem_cons, List.not_mem_nil, or_false] at hc
      rcases hc with rfl | rfl | rfl | rfl | rfl
      · exact plain_scale sc0
      · exact plain_scale sc0
      · exact plain_scale sc0
      · show 0 ≤ (atB b 1).tmod 3 ∧ (atB b 1).tmod 3 ≤ 6; omega
      · show 0 ≤ (atB b 0).tmod 2 ∧ (atB b 0).tmod 2 ≤ 6; omega
    · simp only [if_neg hc]
      refine ⟨by simp, by simp, by simp, fun c hc => ?_⟩
      simp only [List.cons_append, List.nil_append, List.append_nil, List.mem_cons, List.not_mem_nil, or_false] at hc
      rcases hc with rfl | rfl | rfl | rfl
      · exact plain_scale sc0
      · exact plain_scale sc0
      · exact plain_scale sc0
      · show 0 ≤ (atB b 1).tmod 3 ∧ (atB b 1).tmod 3 ≤ 6; omega
  have hitem : (itemT b).key = 1 ∧ (itemT b).cols.length = (if 0 < (atB b 3).tmod 3 then 6 else 4) ∧ ∀ c ∈ (itemT b).cols, 0 ≤ c.ty.scale ∧ c.ty.scale ≤ 6 := by
    have h1 := hm 2 4 (by decide)
    unfold itemT
    by_cases hc : 0 < (atB b 3).tmod 3
    · simp only [if_pos hc]
      refine ⟨by simp, by simp, fun c hc => ?_⟩
      simp only [List.cons_append, List.nil_append, List.mem_cons, List.not_mem_nil, or_false] at hc
      rcases hc with rfl | rfl | rfl | rfl | rfl | rfl
      · exact plain_scale sc0
      · exact plain_scale sc0
      · exact plain_scale (by show 0 ≤ (atB b 2).tmod 4 ∧ (atB b 2).tmod 4 ≤ 6; omega)
      · exact plain_scale sc0
      · exact plain_scale sc0
      · exact plain_scale sc0
    · simp only [if_neg hc]
      refine ⟨by simp, by simp, fun c hc => ?_⟩
      simp only [List.cons_append, List.nil_append, List.append_nil, List.mem_cons, List.not_mem_nil, or_false] at hc
      rcases hc with rfl | rfl | rfl | rfl
      · exact plain_scale sc0
      · exact plain_scale sc0
      · exact plain_scale (by show 0 ≤ (atB b 2).tmod 4 ∧ (atB b 2).tmod 4 ≤ 6; omega)
      · exact plain_scale sc0
  have hthird : (thirdT b).key = 2 ∧ 2 ≤ (thirdT b).cols.length ∧ (thirdT b).cols.length ≤ 4 ∧ ∀ c ∈ (thirdT b).cols, 0 ≤ c.ty.scale ∧ c.ty.scale ≤ 6 := by
    unfold thirdT
    split
    · refine ⟨by simp, by simp, by simp, fun c hc => ?_⟩
      simp only [List.mem_cons, List.not_mem_nil, or_false] at hc
      rcases hc with rfl | rfl
      · exact plain_scale sc0
      · exact plain_scale sc0
    · refine ⟨by simp, by simp, by simp, fun c hc => ?_⟩
      simp only [List.mem_cons, List.not_mem_nil, or_false] at hc
      rcases hc with rfl | rfl | rfl | rfl
      · exact plain_scale sc0
      · exact plain_scale sc0
      · show (0 : Int) ≤ 0 ∧ (0 : Int) ≤ 6; decide
      · exact plain_scale sc0
  obtain ⟨v3, d3⟩ : ∃ v, decide ((atB b 3).tmod 3 > 0) = v := ⟨_, rfl⟩
  obtain ⟨v4, d4⟩ : ∃ v, decide ((atB b 4).tmod 3 > 0) = v := ⟨_, rfl⟩
  obtain ⟨v2, d2⟩ : ∃ v, ((atB b 4).tmod 3 == 2) = v := ⟨_, rfl⟩
  obtain ⟨u1, e1⟩ : ∃ v, ((atB b 6).tmod 3 == 1) = v := ⟨_, rfl⟩
  obtain ⟨u2, e2⟩ : ∃ v, ((atB b 6).tmod 3 == 2) = v := ⟨_, rfl⟩
  have h24 : v2 = true → v4 = true := fun hv => by
    subst hv
    rw [← d4]
    have := beq_iff_eq.1 d2
    exact decide_eq_true (by omega)
  have h12 : ¬ (u1 = true ∧ u2 = true) := fun ⟨h1, h2⟩ => by
    subst h1; subst h2
    have := beq_iff_eq.1 e1
    have := beq_iff_eq.1 e2
    omega
  have hil : (itemT b).cols.length = if v3 = true then 6 else 4 := by
    rw [hitem.2.1, ← d3]
    by_cases hc : 0 < (atB b 3).tmod 3
    · rw [if_pos hc, if_pos (decide_eq_true hc)]
    · rw [if_neg hc, if_neg (by rw [decide_eq_false hc]; exact Bool.false_ne_true)]
  have hik := hitem.1
  have hit := hitem.2.2
  obtain ⟨hak, hal1, hal2, hat⟩ := hacc
  obtain ⟨htk, htl1, htl2, htt⟩ := hthird
  unfold madeS
  simp only [d3, d4, d2, e1, e2]
  generalize (((atB b 5).tmod 2 == 1) && ((atB b 3).tmod 3 == 0)) = er1
  generalize decide ((atB b 5).tmod 3 > 0) = er2
  clear hm hitem
  generalize accT b = A at *
  generalize itemT b = I at *
  generalize thirdT b = Z at *
  cases v3 <;> cases v4 <;> cases v2 <;> (try exact absurd (h24 rfl) (by decide)) <;> cases u1 <;> cases u2 <;> (try exact absurd ⟨rfl, rfl⟩ h12)
  all_goals
    simp only [if_true, if_false, Bool.false_eq_true, List.append_nil, List.nil_append, List.cons_append] at *
    refine ⟨by simp, fun t ht => ?_, ?_, by simp, ?_, by simp, ?_⟩
    · simp only [List.length_cons, List.length_nil] at ht
      match t, ht with
      | 0, _ => simp [keyN, colN]; omega
      | 1, _ => simp [keyN, colN]; omega
      | 2, _ => simp [keyN, colN]; try omega
    · intro t ht
      simp only [List.mem_cons, List.not_mem_nil, or_false] at ht
      first
        | (rcases ht with rfl | rfl | rfl)
        | (rcases ht with rfl | rfl)
      all_goals assumption
    · intro r hr
      simp only [List.mem_cons, List.not_mem_nil, or_false] at hr
      all_goals first
        | exact hr.elim
        | (rcases hr with rfl | rfl <;> (simp [keyN, colN]; try omega))
        | (subst hr; simp [keyN, colN]; try omega)
    · intro r hr
      simp only [List.mem_cons, List.not_mem_nil, or_false] at hr
      all_goals first
        | exact hr.elim
        | (subst hr; simp [keyN, colN]; try omega)
theorem mend_v {s : Sch} (h : SchOk s) : ∀ (n : Nat) {st : Stt}, StV s st → StV s (mendM s n st) ∧ cnt (mendM s n st) ≤ cnt st
  | 0, st, hs => ⟨hs, Nat.le_refl _⟩
  | n + 1, st, hs => by
    rw [mendM]
    cases hch : checkR s st with
    | nil => exact ⟨hs, Nat.le_refl _⟩
    | cons x l =>
      by_cases hx : x.1 < 0
      · simp only [if_pos hx]; exact ⟨hs, Nat.le_refl _⟩
      · simp only [if_neg hx]
        obtain ⟨k, hk, j, hj, rfl⟩ := check_head hch hx
        have hr := (h.refs _ (getD_mem' hk rfN)).1
        simp only [Int.toNat_natCast]
        have := cnt_without hs hr hj
        have h2 := mend_v h n (hs.without hr j)
        exact ⟨h2.1, by have := h2.2; omega⟩
theorem all_at (al : List Stt) {i : Nat} (h : i < al.length) : (al.map fun st => [sttD st]).getD i [] = [sttD (al.getD i [])] := by
  simp [List.getD_eq_getElem?_getD, h]
end
section
set_option linter.unusedVariables false
set_option linter.unusedSimpArgs false
open Go.RowKit
attribute [local irreducible] AWp evOps evD
set_option maxHeartbeats 16000000 in
set_option maxRecDepth 8000 in
theorem f10_spec (b : List Int) (hb : ∀ x ∈ b, 0 ≤ x ∧ x < 256) : Spec Try.prog 10 [.agg [.d (bytesD b)]] (.agg (schA (madeS b))) := by
  have a3 : Spec Try.prog 34 [.d (bytesD b), litI .i64 3] (litI .i64 (atB b 3)) := f34_spec b hb 3
  have a4 : Spec Try.prog 34 [.d (bytesD b), litI .i64 4] (litI .i64 (atB b 4)) := f34_spec b hb 4
  have a5 : Spec Try.prog 34 [.d (bytesD b), litI .i64 5] (litI .i64 (atB b 5)) := f34_spec b hb 5
  have a6 : Spec Try.prog 34 [.d (bytesD b), litI .i64 6] (litI .i64 (atB b 6)) := f34_spec b hb 6
  have f32 := f32_spec b hb
  have f33 := f33_spec b hb
  have f35 := f35_spec b hb
  unfold madeS
  generalize accT b = tA at *
  generalize itemT b = tI at *
  generalize thirdT b = tT at *
  generalize atB b 3 = q3 at *
  generalize atB b 4 = q4 at *
  generalize atB b 5 = q5 at *
  generalize atB b 6 = q6 at *
  obtain ⟨v3, d3⟩ : ∃ v, decide (q3.tmod 3 > 0) = v := ⟨_, rfl⟩
  obtain ⟨v4, d4⟩ : ∃ v, decide (q4.tmod 3 > 0) = v := ⟨_, rfl⟩
  obtain ⟨v2, d2⟩ : ∃ v, (q4.tmod 3 == 2) = v := ⟨_, rfl⟩
  obtain ⟨u1, e1⟩ : ∃ v, (q6.tmod 3 == 1) = v := ⟨_, rfl⟩
  obtain ⟨u2, e2⟩ : ∃ v, (q6.tmod 3 == 2) = v := ⟨_, rfl⟩
  obtain ⟨u5, e5⟩ : ∃ v, (q5.tmod 2 == 1) = v := ⟨_, rfl⟩
  simp only [d3, d4, d2, e1, e2, e5]
  cases v3 <;> cases v4 <;> cases v2 <;> cases u5
  all_goals
    refine spec_of_awp (fn := Try.f10) Try.func10 (by kernel_rfl) rfl ?_
    intro w0 C0
    simp only [Try.ntmps10, litI, litB, litS, List.length_cons, List.length_nil, Nat.reduceAdd, Nat.reduceSub, List.replicate_succ, List.replicate_zero, List.cons_append, List.nil_append]
    repeat' first
      | refine awp_seq ?_
      | refine awp_block ?_
      | refine awp_skip ?_
      | (refine reg _ (by (simp only [List.map_cons, List.map_nil]; rfl)) rfl ?_; intro K hK)
      | (refine awp_cond _ (by rfl) ?_ ?_ <;> (intro hb; first | (cases hb; done) | (have ht : true = true := hb; clear ht hb) | (have ht : false = false := hb; clear ht hb) | (simp only [hb]) | skip))
      | (refine awp_exit ?_; simp only [thenA, blockA, scopeA, reduceIte, RetQ, Nat.reduceEqDiff])
      | (refine awp_ret ?_; simp only [thenA, blockA, scopeA, RetQ])
      | (refine ev_nil (hK _ ?_); clear hK K)
      | (apply ev_call0; (case hys => (simp only [go_sem, d3, d4, d2, e1, e2, e5, Bool.and_false, Bool.false_and, Bool.and_self, Int.reduceToNat]; try rfl)); (case hs => first | exact a3 .. | exact a4 .. | exact a5 .. | exact a6 .. | exact f32 .. | exact f33 .. | exact f35 ..); (case hok | hσ => (simp only [go_sem, d3, d4, d2, e1, e2, e5, Bool.and_false, Bool.false_and, Bool.and_self, Int.reduceToNat]; try rfl)))
      | (apply regD; (case hd => (simp only [List.map_cons, List.map_nil]; rfl)); (case hok => rfl); (case' h => (intro K hK; (repeat' first
        | (apply evd_nil; refine (hK _ ?_); clear hK K)
        | (apply evd_guardU0; (case hj | hu | hσ => (simp only [go_sem, d3, d4, d2, e1, e2, e5, Bool.and_false, Bool.false_and, Bool.and_self, Int.reduceToNat]; try rfl)))
        | (apply evd_guardU; (case hj | hu | hσ => (simp only [go_sem, d3, d4, d2, e1, e2, e5, Bool.and_false, Bool.false_and, Bool.and_self, Int.reduceToNat]; try rfl)))
        | (apply evd_skipT0; (case hj | hb | hσ => (simp only [go_sem, d3, d4, d2, e1, e2, e5, Bool.and_false, Bool.false_and, Bool.and_self, Int.reduceToNat]; try rfl)))
        | (apply evd_skipF0; (case hj | hb | hσ => (simp only [go_sem, d3, d4, d2, e1, e2, e5, Bool.and_false, Bool.false_and, Bool.and_self, Int.reduceToNat]; try rfl)))
        | (apply evd_skipT; (case hj | hb | hσ => (simp only [go_sem, d3, d4, d2, e1, e2, e5, Bool.and_false, Bool.false_and, Bool.and_self, Int.reduceToNat]; try rfl)))
        | (apply evd_skipF; (case hj | hb | hσ => (simp only [go_sem, d3, d4, d2, e1, e2, e5, Bool.and_false, Bool.false_and, Bool.and_self, Int.reduceToNat]; try rfl)))
        | (apply evd_guardT; (case hj | hb => (simp only [go_sem, d3, d4, d2, e1, e2, e5, Bool.and_false, Bool.false_and, Bool.and_self, Int.reduceToNat]; try rfl)); (case' h2 => (intro hb; first | (cases hb; done) | (simp only [hb]) | skip)); (case' h1 => (intro hb; first | (cases hb; done) | (simp only [hb]) | skip)))
        | (apply evd_guardF; (case hj | hb => (simp only [go_sem, d3, d4, d2, e1, e2, e5, Bool.and_false, Bool.false_and, Bool.and_self, Int.reduceToNat]; try rfl)); (case' h2 => (intro hb; first | (cases hb; done) | (simp only [hb]) | skip)); (case' h1 => (intro hb; first | (cases hb; done) | (simp only [hb]) | skip)))
        | (apply evd_call0; (case hi | hys => (simp only [go_sem, d3, d4, d2, e1, e2, e5, Bool.and_false, Bool.false_and, Bool.and_self, Int.reduceToNat]; try rfl)); (case hs => first | exact a3 .. | exact a4 .. | exact a5 .. | exact a6 .. | exact f32 .. | exact f33 .. | exact f35 ..); (case hok | hw | hσ => (simp only [go_sem, d3, d4, d2, e1, e2, e5, Bool.and_false, Bool.false_and, Bool.and_self, Int.reduceToNat]; try rfl)))
        | (apply evd_step0; (case hr | hi | hσ => (simp only [go_sem, d3, d4, d2, e1, e2, e5, Bool.and_false, Bool.false_and, Bool.and_self, Int.reduceToNat]; try rfl)); (case hc => (first | trivial | decide | (simp only [inB, sliceOk, appendOk, rowsOk]; omega) | (simp [inB, sliceOk, appendOk, rowsOk]; omega))))
        | (apply evd_step; (case hr | hi => (simp only [go_sem, d3, d4, d2, e1, e2, e5, Bool.and_false, Bool.false_and, Bool.and_self, Int.reduceToNat]; try rfl)); (case hc => (first | trivial | decide | (simp only [inB, sliceOk, appendOk, rowsOk]; omega) | (simp [inB, sliceOk, appendOk, rowsOk]; omega))); (case hw | hσ => (intro g u; simp only [go_sem, d3, d4, d2, e1, e2, e5, Bool.and_false, Bool.false_and, Bool.and_self, Int.reduceToNat]; try rfl)); (case' hk => (intro g u; (try clear u); (try clear g))))
        | fail))); (case hB => kernel_rfl))
      | (apply ev_step0; (case hr | hσ => (simp only [go_sem, d3, d4, d2, e1, e2, e5, Bool.and_false, Bool.false_and, Bool.and_self, Int.reduceToNat]; try rfl)); (case hc => (first | trivial | decide | (simp only [inB, sliceOk, appendOk, rowsOk]; omega) | (simp [inB, sliceOk, appendOk, rowsOk]; omega))))
      | (apply ev_step; (case hr => (simp only [go_sem, d3, d4, d2, e1, e2, e5, Bool.and_false, Bool.false_and, Bool.and_self, Int.reduceToNat]; try rfl)); (case hσ => (intro g u; simp only [go_sem, d3, d4, d2, e1, e2, e5, Bool.and_false, Bool.false_and, Bool.and_self, Int.reduceToNat]; try rfl)); (case hc => (first | trivial | decide | (simp only [inB, sliceOk, appendOk, rowsOk]; omega) | (simp [inB, sliceOk, appendOk, rowsOk]; omega))); intro g u; (try clear u); (try clear g))
      | fail
    all_goals (refine resR_one T_ok rfl _ (by (simp only [go_sem, resA]; rfl)) (by first | trivial | (simp only [go_sem, resA])) (by first | trivial | (simp only [go_sem])) ?_; simp only [go_sem])
    all_goals
      (try simp only [*, if_true, if_false, Bool.false_eq_true, Bool.true_and, Bool.false_and, List.append_nil, List.nil_append, List.cons_append])
      refine LeA.agg ⟨?_, ?_, ?_, trivial⟩
    all_goals first | exact LeA.s rfl | exact LeA.nil _ | exact LeA.refl _
end
end Go.Proofs.Ytlkfbhhopkoopaa.A
