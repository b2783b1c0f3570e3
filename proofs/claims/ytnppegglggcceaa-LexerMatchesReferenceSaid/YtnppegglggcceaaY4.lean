/- The reference's joined tokens and lines: the walks. The reference's texts that are scanned: the walk. The reference's token at an offset: the walk. The reference's tokens of a source: the walk. Short sources and tokens: the walk; a source of blanks. -/
import Derived.Test.YtnppegglggcceaaY3
namespace Go.Proofs.Ytnppegglggcceaa.A
attribute [local go_sem] Nat.reduceAdd Nat.reduceSub Nat.reduceMul Nat.reduceLT Nat.reduceLeDiff Nat.reduceEqDiff Nat.reduceBEq reduceIte reduceCtorEq e_step_none e_slotU e_slotB e_move e_assign e_pick e_unOp e_binOp e_alloc e_box e_build e_buildSlice e_load e_store e_fieldAddr e_field e_indexAddr e_index e_slice e_sliceM e_makeSlice e_makeFunc e_convert e_extract e_nilCheck e_len e_append e_max e_min e_call e_callV e_fn e_cap_ptr e_cap_lit e_cap_sl e_cap_fn e_fnOf_clo e_fnOf_fn e_flat_fn e_clo e_ev_tmp e_ev_int e_ev_bool e_ev_string e_ev_slice e_ev_nilFunc e_ev_nilIface e_ev_pointer e_ev_agg e_ev_func e_pickT e_pickF e_not e_neg e_add e_sub e_mul e_quo e_rem e_eql e_neq e_lss e_leq e_gtr e_geq e_shl e_shr e_and e_or e_xor e_andNot e_beq e_bne e_sadd e_seql e_sneq e_b2_d e_b2_nil e_b2_nnil e_b2_agg e_lits_nil e_lits_cons e_litC e_eqR e_eqArr e_eqOnes_nil e_eqOnes_cons e_eqO_e e_eqO_n e_eqV4 e_eqV3 e_eqV2 e_eqV1 e_eqFs_nil e_eqFs_cons e_and2 e_eq1 e_eqL_i e_eqL_s e_eqL_b e_allocR e_boxR e_box_agg e_box_d e_box_own e_box_clo e_one_nil e_one_d e_one_own e_one_clo e_one_ptr e_cells_agg e_cells_d e_cells_own e_cells_clo e_cells_ptr e_ob_own e_ob_ptr e_ob_elo e_ob_d e_ob_el e_ob_agg e_load_box e_load_fzb e_load_el e_load_elo e_storeX_ptr e_storeX_d e_storeX_own e_storeX_agg e_storeX_el e_storeC' e_notIn_nil e_notIn_cons e_store_box e_storeB e_store_elo e_store_elo_agg e_storeE e_fa_ptr e_fa_el e_fa_elo e_faR e_fd e_fdR e_ia_d e_ia_row e_ia_fz e_ia_ptr e_ia_el e_ix_s e_ix_a e_len_s e_len_nil e_len_d e_len_row e_len_fz e_conv_i e_conv_s e_conv_own e_conv_sl e_extr e_maxR e_minR e_nil_ptr e_nil_el e_nil_elo e_rows_nil e_rows_d e_rows_row e_rows_fz e_rok_nil e_rok_d e_rok_row e_rok_fz e_app_row e_appR e_app_nil e_appN e_make e_bnd_none e_bnd_some e_optmap_none e_optmap_some e_slR e_slRe e_sl_s e_sl_d e_slM_d e_sl_nil e_sl_row e_sl_fz e_fill_nil e_fill_cons e_fill1 e_placeS e_plS e_placeE e_buildO e_build1 e_build2 e_build3 e_bindD e_bs e_bsR e_allD_nil e_allD_cons e_allD_el e_allD_clo e_allD2 e_allD1 e_chunk0 e_chunkS e_clP_nil e_clP_cons e_cl_d e_cl_any e_cl_el e_cl_agg e_cl_tup e_cl_clo e_cl_own e_clOwn_row e_clOwn_fz e_cl_ptr e_clPtr_box e_clBox e_clPtr_fzb e_clL_nil e_clL_cons e_ok_d e_ok_any e_ok_el e_ok_agg e_ok_tup e_ok_clo e_ok_own e_okOwn_row e_okOwn_fz e_ok_ptr e_okPtr_box e_okPtr_fzb e_okL_nil e_okL_cons e_ids_d e_ids_any e_ids_el e_ids_own e_ids_ptr e_ids_agg e_ids_tup e_ids_clo e_idsL_nil e_idsL_cons e_frz_nil e_frz_cons e_frz_row e_frz_fz e_frz_fzb e_frz_box e_frzB e_flat_lit e_flat_sl e_flat_agg e_flat_tup e_flat_any e_flat_clo e_flatL_nil e_flatL_cons e_new_lit e_new_agg e_new_tup e_new_own e_newOwn_row e_newL_nil e_newL_cons e_objD e_setMany e_takeA e_zerosA e_gdL e_idsG e_idsOp e_callV' e_callN' e_callF' e_o_move e_o_assign e_o_pick e_o_unOp e_o_binOp e_o_alloc e_o_box e_o_build e_o_buildSlice e_o_load e_o_store e_o_fieldAddr e_o_field e_o_indexAddr e_o_index e_o_slice0 e_o_slice1 e_o_slice2 e_o_slice3 e_o_sliceM e_o_makeSlice e_o_makeFunc
attribute [local go_sem] e_o_convert e_o_extract e_o_nilCheck e_o_bcall e_o_vcall litI litB litS List.map_cons List.map_nil List.getD_cons_zero List.getD_cons_succ List.getD_nil List.getElem?_cons_zero List.getElem?_cons_succ List.getElem?_nil Option.getD_some Option.getD_none Option.map_some Option.map_none List.length_cons List.length_nil List.all_cons List.all_nil Bool.and_true Bool.true_and and_true true_and and_self List.take_zero List.take_succ_cons List.drop_zero List.drop_succ_cons List.nil_append List.cons_append List.append_nil List.replicate_succ List.replicate_zero List.flatten_cons List.flatten_nil Nat.zero_add Nat.add_zero Nat.mul_one Nat.zero_mul Nat.one_mul Nat.mul_zero List.set_cons_zero List.set_cons_succ List.foldl_cons List.foldl_nil appendOk rowsOk inB sliceOk cutRows mtake mdrop List.length_append List.length_take List.length_drop if_true if_false or_false or_true true_or Bool.not_true Bool.not_false Bool.false_eq_true List.length_map Int.toNat_natCast Int.toNat_zero Int.toNat_one eq_self St.after St.put applyEff R0 T1 T2 T3 T4 T5 T6 T7 T8 T9 T12 T21 T22 T25 T26 T28 T31 T35 T37 T41 T52 T58 T62 T66 T73 T76 T77 T79 T80 T87 T95 ti1 ti2 ti3 ti4 ti5 ti6 ti7 ti8 ti9 ti12 ti21 ti22 ti25 ti26 ti28 ti31 ti35 ti37 ti41 ti52 ti58 ti62 ti66 ti73 ti76 ti77 ti79 ti80 ti87 ti95
section
set_option linter.unusedVariables false
set_option linter.unusedSimpArgs false
open Go.RowKit
attribute [local irreducible] AWp evOps evD
theorem join_snoc (sep y : Bs) : ∀ xs : List Bs, xs ≠ [] → Lib.join (xs ++ [y]) sep = Lib.join xs sep ++ (sep ++ y)
  | [], h => absurd rfl h
  | [x], _ => by
    rw [List.singleton_append, Lib.join_cons, Lib.join_one]
    simp [Lib.joinTail]
  | x :: x2 :: xs, _ => by
    have ih := join_snoc sep y (x2 :: xs) (by simp)
    rw [List.cons_append] at ih ⊢
    rw [Lib.join_cons] at ih ⊢
    rw [Lib.join_cons] at ih ⊢
    simp only [Lib.joinTail, List.cons_append, List.map_cons, List.map_append, List.flatten_cons, List.flatten_append, List.map_nil, List.flatten_nil, List.append_nil, List.append_assoc] at ih ⊢
theorem joinL_snoc (l : List Tok) (t : Tok) : joinL (l ++ [t]) = if vT t = true then (if (l.filter vT).isEmpty = true then bs (spT t) else joinL l ++ (32 :: bs (spT t))) else joinL l := by
  unfold joinL
  rw [List.filter_append]
  cases hv : vT t with
  | false => simp [hv]
  | true =>
    have h1 : [t].filter vT = [t] := by simp [hv]
    rw [h1, List.map_append, List.map_append]
    simp only [if_true]
    cases hf : l.filter vT with
    | nil => simp [Lib.join_one]
    | cons x xs =>
      simp only [List.isEmpty_cons, Bool.false_eq_true, if_false, List.map_cons, List.map_nil]
      exact join_snoc [32] _ _ (by simp)
set_option maxHeartbeats 8000000 in
theorem f22_spec (l : List Tok) (hb : l.length ≤ 1000000) (hs : ∀ t ∈ l, t.s.size ≤ 1000000) : Spec Try.prog 22 [.d (tksD l)] (litS (joinS l)) := by
  obtain ⟨z, hz⟩ : ∃ z, joinS l = z := ⟨_, rfl⟩
  rw [hz]
  refine spec_of_awp (fn := Try.f22) Try.func22 (by kernel_rfl) rfl ?_
  intro w0 C0
  simp only [Try.ntmps22, litI, litB, litS, List.length_cons, List.length_nil, Nat.reduceAdd, Nat.reduceSub, List.replicate_succ, List.replicate_zero, List.cons_append, List.nil_append]
  refine awp_len 0 rfl fun hll => ?_
  simp only [List.length_map] at hll
  repeat' first
    | refine awp_seq ?_
    | refine awp_block ?_
    | refine awp_skip ?_
    | (refine reg _ (by (simp only [List.map_cons, List.map_nil]; rfl)) rfl ?_; intro K hK)
    | (refine awp_cond _ (by rfl) ?_ ?_ <;> (intro hb; first | (cases hb; done) | (have ht : true = true := hb; clear ht hb) | (have ht : false = false := hb; clear ht hb) | (simp only [hb]) | skip))
    | (refine awp_exit ?_; simp only [thenA, blockA, scopeA, reduceIte, RetQ, Nat.reduceEqDiff])
    | (refine awp_ret ?_; simp only [thenA, blockA, scopeA, RetQ])
    | (refine ev_nil (hK _ ?_); clear hK K)
    | (apply ev_step0; (case hr | hσ => (simp only [go_sem]; try rfl)); (case hc => (first | trivial | decide | (simp only [inB, sliceOk, appendOk, rowsOk]; omega) | (simp [inB, sliceOk, appendOk, rowsOk]; omega))))
    | (apply ev_step; (case hr => (simp only [go_sem]; try rfl)); (case hσ => (intro g u; simp only [go_sem]; try rfl)); (case hc => (first | trivial | decide | (simp only [inB, sliceOk, appendOk, rowsOk]; omega) | (simp [inB, sliceOk, appendOk, rowsOk]; omega))); intro g u; (try clear u); (try clear g))
    | fail
  refine awp_loopI (fun j : Nat × ByteArray => j.1 ≤ l.length ∧ bs j.2 = joinL (l.take j.1)) (fun j => l.length - j.1) (fun j => ⟨[.d (tksD l), .any, .any, litS j.2, litB ((l.take j.1).filter vT).isEmpty, litI .i64 j.1, .any, .any, .any, .any, .any, .any, .any, .any, .any, .any, .any, .any, .any, .any, .any, .any, .any, .any, .any, .any, .any, .any, .any, .any], [.no, .no, .no, .no, .no, .no, .no, .no, .no, .no, .no, .no, .no, .no, .no, .no, .no, .no, .no, .no, .no, .no, .no, .no, .no, .no, .no, .no, .no, .no]⟩) (0, ⟨#[]⟩) ⟨by simp, rfl⟩ ?_ ?_
  · refine Wk.mk ?_ ?_
    all_goals (repeat' first | exact trivial | exact LeA.refl _ | exact LeA.any _ | exact LeO.refl _ | exact LeO.no _ | exact LeA.nil _ | exact LeA.nilOwn _ | exact LeO.nil _ _ _ | refine LeO.box ?_ | (refine LeA.i ?_; (first | rfl | (push_cast; rfl) | (rw [wrap_id (by omega)]; push_cast; omega) | (simp [wrap_id]; omega))) | refine ⟨?_, ?_⟩)
  rintro ⟨i, sv⟩ ⟨hi, hvb⟩
  simp only [litI, litB, litS] at hi hvb ⊢
  by_cases h1 : i < l.length
  rotate_left
  · have d1 : decide ((i : Int) < (l.length : Int)) = false := decide_eq_false (by omega)
    have he : sv = z := by
      rw [← hz, joinS]
      refine ba_eq ?_
      rw [hvb, List.take_of_length_le (by omega)]
    subst he
    repeat' first
      | refine awp_seq ?_
      | refine awp_block ?_
      | refine awp_skip ?_
      | (refine reg _ (by (simp only [List.map_cons, List.map_nil]; rfl)) rfl ?_; intro K hK)
      | (refine awp_cond _ (by rfl) ?_ ?_ <;> (intro hb; first | (cases hb; done) | (have ht : true = true := hb; clear ht hb) | (have ht : false = false := hb; clear ht hb) | (simp only [hb]) | skip))
      | (refine awp_exit ?_; simp only [thenA, blockA, scopeA, reduceIte, RetQ, Nat.reduceEqDiff])
      | (refine awp_ret ?_; simp only [thenA, blockA, scopeA, RetQ])
      | (refine ev_nil (hK _ ?_); clear hK K)
      | (apply ev_step0; (case hr | hσ => (simp only [go_sem, d1]; try rfl)); (case hc => (first | trivial | decide | (simp only [inB, sliceOk, appendOk, rowsOk]; omega) | (simp [inB, sliceOk, appendOk, rowsOk]; omega))))
      | (apply ev_step; (case hr => (simp only [go_sem, d1]; try rfl)); (case hσ => (intro g u; simp only [go_sem, d1]; try rfl)); (case hc => (first | trivial | decide | (simp only [inB, sliceOk, appendOk, rowsOk]; omega) | (simp [inB, sliceOk, appendOk, rowsOk]; omega))); intro g u; (try clear u); (try clear g))
      | fail
    all_goals (refine resR_one T_ok rfl _ (by (simp only [go_sem, resA]; rfl)) (by first | trivial | (simp only [go_sem, resA])) (by first | trivial | (simp only [go_sem])) ?_; simp only [go_sem])
    exact LeA.refl _
  have d1 : decide ((i : Int) < (l.length : Int)) = true := decide_eq_true (by omega)
  have hx := tks_at l h1
  have ht := tk_take l h1
  have hzl := joinL_len (l.take i)
  rw [← hvb, bs_len, List.length_take] at hzl
  have w1 : IntKind.i64.wrap ((i : Int) + 1) = ((i + 1 : Nat) : Int) := by rw [wrap_id (by omega)]; push_cast; rfl
  have hxs : (l.getD i tkN).s.size ≤ 1000000 := hs _ (by
    rw [List.getD_eq_getElem?_getD, List.getElem?_eq_getElem h1]
    exact List.getElem_mem h1)
  have hjs := joinL_snoc (l.take i) (l.getD i tkN)
  rw [← ht] at hjs
  have hff : ((l.take (i + 1)).filter vT).isEmpty = (((l.take i).filter vT).isEmpty && !vT (l.getD i tkN)) := by
    rw [ht, List.filter_append]
    generalize l.getD i tkN = x
    cases hq : vT x <;> simp [hq]
  have hjE : ((l.take i).filter vT).isEmpty = true → joinL (l.take i) = [] := fun h => by
    unfold joinL
    rw [List.isEmpty_iff.1 h]; rfl
  generalize l.getD i tkN = x at *
  have h16 := f16_spec x.k x.s x.a hxs
  have h18 := f18_spec x.k x.s x.a hxs
  have hv : vT x = validZ x.k (bs x.s) := rfl
  have hsp : spT x = ⟨(spellZ x.k (bs x.s)).toArray⟩ := rfl
  have hsl : (spT x).size ≤ 82 := by rw [← bs_len, hsp, bs_mk]; exact spell_len
  rw [← hsp] at h18
  rw [← hv] at h16
  generalize spT x = sp at *
  generalize ((l.take i).filter vT).isEmpty = em at *
  cases hq : vT x with
  | false =>
    rw [hq] at h16 hff
    rw [hq, if_neg Bool.false_ne_true] at hjs
    simp only [Bool.not_false, Bool.and_true] at hff
    repeat' first
      | refine awp_seq ?_
      | refine awp_block ?_
      | refine awp_skip ?_
      | (refine reg _ (by (simp only [List.map_cons, List.map_nil]; rfl)) rfl ?_; intro K hK)
      | (refine awp_cond _ (by rfl) ?_ ?_ <;> (intro hb; first | (cases hb; done) | (have ht : true = true := hb; clear ht hb) | (have ht : false = false := hb; clear ht hb) | (simp only [hb]) | skip))
      | (refine awp_exit ?_; simp only [thenA, blockA, scopeA, reduceIte, RetQ, Nat.reduceEqDiff])
      | (refine awp_ret ?_; simp only [thenA, blockA, scopeA, RetQ])
      | (refine ev_nil (hK _ ?_); clear hK K)
      | (apply ev_call0; (case hys => (simp only [go_sem, d1, hx, w1]; try rfl)); (case hs => first | exact h16 ..); (case hok | hσ => (simp only [go_sem, d1, hx, w1]; try rfl)))
      | (apply ev_step0; (case hr | hσ => (simp only [go_sem, d1, hx, w1]; try rfl)); (case hc => (first | trivial | decide | (simp only [inB, sliceOk, appendOk, rowsOk]; omega) | (simp [inB, sliceOk, appendOk, rowsOk]; omega))))
      | (apply ev_step; (case hr => (simp only [go_sem, d1, hx, w1]; try rfl)); (case hσ => (intro g u; simp only [go_sem, d1, hx, w1]; try rfl)); (case hc => (first | trivial | decide | (simp only [inB, sliceOk, appendOk, rowsOk]; omega) | (simp [inB, sliceOk, appendOk, rowsOk]; omega))); intro g u; (try clear u); (try clear g))
      | fail
    refine Exists.intro (i + 1, sv) ⟨⟨by simp only; omega, by rw [hvb, hjs]⟩, by simp only; omega, ?_⟩
    simp only [hff]
    refine Wk.mk ?_ ?_
    all_goals (repeat' first | exact trivial | exact LeA.refl _ | exact LeA.any _ | exact LeO.refl _ | exact LeO.no _ | exact LeA.nil _ | exact LeA.nilOwn _ | exact LeO.nil _ _ _ | refine LeO.box ?_ | (refine LeA.i ?_; (first | rfl | (push_cast; rfl) | (rw [wrap_id (by omega)]; push_cast; omega) | (simp [wrap_id]; omega))) | refine ⟨?_, ?_⟩)
  | true =>
    rw [hq] at h16 hff
    rw [hq, if_pos rfl] at hjs
    simp only [Bool.not_true, Bool.and_false] at hff
    cases em with
    | true =>
      rw [if_pos rfl] at hjs
      have hc := app_size sv sp
      have hnew : bs (sv ++ sp) = joinL (l.take (i + 1)) := by
        rw [bs_app, hvb, hjE rfl, hjs]; rfl
      repeat' first
        | refine awp_seq ?_
        | refine awp_block ?_
        | refine awp_skip ?_
        | (refine reg _ (by (simp only [List.map_cons, List.map_nil]; rfl)) rfl ?_; intro K hK)
        | (refine awp_cond _ (by rfl) ?_ ?_ <;> (intro hb; first | (cases hb; done) | (have ht : true = true := hb; clear ht hb) | (have ht : false = false := hb; clear ht hb) | (simp only [hb]) | skip))
        | (refine awp_exit ?_; simp only [thenA, blockA, scopeA, reduceIte, RetQ, Nat.reduceEqDiff])
        | (refine awp_ret ?_; simp only [thenA, blockA, scopeA, RetQ])
        | (refine ev_nil (hK _ ?_); clear hK K)
        | (apply ev_call0; (case hys => (simp only [go_sem, d1, hx, w1]; try rfl)); (case hs => first | exact h16 .. | exact h18 ..); (case hok | hσ => (simp only [go_sem, d1, hx, w1]; try rfl)))
        | (apply ev_step0; (case hr | hσ => (simp only [go_sem, d1, hx, w1]; try rfl)); (case hc => (first | trivial | decide | (simp only [inB, sliceOk, appendOk, rowsOk]; omega) | (simp [inB, sliceOk, appendOk, rowsOk]; omega))))
        | (apply ev_step; (case hr => (simp only [go_sem, d1, hx, w1]; try rfl)); (case hσ => (intro g u; simp only [go_sem, d1, hx, w1]; try rfl)); (case hc => (first | trivial | decide | (simp only [inB, sliceOk, appendOk, rowsOk]; omega) | (simp [inB, sliceOk, appendOk, rowsOk]; omega))); intro g u; (try clear u); (try clear g))
        | fail
      refine Exists.intro (i + 1, sv ++ sp) ⟨⟨by simp only; omega, hnew⟩, by simp only; omega, ?_⟩
      simp only [hff]
      refine Wk.mk ?_ ?_
      all_goals (repeat' first | exact trivial | exact LeA.refl _ | exact LeA.any _ | exact LeO.refl _ | exact LeO.no _ | exact LeA.nil _ | exact LeA.nilOwn _ | exact LeO.nil _ _ _ | refine LeO.box ?_ | (refine LeA.i ?_; (first | rfl | (push_cast; rfl) | (rw [wrap_id (by omega)]; push_cast; omega) | (simp [wrap_id]; omega))) | refine ⟨?_, ?_⟩)
    | false =>
      rw [if_neg Bool.false_ne_true] at hjs
      have hc := app_size sv ⟨#[32]⟩
      have hc1 : (⟨#[32]⟩ : ByteArray).size = 1 := rfl
      have hc2 : sv.size + (⟨#[32]⟩ : ByteArray).size ≤ 9223372036854775807 := by omega
      have hnew : bs (sv ++ ⟨#[32]⟩ ++ sp) = joinL (l.take (i + 1)) := by
        rw [bs_app, bs_app, hvb, hjs, List.append_assoc]; rfl
      repeat' first
        | refine awp_seq ?_
        | refine awp_block ?_
        | refine awp_skip ?_
        | (refine reg _ (by (simp only [List.map_cons, List.map_nil]; rfl)) rfl ?_; intro K hK)
        | (refine awp_cond _ (by rfl) ?_ ?_ <;> (intro hb; first | (cases hb; done) | (have ht : true = true := hb; clear ht hb) | (have ht : false = false := hb; clear ht hb) | (simp only [hb]) | skip))
        | (refine awp_exit ?_; simp only [thenA, blockA, scopeA, reduceIte, RetQ, Nat.reduceEqDiff])
        | (refine awp_ret ?_; simp only [thenA, blockA, scopeA, RetQ])
        | (refine ev_nil (hK _ ?_); clear hK K)
        | (apply ev_call0; (case hys => (simp only [go_sem, d1, hx, w1]; try rfl)); (case hs => first | exact h16 .. | exact h18 ..); (case hok | hσ => (simp only [go_sem, d1, hx, w1]; try rfl)))
        | (apply ev_step0; (case hr | hσ => (simp only [go_sem, d1, hx, w1]; try rfl)); (case hc => (first | trivial | decide | (simp only [inB, sliceOk, appendOk, rowsOk]; omega) | (simp [inB, sliceOk, appendOk, rowsOk]; omega))))
        | (apply ev_step; (case hr => (simp only [go_sem, d1, hx, w1]; try rfl)); (case hσ => (intro g u; simp only [go_sem, d1, hx, w1]; try rfl)); (case hc => (first | trivial | decide | (simp only [inB, sliceOk, appendOk, rowsOk]; omega) | (simp [inB, sliceOk, appendOk, rowsOk]; omega))); intro g u; (try clear u); (try clear g))
        | fail
      refine Exists.intro (i + 1, sv ++ ⟨#[32]⟩ ++ sp) ⟨⟨by simp only; omega, hnew⟩, by simp only; omega, ?_⟩
      simp only [hff]
      refine Wk.mk ?_ ?_
      all_goals (repeat' first | exact trivial | exact LeA.refl _ | exact LeA.any _ | exact LeO.refl _ | exact LeO.no _ | exact LeA.nil _ | exact LeA.nilOwn _ | exact LeO.nil _ _ _ | refine LeO.box ?_ | (refine LeA.i ?_; (first | rfl | (push_cast; rfl) | (rw [wrap_id (by omega)]; push_cast; omega) | (simp [wrap_id]; omega))) | refine ⟨?_, ?_⟩)
set_option maxHeartbeats 8000000 in
theorem f23_spec (s : ByteArray) (a : Int) (hs : s.size ≤ 1000000) : Spec Try.prog 23 [litS s, litI .i64 a] (.agg [litI .i64 ((1 + feeds ((bs s).take (atN s.size a)) : Nat) : Int), litI .i64 ((atN s.size a : Int) + 1 - (behind ((bs s).take (atN s.size a)) : Int))]) := by
  have hl := bs_len s
  have hat : ∀ i : Nat, i ≤ s.size → (i ≤ atN s.size a) → ((i : Int) < a ∧ i < s.size ↔ i < atN s.size a) := fun i h1 h2 => by unfold atN at *; omega
  have hle := atN_le s.size a
  generalize hn : atN s.size a = n at *
  refine spec_of_awp (fn := Try.f23) Try.func23 (by kernel_rfl) rfl ?_
  intro w0 C0
  simp only [Try.ntmps23, litI, litB, litS, List.length_cons, List.length_nil, Nat.reduceAdd, Nat.reduceSub, List.replicate_succ, List.replicate_zero, List.cons_append, List.nil_append]
  repeat' first
    | refine awp_seq ?_
    | refine awp_block ?_
    | refine awp_skip ?_
    | (refine reg _ (by (simp only [List.map_cons, List.map_nil]; rfl)) rfl ?_; intro K hK)
    | (refine awp_cond _ (by rfl) ?_ ?_ <;> (intro hb; first | (cases hb; done) | (have ht : true = true := hb; clear ht hb) | (have ht : false = false := hb; clear ht hb) | (simp only [hb]) | skip))
    | (refine awp_exit ?_; simp only [thenA, blockA, scopeA, reduceIte, RetQ, Nat.reduceEqDiff])
    | (refine awp_ret ?_; simp only [thenA, blockA, scopeA, RetQ])
    | (refine ev_nil (hK _ ?_); clear hK K)
    | (apply ev_guardU; (case hj | hu | hσ => (simp only [go_sem]; try rfl)))
    | (refine ev_guardT _ _ (by (simp only [go_sem]; rfl)) (by (simp only [go_sem]; rfl)) ?_ ?_ <;> (intro hb; first | (cases hb; done) | (have ht : true = true := hb; clear ht hb) | (have ht : false = false := hb; clear ht hb) | (simp only [hb]) | skip))
    | (refine ev_guardF _ _ (by (simp only [go_sem]; rfl)) (by (simp only [go_sem]; rfl)) ?_ ?_ <;> (intro hb; first | (cases hb; done) | (have ht : true = true := hb; clear ht hb) | (have ht : false = false := hb; clear ht hb) | (simp only [hb]) | skip))
    | (apply ev_step0; (case hr | hσ => (simp only [go_sem]; try rfl)); (case hc => (first | trivial | decide | (simp only [inB, sliceOk, appendOk, rowsOk]; omega) | (simp [inB, sliceOk, appendOk, rowsOk]; omega))))
    | (apply ev_step; (case hr => (simp only [go_sem]; try rfl)); (case hσ => (intro g u; simp only [go_sem]; try rfl)); (case hc => (first | trivial | decide | (simp only [inB, sliceOk, appendOk, rowsOk]; omega) | (simp [inB, sliceOk, appendOk, rowsOk]; omega))); intro g u; (try clear u); (try clear g))
    | fail
  refine awp_loopI (fun i : Nat => i ≤ n) (fun i => n - i) (fun i => ⟨[litS s, litI .i64 a, .any, .any, .ptr 4 g 0, litI .i64 ((1 + feeds ((bs s).take i) : Nat) : Int), litI .i64 ((i : Int) + 1 - (behind ((bs s).take i) : Int)), litI .i64 i, .any, .any, .any, .any, .any, .any, .any, .any, .any, .any, .any, .any, .any, .any, .any, .any, .any, .any, .any, .any, .any, .any], [.no, .no, .no, .no, .box g [litI .i64 0, litI .i64 0], .no, .no, .no, .no, .no, .no, .no, .no, .no, .no, .no, .no, .no, .no, .no, .no, .no, .no, .no, .no, .no, .no, .no, .no, .no]⟩) 0 (by simp) ?_ ?_
  · refine Wk.mk ?_ ?_
    all_goals (repeat' first | exact trivial | exact LeA.refl _ | exact LeA.any _ | exact LeO.refl _ | exact LeO.no _ | exact LeA.nil _ | exact LeA.nilOwn _ | exact LeO.nil _ _ _ | refine LeO.box ?_ | (refine LeA.i ?_; (first | rfl | (push_cast; rfl) | (rw [wrap_id (by omega)]; push_cast; omega) | (simp [wrap_id]; omega))) | refine ⟨?_, ?_⟩)
  rintro i hi
  simp only [litI, litB, litS] at hi ⊢
  have hbl := behind_le ((bs s).take i)
  rw [List.length_take] at hbl
  have hfl := feeds_len ((bs s).take i)
  rw [List.length_take] at hfl
  by_cases h1 : i < n
  · have h2 := (hat i (by omega) hi).2 h1
    have d1 : decide ((i : Int) < a) = true := decide_eq_true h2.1
    have d2 : decide ((i : Int) < (s.size : Int)) = true := decide_eq_true (by omega)
    have hx := byteAt_nat s i
    have htk : (bs s).take (i + 1) = (bs s).take i ++ [(bs s).getD i 0] := by
      rw [List.take_succ_eq_append_getElem (by omega)]
      simp [List.getD_eq_getElem?_getD, hl, h2.2]
    have hf := feeds_snoc ((bs s).getD i 0) ((bs s).take i)
    have hbh := behind_snoc ((bs s).getD i 0) ((bs s).take i)
    rw [← htk] at hf hbh
    have hlt : ((bs s).take i).length = i := by rw [List.length_take]; omega
    rw [hlt] at hbh
    have e1 : ((((bs s).getD i 0).toNat : Int) == 10) = ((bs s).getD i 0 == 10) := u8_eq _ 10
    generalize (bs s).getD i 0 = x at *
    have w1 : IntKind.i64.wrap ((i : Int) + 1) = ((i + 1 : Nat) : Int) := by rw [wrap_id (by omega)]; push_cast; rfl
    have w2 : IntKind.i64.wrap ((i : Int) + 1 - (behind ((bs s).take i) : Int) + 1) = ((i + 1 : Nat) : Int) + 1 - (behind ((bs s).take i) : Int) := by rw [wrap_id (by omega)]; omega
    by_cases h10 : x = 10
    · have f1 : ((x.toNat : Int) == 10) = true := by rw [e1, h10]; rfl
      rw [if_pos h10] at hf hbh
      have w3 : IntKind.i64.wrap (((1 + feeds ((bs s).take i) : Nat) : Int) + 1) = ((1 + feeds ((bs s).take (i + 1)) : Nat) : Int) := by rw [wrap_id (by omega), hf]; omega
      have w4 : ((i + 1 : Nat) : Int) + 1 - (behind ((bs s).take (i + 1)) : Int) = 1 := by rw [hbh]; omega
      clear e1
      repeat' first
        | refine awp_seq ?_
        | refine awp_block ?_
        | refine awp_skip ?_
        | (refine reg _ (by (simp only [List.map_cons, List.map_nil]; rfl)) rfl ?_; intro K hK)
        | (refine awp_cond _ (by rfl) ?_ ?_ <;> (intro hb; first | (cases hb; done) | (have ht : true = true := hb; clear ht hb) | (have ht : false = false := hb; clear ht hb) | (simp only [hb]) | skip))
        | (refine awp_exit ?_; simp only [thenA, blockA, scopeA, reduceIte, RetQ, Nat.reduceEqDiff])
        | (refine awp_ret ?_; simp only [thenA, blockA, scopeA, RetQ])
        | (refine ev_nil (hK _ ?_); clear hK K)
        | (apply ev_guardU; (case hj | hu | hσ => (simp only [go_sem, d1, d2, hx, f1, w1, w2, w3]; try rfl)))
        | (refine ev_guardT _ _ (by (simp only [go_sem, d1, d2, hx, f1, w1, w2, w3]; rfl)) (by (simp only [go_sem, d1, d2, hx, f1, w1, w2, w3]; rfl)) ?_ ?_ <;> (intro hb; first | (cases hb; done) | (have ht : true = true := hb; clear ht hb) | (have ht : false = false := hb; clear ht hb) | (simp only [hb]) | skip))
        | (refine ev_guardF _ _ (by (simp only [go_sem, d1, d2, hx, f1, w1, w2, w3]; rfl)) (by (simp only [go_sem, d1, d2, hx, f1, w1, w2, w3]; rfl)) ?_ ?_ <;> (intro hb; first | (cases hb; done) | (have ht : true = true := hb; clear ht hb) | (have ht : false = false := hb; clear ht hb) | (simp only [hb]) | skip))
        | (apply ev_step0; (case hr | hσ => (simp only [go_sem, d1, d2, hx, f1, w1, w2, w3]; try rfl)); (case hc => (first | trivial | decide | (simp only [inB, sliceOk, appendOk, rowsOk]; omega) | (simp [inB, sliceOk, appendOk, rowsOk]; omega))))
        | (apply ev_step; (case hr => (simp only [go_sem, d1, d2, hx, f1, w1, w2, w3]; try rfl)); (case hσ => (intro g u; simp only [go_sem, d1, d2, hx, f1, w1, w2, w3]; try rfl)); (case hc => (first | trivial | decide | (simp only [inB, sliceOk, appendOk, rowsOk]; omega) | (simp [inB, sliceOk, appendOk, rowsOk]; omega))); intro g u; (try clear u); (try clear g))
        | fail
      refine Exists.intro (i + 1) ⟨by omega, by omega, ?_⟩
      simp only [w4]
      refine Wk.mk ?_ ?_
      all_goals (repeat' first | exact trivial | exact LeA.refl _ | exact LeA.any _ | exact LeO.refl _ | exact LeO.no _ | exact LeA.nil _ | exact LeA.nilOwn _ | exact LeO.nil _ _ _ | refine LeO.box ?_ | (refine LeA.i ?_; (first | rfl | (push_cast; rfl) | (rw [wrap_id (by omega)]; push_cast; omega) | (simp [wrap_id]; omega))) | refine ⟨?_, ?_⟩)
    · have f1 : ((x.toNat : Int) == 10) = false := by rw [e1]; simpa using h10
      rw [if_neg h10] at hf hbh
      rw [Nat.add_zero] at hf
      clear e1
      repeat' first
        | refine awp_seq ?_
        | refine awp_block ?_
        | refine awp_skip ?_
        | (refine reg _ (by (simp only [List.map_cons, List.map_nil]; rfl)) rfl ?_; intro K hK)
        | (refine awp_cond _ (by rfl) ?_ ?_ <;> (intro hb; first | (cases hb; done) | (have ht : true = true := hb; clear ht hb) | (have ht : false = false := hb; clear ht hb) | (simp only [hb]) | skip))
        | (refine awp_exit ?_; simp only [thenA, blockA, scopeA, reduceIte, RetQ, Nat.reduceEqDiff])
        | (refine awp_ret ?_; simp only [thenA, blockA, scopeA, RetQ])
        | (refine ev_nil (hK _ ?_); clear hK K)
        | (apply ev_guardU; (case hj | hu | hσ => (simp only [go_sem, d1, d2, hx, f1, w1, w2]; try rfl)))
        | (refine ev_guardT _ _ (by (simp only [go_sem, d1, d2, hx, f1, w1, w2]; rfl)) (by (simp only [go_sem, d1, d2, hx, f1, w1, w2]; rfl)) ?_ ?_ <;> (intro hb; first | (cases hb; done) | (have ht : true = true := hb; clear ht hb) | (have ht : false = false := hb; clear ht hb) | (simp only [hb]) | skip))
        | (refine ev_guardF _ _ (by (simp only [go_sem, d1, d2, hx, f1, w1, w2]; rfl)) (by (simp only [go_sem, d1, d2, hx, f1, w1, w2]; rfl)) ?_ ?_ <;> (intro hb; first | (cases hb; done) | (have ht : true = true := hb; clear ht hb) | (have ht : false = false := hb; clear ht hb) | (simp only [hb]) | skip))
        | (apply ev_step0; (case hr | hσ => (simp only [go_sem, d1, d2, hx, f1, w1, w2]; try rfl)); (case hc => (first | trivial | decide | (simp only [inB, sliceOk, appendOk, rowsOk]; omega) | (simp [inB, sliceOk, appendOk, rowsOk]; omega))))
        | (apply ev_step; (case hr => (simp only [go_sem, d1, d2, hx, f1, w1, w2]; try rfl)); (case hσ => (intro g u; simp only [go_sem, d1, d2, hx, f1, w1, w2]; try rfl)); (case hc => (first | trivial | decide | (simp only [inB, sliceOk, appendOk, rowsOk]; omega) | (simp [inB, sliceOk, appendOk, rowsOk]; omega))); intro g u; (try clear u); (try clear g))
        | fail
      refine Exists.intro (i + 1) ⟨by omega, by omega, ?_⟩
      simp only [hf, hbh]
      refine Wk.mk ?_ ?_
      all_goals (repeat' first | exact trivial | exact LeA.refl _ | exact LeA.any _ | exact LeO.refl _ | exact LeO.no _ | exact LeA.nil _ | exact LeA.nilOwn _ | exact LeO.nil _ _ _ | refine LeO.box ?_ | (refine LeA.i ?_; (first | rfl | (push_cast; rfl) | (rw [wrap_id (by omega)]; push_cast; omega) | (simp [wrap_id]; omega))) | refine ⟨?_, ?_⟩)
  · have hin : i = n := by omega
    subst hin
    by_cases h3 : (i : Int) < a
    · have d1 : decide ((i : Int) < a) = true := decide_eq_true h3
      have d2 : decide ((i : Int) < (s.size : Int)) = false := decide_eq_false (fun h => h1 ((hat i hle hi).1 ⟨h3, by omega⟩))
      repeat' first
        | refine awp_seq ?_
        | refine awp_block ?_
        | refine awp_skip ?_
        | (refine reg _ (by (simp only [List.map_cons, List.map_nil]; rfl)) rfl ?_; intro K hK)
        | (refine awp_cond _ (by rfl) ?_ ?_ <;> (intro hb; first | (cases hb; done) | (have ht : true = true := hb; clear ht hb) | (have ht : false = false := hb; clear ht hb) | (simp only [hb]) | skip))
        | (refine awp_exit ?_; simp only [thenA, blockA, scopeA, reduceIte, RetQ, Nat.reduceEqDiff])
        | (refine awp_ret ?_; simp only [thenA, blockA, scopeA, RetQ])
        | (refine ev_nil (hK _ ?_); clear hK K)
        | (apply ev_guardU; (case hj | hu | hσ => (simp only [go_sem, d1, d2]; try rfl)))
        | (refine ev_guardT _ _ (by (simp only [go_sem, d1, d2]; rfl)) (by (simp only [go_sem, d1, d2]; rfl)) ?_ ?_ <;> (intro hb; first | (cases hb; done) | (have ht : true = true := hb; clear ht hb) | (have ht : false = false := hb; clear ht hb) | (simp only [hb]) | skip))
        | (refine ev_guardF _ _ (by (simp only [go_sem, d1, d2]; rfl)) (by (simp only [go_sem, d1, d2]; rfl)) ?_ ?_ <;> (intro hb; first | (cases hb; done) | (have ht : true = true := hb; clear ht hb) | (have ht : false = false := hb; clear ht hb) | (simp only [hb]) | skip))
        | (apply ev_step0; (case hr | hσ => (simp only [go_sem, d1, d2]; try rfl)); (case hc => (first | trivial | decide | (simp only [inB, sliceOk, appendOk, rowsOk]; omega) | (simp [inB, sliceOk, appendOk, rowsOk]; omega))))
        | (apply ev_step; (case hr => (simp only [go_sem, d1, d2]; try rfl)); (case hσ => (intro g u; simp only [go_sem, d1, d2]; try rfl)); (case hc => (first | trivial | decide | (simp only [inB, sliceOk, appendOk, rowsOk]; omega) | (simp [inB, sliceOk, appendOk, rowsOk]; omega))); intro g u; (try clear u); (try clear g))
        | fail
      all_goals (refine resR_one T_ok rfl _ (by (simp only [go_sem, resA]; rfl)) (by first | trivial | (simp only [go_sem, resA])) (by first | trivial | (simp only [go_sem])) ?_; simp only [go_sem])
      exact LeA.refl _
    · have d1 : decide ((i : Int) < a) = false := decide_eq_false h3
      repeat' first
        | refine awp_seq ?_
        | refine awp_block ?_
        | refine awp_skip ?_
        | (refine reg _ (by (simp only [List.map_cons, List.map_nil]; rfl)) rfl ?_; intro K hK)
        | (refine awp_cond _ (by rfl) ?_ ?_ <;> (intro hb; first | (cases hb; done) | (have ht : true = true := hb; clear ht hb) | (have ht : false = false := hb; clear ht hb) | (simp only [hb]) | skip))
        | (refine awp_exit ?_; simp only [thenA, blockA, scopeA, reduceIte, RetQ, Nat.reduceEqDiff])
        | (refine awp_ret ?_; simp only [thenA, blockA, scopeA, RetQ])
        | (refine ev_nil (hK _ ?_); clear hK K)
        | (apply ev_guardU; (case hj | hu | hσ => (simp only [go_sem, d1]; try rfl)))
        | (refine ev_guardT _ _ (by (simp only [go_sem, d1]; rfl)) (by (simp only [go_sem, d1]; rfl)) ?_ ?_ <;> (intro hb; first | (cases hb; done) | (have ht : true = true := hb; clear ht hb) | (have ht : false = false := hb; clear ht hb) | (simp only [hb]) | skip))
        | (refine ev_guardF _ _ (by (simp only [go_sem, d1]; rfl)) (by (simp only [go_sem, d1]; rfl)) ?_ ?_ <;> (intro hb; first | (cases hb; done) | (have ht : true = true := hb; clear ht hb) | (have ht : false = false := hb; clear ht hb) | (simp only [hb]) | skip))
        | (apply ev_step0; (case hr | hσ => (simp only [go_sem, d1]; try rfl)); (case hc => (first | trivial | decide | (simp only [inB, sliceOk, appendOk, rowsOk]; omega) | (simp [inB, sliceOk, appendOk, rowsOk]; omega))))
        | (apply ev_step; (case hr => (simp only [go_sem, d1]; try rfl)); (case hσ => (intro g u; simp only [go_sem, d1]; try rfl)); (case hc => (first | trivial | decide | (simp only [inB, sliceOk, appendOk, rowsOk]; omega) | (simp [inB, sliceOk, appendOk, rowsOk]; omega))); intro g u; (try clear u); (try clear g))
        | fail
      all_goals (refine resR_one T_ok rfl _ (by (simp only [go_sem, resA]; rfl)) (by first | trivial | (simp only [go_sem, resA])) (by first | trivial | (simp only [go_sem])) ?_; simp only [go_sem])
      exact LeA.refl _
end
section
set_option linter.unusedVariables false
set_option linter.unusedSimpArgs false
open Go.RowKit
attribute [local irreducible] AWp evOps evD
/-- A token that is found: its cells, the offset behind it, whether it is one. -/
abbrev fndA (k : Int) (c : ByteArray) (a e : Int) (is : Bool) : AV := .agg [litI .i64 k, litS c, litI .i64 a, litI .i64 e, litB is]
set_option maxHeartbeats 8000000 in
theorem f64_spec (s : ByteArray) (a : Nat) (hs : s.size ≤ 20000) (ha : a < s.size) : Spec Try.prog 64 [litS s, litI .i64 (a : Int)] (match (scanT false ((bs s).drop (a + 1))).1 with
    | some c => fndA 3 ⟨c.toArray⟩ (a : Int) ((a + 1 + (scanT false ((bs s).drop (a + 1))).2 : Nat) : Int) (validB 3 c)
    | none => fndA 0 ⟨#[]⟩ 0 0 false) := by
  have hl := bs_len s
  obtain ⟨O, hO⟩ : ∃ O, (scanT false ((bs s).drop (a + 1))).1 = O := ⟨_, rfl⟩
  obtain ⟨z, hz⟩ : ∃ z, a + 1 + (scanT false ((bs s).drop (a + 1))).2 = z := ⟨_, rfl⟩
  rw [hO, hz]
  have wA : IntKind.i64.wrap ((a : Int) + 1) = ((a + 1 : Nat) : Int) := by rw [wrap_id (by omega)]; push_cast; rfl
  refine spec_of_awp (fn := Try.f64) Try.func64 (by kernel_rfl) rfl ?_
  intro w0 C0
  simp only [Try.ntmps64, litI, litB, litS, List.length_cons, List.length_nil, Nat.reduceAdd, Nat.reduceSub, List.replicate_succ, List.replicate_zero, List.cons_append, List.nil_append]
  repeat' first
    | refine awp_seq ?_
    | refine awp_block ?_
    | refine awp_skip ?_
    | (refine reg _ (by (simp only [List.map_cons, List.map_nil]; rfl)) rfl ?_; intro K hK)
    | (refine awp_cond _ (by rfl) ?_ ?_ <;> (intro hb; first | (cases hb; done) | (have ht : true = true := hb; clear ht hb) | (have ht : false = false := hb; clear ht hb) | (simp only [hb]) | skip))
    | (refine awp_exit ?_; simp only [thenA, blockA, scopeA, reduceIte, RetQ, Nat.reduceEqDiff])
    | (refine awp_ret ?_; simp only [thenA, blockA, scopeA, RetQ])
    | (refine ev_nil (hK _ ?_); clear hK K)
    | (apply ev_guardU; (case hj | hu | hσ => (simp only [go_sem, wA]; try rfl)))
    | (refine ev_guardT _ _ (by (simp only [go_sem, wA]; rfl)) (by (simp only [go_sem, wA]; rfl)) ?_ ?_ <;> (intro hb; first | (cases hb; done) | (have ht : true = true := hb; clear ht hb) | (have ht : false = false := hb; clear ht hb) | (simp only [hb]) | skip))
    | (refine ev_guardF _ _ (by (simp only [go_sem, wA]; rfl)) (by (simp only [go_sem, wA]; rfl)) ?_ ?_ <;> (intro hb; first | (cases hb; done) | (have ht : true = true := hb; clear ht hb) | (have ht : false = false := hb; clear ht hb) | (simp only [hb]) | skip))
    | (apply ev_step0; (case hr | hσ => (simp only [go_sem, wA]; try rfl)); (case hc => (first | trivial | decide | (simp only [inB, sliceOk, appendOk, rowsOk]; omega) | (simp [inB, sliceOk, appendOk, rowsOk]; omega))))
    | (apply ev_step; (case hr => (simp only [go_sem, wA]; try rfl)); (case hσ => (intro g u; simp only [go_sem, wA]; try rfl)); (case hc => (first | trivial | decide | (simp only [inB, sliceOk, appendOk, rowsOk]; omega) | (simp [inB, sliceOk, appendOk, rowsOk]; omega))); intro g u; (try clear u); (try clear g))
    | fail
  refine awp_loopI (fun j : Nat × ByteArray => j.1 ≤ s.size ∧ j.2.size ≤ j.1 ∧ z = j.1 + (scanT false ((bs s).drop j.1)).2 ∧ O = (scanT false ((bs s).drop j.1)).1.map (bs j.2 ++ ·)) (fun j => s.size - j.1) (fun j => ⟨[litS s, litI .i64 a, .any, .any, .ptr 4 g 0, litS j.2, litI .i64 j.1, .any, .any, .any, .any, .any, .any, .any, .any, .any, .any, .any, .any, .any, .any, .any, .any, .any, .any, .any, .any, .any, .any, .any, .any, .any, .any, .any, .any, .any, .any, .any, .any, .any, .any, .any, .any, .any, .any, .any, .any, .any, .any, .any, .any, .any, .any, .any, .any, .any, .any, .any], [.no, .no, .no, .no, .box g [litI .i64 0, litS ⟨#[]⟩, litI .i64 0, litI .i64 0, litB false], .no, .no, .no, .no, .no, .no, .no, .no, .no, .no, .no, .no, .no, .no, .no, .no, .no, .no, .no, .no, .no, .no, .no, .no, .no, .no, .no, .no, .no, .no, .no, .no, .no, .no, .no, .no, .no, .no, .no, .no, .no, .no, .no, .no, .no, .no, .no, .no, .no, .no, .no, .no, .no]⟩) (a + 1, ⟨#[]⟩) ⟨by show a + 1 ≤ _; omega, Nat.zero_le _, hz.symm, by rw [hO]; cases O <;> rfl⟩ ?_ ?_
  · refine Wk.mk ?_ ?_
    all_goals (repeat' first | exact trivial | exact LeA.refl _ | exact LeA.any _ | exact LeO.refl _ | exact LeO.no _ | exact LeA.nil _ | exact LeA.nilOwn _ | exact LeO.nil _ _ _ | refine LeO.box ?_ | (refine LeA.i ?_; (first | rfl | (push_cast; rfl) | (rw [wrap_id (by omega)]; push_cast; omega) | (simp [wrap_id]; omega))) | refine ⟨?_, ?_⟩)
  rintro ⟨i, sv⟩ ⟨hi, hal, hzi, hOi⟩
  simp only [litI, litB, litS] at hi hal hzi hOi ⊢
  by_cases h1 : i < s.size
  rotate_left
  · have d1 : decide ((i : Int) < (s.size : Int)) = false := decide_eq_false (by omega)
    rw [List.drop_eq_nil_of_le (by omega)] at hzi hOi
    simp only [scanT, Option.map_none, Nat.add_zero] at hzi hOi
    subst hOi
    repeat' first
      | refine awp_seq ?_
      | refine awp_block ?_
      | refine awp_skip ?_
      | (refine reg _ (by (simp only [List.map_cons, List.map_nil]; rfl)) rfl ?_; intro K hK)
      | (refine awp_cond _ (by rfl) ?_ ?_ <;> (intro hb; first | (cases hb; done) | (have ht : true = true := hb; clear ht hb) | (have ht : false = false := hb; clear ht hb) | (simp only [hb]) | skip))
      | (refine awp_exit ?_; simp only [thenA, blockA, scopeA, reduceIte, RetQ, Nat.reduceEqDiff])
      | (refine awp_ret ?_; simp only [thenA, blockA, scopeA, RetQ])
      | (refine ev_nil (hK _ ?_); clear hK K)
      | (apply ev_guardU; (case hj | hu | hσ => (simp only [go_sem, d1]; try rfl)))
      | (refine ev_guardT _ _ (by (simp only [go_sem, d1]; rfl)) (by (simp only [go_sem, d1]; rfl)) ?_ ?_ <;> (intro hb; first | (cases hb; done) | (have ht : true = true := hb; clear ht hb) | (have ht : false = false := hb; clear ht hb) | (simp only [hb]) | skip))
      | (refine ev_guardF _ _ (by (simp only [go_sem, d1]; rfl)) (by (simp only [go_sem, d1]; rfl)) ?_ ?_ <;> (intro hb; first | (cases hb; done) | (have ht : true = true := hb; clear ht hb) | (have ht : false = false := hb; clear ht hb) | (simp only [hb]) | skip))
      | (apply ev_step0; (case hr | hσ => (simp only [go_sem, d1]; try rfl)); (case hc => (first | trivial | decide | (simp only [inB, sliceOk, appendOk, rowsOk]; omega) | (simp [inB, sliceOk, appendOk, rowsOk]; omega))))
      | (apply ev_step; (case hr => (simp only [go_sem, d1]; try rfl)); (case hσ => (intro g u; simp only [go_sem, d1]; try rfl)); (case hc => (first | trivial | decide | (simp only [inB, sliceOk, appendOk, rowsOk]; omega) | (simp [inB, sliceOk, appendOk, rowsOk]; omega))); intro g u; (try clear u); (try clear g))
      | fail
    all_goals (refine resR_one T_ok rfl _ (by (simp only [go_sem, resA]; rfl)) (by first | trivial | (simp only [go_sem, resA])) (by first | trivial | (simp only [go_sem])) ?_; simp only [go_sem])
    exact LeA.refl _
  have d1 : decide ((i : Int) < (s.size : Int)) = true := decide_eq_true (by omega)
  have hx := byteAt_nat s i
  have hse := sub_one s h1
  have hdr := drop_one (bs s) (i := i) (by omega)
  have w1 : IntKind.i64.wrap ((i : Int) + 1) = ((i + 1 : Nat) : Int) := by rw [wrap_id (by omega)]; push_cast; rfl
  rw [hdr] at hzi hOi
  have e1 : ((((bs s).getD i 0).toNat : Int) == 34) = ((bs s).getD i 0 == 34) := u8_eq _ 34
  have e2 : ((((bs s).getD i 0).toNat : Int) == 92) = ((bs s).getD i 0 == 92) := u8_eq _ 92
  generalize (bs s).getD i 0 = x at *
  by_cases h34 : x = 34
  · have f1 : ((x.toNat : Int) == 34) = true := by rw [e1, h34]; rfl
    simp only [scanT, if_pos h34, Option.map_some, List.append_nil] at hzi hOi
    subst hOi
    have h40 := f40_spec sv (by omega)
    have hb : (⟨(bs sv).toArray⟩ : ByteArray) = sv := rfl
    rw [hzi]
    clear e1 e2
    repeat' first
      | refine awp_seq ?_
      | refine awp_block ?_
      | refine awp_skip ?_
      | (refine reg _ (by (simp only [List.map_cons, List.map_nil]; rfl)) rfl ?_; intro K hK)
      | (refine awp_cond _ (by rfl) ?_ ?_ <;> (intro hb; first | (cases hb; done) | (have ht : true = true := hb; clear ht hb) | (have ht : false = false := hb; clear ht hb) | (simp only [hb]) | skip))
      | (refine awp_exit ?_; simp only [thenA, blockA, scopeA, reduceIte, RetQ, Nat.reduceEqDiff])
      | (refine awp_ret ?_; simp only [thenA, blockA, scopeA, RetQ])
      | (refine ev_nil (hK _ ?_); clear hK K)
      | (apply ev_guardU; (case hj | hu | hσ => (simp only [go_sem, d1, hx, f1, w1]; try rfl)))
      | (refine ev_guardT _ _ (by (simp only [go_sem, d1, hx, f1, w1]; rfl)) (by (simp only [go_sem, d1, hx, f1, w1]; rfl)) ?_ ?_ <;> (intro hb; first | (cases hb; done) | (have ht : true = true := hb; clear ht hb) | (have ht : false = false := hb; clear ht hb) | (simp only [hb]) | skip))
      | (refine ev_guardF _ _ (by (simp only [go_sem, d1, hx, f1, w1]; rfl)) (by (simp only [go_sem, d1, hx, f1, w1]; rfl)) ?_ ?_ <;> (intro hb; first | (cases hb; done) | (have ht : true = true := hb; clear ht hb) | (have ht : false = false := hb; clear ht hb) | (simp only [hb]) | skip))
      | (apply ev_call0; (case hys => (simp only [go_sem, d1, hx, f1, w1]; try rfl)); (case hs => first | exact h40 ..); (case hok | hσ => (simp only [go_sem, d1, hx, f1, w1]; try rfl)))
      | (apply ev_step0; (case hr | hσ => (simp only [go_sem, d1, hx, f1, w1]; try rfl)); (case hc => (first | trivial | decide | (simp only [inB, sliceOk, appendOk, rowsOk]; omega) | (simp [inB, sliceOk, appendOk, rowsOk]; omega))))
      | (apply ev_step; (case hr => (simp only [go_sem, d1, hx, f1, w1]; try rfl)); (case hσ => (intro g u; simp only [go_sem, d1, hx, f1, w1]; try rfl)); (case hc => (first | trivial | decide | (simp only [inB, sliceOk, appendOk, rowsOk]; omega) | (simp [inB, sliceOk, appendOk, rowsOk]; omega))); intro g u; (try clear u); (try clear g))
      | fail
    all_goals (refine resR_one T_ok rfl _ (by (simp only [go_sem, resA]; rfl)) (by first | trivial | (simp only [go_sem, resA])) (by first | trivial | (simp only [go_sem])) ?_; simp only [go_sem])
    exact LeA.refl _
  have f1 : ((x.toNat : Int) == 34) = false := by rw [e1]; simpa using h34
  by_cases h92 : x = 92
  · have f2 : ((x.toNat : Int) == 92) = true := by rw [e2, h92]; rfl
    simp only [scanT, if_neg h34, if_pos h92] at hzi hOi
    clear e1 e2
    by_cases h2 : i + 1 < s.size
    rotate_left
    · have d3 : (((i + 1 : Nat) : Int) == (s.size : Int)) = true := by rw [beq_iff_eq]; omega
      rw [List.drop_eq_nil_of_le (by omega)] at hzi hOi
      simp only [scanT, Option.map_none, Nat.zero_add] at hzi hOi
      subst hOi
      repeat' first
        | refine awp_seq ?_
        | refine awp_block ?_
        | refine awp_skip ?_
        | (refine reg _ (by (simp only [List.map_cons, List.map_nil]; rfl)) rfl ?_; intro K hK)
        | (refine awp_cond _ (by rfl) ?_ ?_ <;> (intro hb; first | (cases hb; done) | (have ht : true = true := hb; clear ht hb) | (have ht : false = false := hb; clear ht hb) | (simp only [hb]) | skip))
        | (refine awp_exit ?_; simp only [thenA, blockA, scopeA, reduceIte, RetQ, Nat.reduceEqDiff])
        | (refine awp_ret ?_; simp only [thenA, blockA, scopeA, RetQ])
        | (refine ev_nil (hK _ ?_); clear hK K)
        | (apply ev_guardU; (case hj | hu | hσ => (simp only [go_sem, d1, d3, hx, f1, f2, w1]; try rfl)))
        | (refine ev_guardT _ _ (by (simp only [go_sem, d1, d3, hx, f1, f2, w1]; rfl)) (by (simp only [go_sem, d1, d3, hx, f1, f2, w1]; rfl)) ?_ ?_ <;> (intro hb; first | (cases hb; done) | (have ht : true = true := hb; clear ht hb) | (have ht : false = false := hb; clear ht hb) | (simp only [hb]) | skip))
        | (refine ev_guardF _ _ (by (simp only [go_sem, d1, d3, hx, f1, f2, w1]; rfl)) (by (simp only [go_sem, d1, d3, hx, f1, f2, w1]; rfl)) ?_ ?_ <;> (intro hb; first | (cases hb; done) | (have ht : true = true := hb; clear ht hb) | (have ht : false = false := hb; clear ht hb) | (simp only [hb]) | skip))
        | (apply ev_step0; (case hr | hσ => (simp only [go_sem, d1, d3, hx, f1, f2, w1]; try rfl)); (case hc => (first | trivial | decide | (simp only [inB, sliceOk, appendOk, rowsOk]; omega) | (simp [inB, sliceOk, appendOk, rowsOk]; omega))))
        | (apply ev_step; (case hr => (simp only [go_sem, d1, d3, hx, f1, f2, w1]; try rfl)); (case hσ => (intro g u; simp only [go_sem, d1, d3, hx, f1, f2, w1]; try rfl)); (case hc => (first | trivial | decide | (simp only [inB, sliceOk, appendOk, rowsOk]; omega) | (simp [inB, sliceOk, appendOk, rowsOk]; omega))); intro g u; (try clear u); (try clear g))
        | fail
      all_goals (refine resR_one T_ok rfl _ (by (simp only [go_sem, resA]; rfl)) (by first | trivial | (simp only [go_sem, resA])) (by first | trivial | (simp only [go_sem])) ?_; simp only [go_sem])
      exact LeA.refl _
    have d3 : (((i + 1 : Nat) : Int) == (s.size : Int)) = false := by rw [beq_eq_false_iff_ne]; omega
    have hx2 := byteAt_nat s (i + 1)
    have hse2 := sub_one s h2
    rw [drop_one (bs s) (i := i + 1) (by omega), show i + 1 + 1 = i + 2 from rfl] at hzi hOi
    have w2 : IntKind.i64.wrap (((i + 1 : Nat) : Int) + 1) = ((i + 2 : Nat) : Int) := by rw [wrap_id (by omega)]; push_cast; omega
    rw [show i + 1 + 1 = i + 2 from rfl] at hse2
    have e1 : ((((bs s).getD (i + 1) 0).toNat : Int) == 34) = ((bs s).getD (i + 1) 0 == 34) := u8_eq _ 34
    have e2 : ((((bs s).getD (i + 1) 0).toNat : Int) == 92) = ((bs s).getD (i + 1) 0 == 92) := u8_eq _ 92
    generalize (bs s).getD (i + 1) 0 = c at *
    have hzc : (⟨#[c]⟩ : ByteArray).size = 1 := rfl
    have hzs := app_size sv ⟨#[c]⟩
    have hcond : sv.size + (⟨#[c]⟩ : ByteArray).size ≤ 9223372036854775807 := by omega
    by_cases hcc : c = 34 ∨ c = 92
    · simp only [scanT, if_pos hcc] at hzi hOi
      have hnew : i + 2 ≤ s.size ∧ (sv ++ ⟨#[c]⟩).size ≤ i + 2 ∧ z = i + 2 + (scanT false ((bs s).drop (i + 2))).2 ∧ O = (scanT false ((bs s).drop (i + 2))).1.map (bs (sv ++ ⟨#[c]⟩) ++ ·) := by
        refine ⟨by omega, by omega, by omega, ?_⟩
        rw [hOi, bs_app]
        cases (scanT false ((bs s).drop (i + 2))).1 <;> simp [bs]
      by_cases hc34 : c = 34
      · have f3 : ((c.toNat : Int) != 34) = false := by rw [bne, e1, hc34]; rfl
        clear e1 e2
        repeat' first
          | refine awp_seq ?_
          | refine awp_block ?_
          | refine awp_skip ?_
          | (refine reg _ (by (simp only [List.map_cons, List.map_nil]; rfl)) rfl ?_; intro K hK)
          | (refine awp_cond _ (by rfl) ?_ ?_ <;> (intro hb; first | (cases hb; done) | (have ht : true = true := hb; clear ht hb) | (have ht : false = false := hb; clear ht hb) | (simp only [hb]) | skip))
          | (refine awp_exit ?_; simp only [thenA, blockA, scopeA, reduceIte, RetQ, Nat.reduceEqDiff])
          | (refine awp_ret ?_; simp only [thenA, blockA, scopeA, RetQ])
          | (refine ev_nil (hK _ ?_); clear hK K)
          | (apply ev_guardU; (case hj | hu | hσ => (simp only [go_sem, d1, d3, hx, hx2, f1, f2, f3, w1, w2, hse2]; try rfl)))
          | (refine ev_guardT _ _ (by (simp only [go_sem, d1, d3, hx, hx2, f1, f2, f3, w1, w2, hse2]; rfl)) (by (simp only [go_sem, d1, d3, hx, hx2, f1, f2, f3, w1, w2, hse2]; rfl)) ?_ ?_ <;> (intro hb; first | (cases hb; done) | (have ht : true = true := hb; clear ht hb) | (have ht : false = false := hb; clear ht hb) | (simp only [hb]) | skip))
          | (refine ev_guardF _ _ (by (simp only [go_sem, d1, d3, hx, hx2, f1, f2, f3, w1, w2, hse2]; rfl)) (by (simp only [go_sem, d1, d3, hx, hx2, f1, f2, f3, w1, w2, hse2]; rfl)) ?_ ?_ <;> (intro hb; first | (cases hb; done) | (have ht : true = true := hb; clear ht hb) | (have ht : false = false := hb; clear ht hb) | (simp only [hb]) | skip))
          | (apply ev_step0; (case hr | hσ => (simp only [go_sem, d1, d3, hx, hx2, f1, f2, f3, w1, w2, hse2]; try rfl)); (case hc => (first | trivial | decide | (simp only [inB, sliceOk, appendOk, rowsOk]; omega) | (simp [inB, sliceOk, appendOk, rowsOk]; omega))))
          | (apply ev_step; (case hr => (simp only [go_sem, d1, d3, hx, hx2, f1, f2, f3, w1, w2, hse2]; try rfl)); (case hσ => (intro g u; simp only [go_sem, d1, d3, hx, hx2, f1, f2, f3, w1, w2, hse2]; try rfl)); (case hc => (first | trivial | decide | (simp only [inB, sliceOk, appendOk, rowsOk]; omega) | (simp [inB, sliceOk, appendOk, rowsOk]; omega))); intro g u; (try clear u); (try clear g))
          | fail
        refine Exists.intro (i + 2, sv ++ ⟨#[c]⟩) ⟨hnew, by simp only; omega, ?_⟩
        refine Wk.mk ?_ ?_
        all_goals (repeat' first | exact trivial | exact LeA.refl _ | exact LeA.any _ | exact LeO.refl _ | exact LeO.no _ | exact LeA.nil _ | exact LeA.nilOwn _ | exact LeO.nil _ _ _ | refine LeO.box ?_ | (refine LeA.i ?_; (first | rfl | (push_cast; rfl) | (rw [wrap_id (by omega)]; push_cast; omega) | (simp [wrap_id]; omega))) | refine ⟨?_, ?_⟩)
      · have f3 : ((c.toNat : Int) != 34) = true := by rw [bne, e1]; simpa using hc34
        have f4 : ((c.toNat : Int) != 92) = false := by rw [bne, e2, hcc.resolve_left hc34]; rfl
        clear e1 e2
        repeat' first
          | refine awp_seq ?_
          | refine awp_block ?_
          | refine awp_skip ?_
          | (refine reg _ (by (simp only [List.map_cons, List.map_nil]; rfl)) rfl ?_; intro K hK)
          | (refine awp_cond _ (by rfl) ?_ ?_ <;> (intro hb; first | (cases hb; done) | (have ht : true = true := hb; clear ht hb) | (have ht : false = false := hb; clear ht hb) | (simp only [hb]) | skip))
          | (refine awp_exit ?_; simp only [thenA, blockA, scopeA, reduceIte, RetQ, Nat.reduceEqDiff])
          | (refine awp_ret ?_; simp only [thenA, blockA, scopeA, RetQ])
          | (refine ev_nil (hK _ ?_); clear hK K)
          | (apply ev_guardU; (case hj | hu | hσ => (simp only [go_sem, d1, d3, hx, hx2, f1, f2, f3, f4, w1, w2, hse2]; try rfl)))
          | (refine ev_guardT _ _ (by (simp only [go_sem, d1, d3, hx, hx2, f1, f2, f3, f4, w1, w2, hse2]; rfl)) (by (simp only [go_sem, d1, d3, hx, hx2, f1, f2, f3, f4, w1, w2, hse2]; rfl)) ?_ ?_ <;> (intro hb; first | (cases hb; done) | (have ht : true = true := hb; clear ht hb) | (have ht : false = false := hb; clear ht hb) | (simp only [hb]) | skip))
          | (refine ev_guardF _ _ (by (simp only [go_sem, d1, d3, hx, hx2, f1, f2, f3, f4, w1, w2, hse2]; rfl)) (by (simp only [go_sem, d1, d3, hx, hx2, f1, f2, f3, f4, w1, w2, hse2]; rfl)) ?_ ?_ <;> (intro hb; first | (cases hb; done) | (have ht : true = true := hb; clear ht hb) | (have ht : false = false := hb; clear ht hb) | (simp only [hb]) | skip))
          | (apply ev_step0; (case hr | hσ => (simp only [go_sem, d1, d3, hx, hx2, f1, f2, f3, f4, w1, w2, hse2]; try rfl)); (case hc => (first | trivial | decide | (simp only [inB, sliceOk, appendOk, rowsOk]; omega) | (simp [inB, sliceOk, appendOk, rowsOk]; omega))))
          | (apply ev_step; (case hr => (simp only [go_sem, d1, d3, hx, hx2, f1, f2, f3, f4, w1, w2, hse2]; try rfl)); (case hσ => (intro g u; simp only [go_sem, d1, d3, hx, hx2, f1, f2, f3, f4, w1, w2, hse2]; try rfl)); (case hc => (first | trivial | decide | (simp only [inB, sliceOk, appendOk, rowsOk]; omega) | (simp [inB, sliceOk, appendOk, rowsOk]; omega))); intro g u; (try clear u); (try clear g))
          | fail
        refine Exists.intro (i + 2, sv ++ ⟨#[c]⟩) ⟨hnew, by simp only; omega, ?_⟩
        refine Wk.mk ?_ ?_
        all_goals (repeat' first | exact trivial | exact LeA.refl _ | exact LeA.any _ | exact LeO.refl _ | exact LeO.no _ | exact LeA.nil _ | exact LeA.nilOwn _ | exact LeO.nil _ _ _ | refine LeO.box ?_ | (refine LeA.i ?_; (first | rfl | (push_cast; rfl) | (rw [wrap_id (by omega)]; push_cast; omega) | (simp [wrap_id]; omega))) | refine ⟨?_, ?_⟩)
    · have f3 : ((c.toNat : Int) != 34) = true := by rw [bne, e1]; simpa using fun h => hcc (.inl h)
      have f4 : ((c.toNat : Int) != 92) = true := by rw [bne, e2]; simpa using fun h => hcc (.inr h)
      simp only [scanT, if_neg hcc, Option.map_none] at hzi hOi
      subst hOi
      clear e1 e2
      repeat' first
        | refine awp_seq ?_
        | refine awp_block ?_
        | refine awp_skip ?_
        | (refine reg _ (by (simp only [List.map_cons, List.map_nil]; rfl)) rfl ?_; intro K hK)
        | (refine awp_cond _ (by rfl) ?_ ?_ <;> (intro hb; first | (cases hb; done) | (have ht : true = true := hb; clear ht hb) | (have ht : false = false := hb; clear ht hb) | (simp only [hb]) | skip))
        | (refine awp_exit ?_; simp only [thenA, blockA, scopeA, reduceIte, RetQ, Nat.reduceEqDiff])
        | (refine awp_ret ?_; simp only [thenA, blockA, scopeA, RetQ])
        | (refine ev_nil (hK _ ?_); clear hK K)
        | (apply ev_guardU; (case hj | hu | hσ => (simp only [go_sem, d1, d3, hx, hx2, f1, f2, f3, f4, w1, w2]; try rfl)))
        | (refine ev_guardT _ _ (by (simp only [go_sem, d1, d3, hx, hx2, f1, f2, f3, f4, w1, w2]; rfl)) (by (simp only [go_sem, d1, d3, hx, hx2, f1, f2, f3, f4, w1, w2]; rfl)) ?_ ?_ <;> (intro hb; first | (cases hb; done) | (have ht : true = true := hb; clear ht hb) | (have ht : false = false := hb; clear ht hb) | (simp only [hb]) | skip))
        | (refine ev_guardF _ _ (by (simp only [go_sem, d1, d3, hx, hx2, f1, f2, f3, f4, w1, w2]; rfl)) (by (simp only [go_sem, d1, d3, hx, hx2, f1, f2, f3, f4, w1, w2]; rfl)) ?_ ?_ <;> (intro hb; first | (cases hb; done) | (have ht : true = true := hb; clear ht hb) | (have ht : false = false := hb; clear ht hb) | (simp only [hb]) | skip))
        | (apply ev_step0; (case hr | hσ => (simp only [go_sem, d1, d3, hx, hx2, f1, f2, f3, f4, w1, w2]; try rfl)); (case hc => (first | trivial | decide | (simp only [inB, sliceOk, appendOk, rowsOk]; omega) | (simp [inB, sliceOk, appendOk, rowsOk]; omega))))
        | (apply ev_step; (case hr => (simp only [go_sem, d1, d3, hx, hx2, f1, f2, f3, f4, w1, w2]; try rfl)); (case hσ => (intro g u; simp only [go_sem, d1, d3, hx, hx2, f1, f2, f3, f4, w1, w2]; try rfl)); (case hc => (first | trivial | decide | (simp only [inB, sliceOk, appendOk, rowsOk]; omega) | (simp [inB, sliceOk, appendOk, rowsOk]; omega))); intro g u; (try clear u); (try clear g))
        | fail
      all_goals (refine resR_one T_ok rfl _ (by (simp only [go_sem, resA]; rfl)) (by first | trivial | (simp only [go_sem, resA])) (by first | trivial | (simp only [go_sem])) ?_; simp only [go_sem])
      exact LeA.refl _
  · have f2 : ((x.toNat : Int) == 92) = false := by rw [e2]; simpa using h92
    simp only [scanT, if_neg h34, if_neg h92] at hzi hOi
    have hzx : (⟨#[x]⟩ : ByteArray).size = 1 := rfl
    have hzs := app_size sv ⟨#[x]⟩
    have hcond : sv.size + (⟨#[x]⟩ : ByteArray).size ≤ 9223372036854775807 := by omega
    clear e1 e2
    repeat' first
      | refine awp_seq ?_
      | refine awp_block ?_
      | refine awp_skip ?_
      | (refine reg _ (by (simp only [List.map_cons, List.map_nil]; rfl)) rfl ?_; intro K hK)
      | (refine awp_cond _ (by rfl) ?_ ?_ <;> (intro hb; first | (cases hb; done) | (have ht : true = true := hb; clear ht hb) | (have ht : false = false := hb; clear ht hb) | (simp only [hb]) | skip))
      | (refine awp_exit ?_; simp only [thenA, blockA, scopeA, reduceIte, RetQ, Nat.reduceEqDiff])
      | (refine awp_ret ?_; simp only [thenA, blockA, scopeA, RetQ])
      | (refine ev_nil (hK _ ?_); clear hK K)
      | (apply ev_guardU; (case hj | hu | hσ => (simp only [go_sem, d1, hx, f1, f2, w1, hse]; try rfl)))
      | (refine ev_guardT _ _ (by (simp only [go_sem, d1, hx, f1, f2, w1, hse]; rfl)) (by (simp only [go_sem, d1, hx, f1, f2, w1, hse]; rfl)) ?_ ?_ <;> (intro hb; first | (cases hb; done) | (have ht : true = true := hb; clear ht hb) | (have ht : false = false := hb; clear ht hb) | (simp only [hb]) | skip))
      | (refine ev_guardF _ _ (by (simp only [go_sem, d1, hx, f1, f2, w1, hse]; rfl)) (by (simp only [go_sem, d1, hx, f1, f2, w1, hse]; rfl)) ?_ ?_ <;> (intro hb; first | (cases hb; done) | (have ht : true = true := hb; clear ht hb) | (have ht : false = false := hb; clear ht hb) | (simp only [hb]) | skip))
      | (apply ev_step0; (case hr | hσ => (simp only [go_sem, d1, hx, f1, f2, w1, hse]; try rfl)); (case hc => (first | trivial | decide | (simp only [inB, sliceOk, appendOk, rowsOk]; omega) | (simp [inB, sliceOk, appendOk, rowsOk]; omega))))
      | (apply ev_step; (case hr => (simp only [go_sem, d1, hx, f1, f2, w1, hse]; try rfl)); (case hσ => (intro g u; simp only [go_sem, d1, hx, f1, f2, w1, hse]; try rfl)); (case hc => (first | trivial | decide | (simp only [inB, sliceOk, appendOk, rowsOk]; omega) | (simp [inB, sliceOk, appendOk, rowsOk]; omega))); intro g u; (try clear u); (try clear g))
      | fail
    refine Exists.intro (i + 1, sv ++ ⟨#[x]⟩) ⟨⟨by simp only; omega, by simp only; omega, by simp only; omega, ?_⟩, by simp only; omega, ?_⟩
    · rw [hOi, bs_app]
      cases (scanT false ((bs s).drop (i + 1))).1 <;> simp [bs]
    refine Wk.mk ?_ ?_
    all_goals (repeat' first | exact trivial | exact LeA.refl _ | exact LeA.any _ | exact LeO.refl _ | exact LeO.no _ | exact LeA.nil _ | exact LeA.nilOwn _ | exact LeO.nil _ _ _ | refine LeO.box ?_ | (refine LeA.i ?_; (first | rfl | (push_cast; rfl) | (rw [wrap_id (by omega)]; push_cast; omega) | (simp [wrap_id]; omega))) | refine ⟨?_, ?_⟩)
end
section
set_option linter.unusedVariables false
set_option linter.unusedSimpArgs false
open Go.RowKit
attribute [local irreducible] AWp evOps evD
theorem ldB_true : ldB true = wordB := funext fun b => by unfold ldB wordB; rw [Bool.true_and, Bool.or_comm]
theorem ldB_false : ldB false = digitB := funext fun b => by unfold ldB; simp
/-- What Next answers where a token is, and whether one is. -/
def NextOk (s : ByteArray) (a : Nat) (r : AV) : Prop := ∃ (k : Int) (c : ByteArray) (a' e : Int), r = fndA k c a' e (validB (kindB ((bs s).getD a 0)) (scanB ((bs s).drop a)).1) ∧
  (validB (kindB ((bs s).getD a 0)) (scanB ((bs s).drop a)).1 = true → k = (kindB ((bs s).getD a 0) : Int) ∧ bs c = (scanB ((bs s).drop a)).1 ∧ a' = (a : Int) ∧ e = ((a + (scanB ((bs s).drop a)).2 : Nat) : Int))
theorem f47_quote (s : ByteArray) (a : Nat) (hs : s.size ≤ 20000) (ha : a < s.size) (h34 : (bs s).getD a 0 = 34) : ∃ r, Spec Try.prog 47 [litS s, litI .i64 (a : Int)] r ∧ NextOk s a r := by
  have hl := bs_len s
  have h64 := f64_spec s a hs ha
  have hx := byteAt_nat s a
  have hdr := drop_one (bs s) (i := a) (by omega)
  unfold NextOk
  rw [h34] at hx hdr ⊢
  have hsc : scanB ((bs s).drop a) = match quoteF false ((bs s).drop (a + 1)) with | none => ([0], 0) | some x => (x.1, x.2 + 1) := by
    rw [hdr]; rfl
  rw [scanT_quote] at hsc
  have f1 : (((34 : UInt8).toNat : Int) == 34) = true := rfl
  cases hO : (scanT false ((bs s).drop (a + 1))).1 with
  | none =>
    rw [hO] at h64 hsc
    simp only [Option.map_none] at hsc
    simp only [litI, litB, litS] at h64
    have hv : validB (kindB 34) (scanB ((bs s).drop a)).1 = false := by rw [hsc]; decide
    rw [hv]
    generalize ((34 : UInt8).toNat : Int) = y at *
    refine ⟨_, ?_, 0, ⟨#[]⟩, 0, 0, rfl, fun h => by cases h⟩
    refine spec_of_awp (fn := Try.f47) Try.func47 (by kernel_rfl) rfl ?_
    intro w0 C0
    simp only [Try.ntmps47, litI, litB, litS, List.length_cons, List.length_nil, Nat.reduceAdd, Nat.reduceSub, List.replicate_succ, List.replicate_zero, List.cons_append, List.nil_append]
    repeat' first
      | refine awp_seq ?_
      | refine awp_block ?_
      | refine awp_skip ?_
      | (refine reg _ (by (simp only [List.map_cons, List.map_nil]; rfl)) rfl ?_; intro K hK)
      | (refine awp_cond _ (by rfl) ?_ ?_ <;> (intro hb; first | (cases hb; done) | (have ht : true = true := hb; clear ht hb) | (have ht : false = false := hb; clear ht hb) | (simp only [hb]) | skip))
      | (refine awp_exit ?_; simp only [thenA, blockA, scopeA, reduceIte, RetQ, Nat.reduceEqDiff])
      | (refine awp_ret ?_; simp only [thenA, blockA, scopeA, RetQ])
      | (refine ev_nil (hK _ ?_); clear hK K)
      | (apply ev_guardU; (case hj | hu | hσ => (simp only [go_sem, hx, f1]; try rfl)))
      | (refine ev_guardT _ _ (by (simp only [go_sem, hx, f1]; rfl)) (by (simp only [go_sem, hx, f1]; rfl)) ?_ ?_ <;> (intro hb; first | (cases hb; done) | (have ht : true = true := hb; clear ht hb) | (have ht : false = false := hb; clear ht hb) | (simp only [hb]) | skip))
      | (refine ev_guardF _ _ (by (simp only [go_sem, hx, f1]; rfl)) (by (simp only [go_sem, hx, f1]; rfl)) ?_ ?_ <;> (intro hb; first | (cases hb; done) | (have ht : true = true := hb; clear ht hb) | (have ht : false = false := hb; clear ht hb) | (simp only [hb]) | skip))
      | (apply ev_call0; (case hys => (simp only [go_sem, hx, f1]; try rfl)); (case hs => first | exact h64 ..); (case hok | hσ => (simp only [go_sem, hx, f1]; try rfl)))
      | (apply ev_step0; (case hr | hσ => (simp only [go_sem, hx, f1]; try rfl)); (case hc => (first | trivial | decide | (simp only [inB, sliceOk, appendOk, rowsOk]; omega) | (simp [inB, sliceOk, appendOk, rowsOk]; omega))))
      | (apply ev_step; (case hr => (simp only [go_sem, hx, f1]; try rfl)); (case hσ => (intro g u; simp only [go_sem, hx, f1]; try rfl)); (case hc => (first | trivial | decide | (simp only [inB, sliceOk, appendOk, rowsOk]; omega) | (simp [inB, sliceOk, appendOk, rowsOk]; omega))); intro g u; (try clear u); (try clear g))
      | fail
    all_goals (refine resR_one T_ok rfl _ (by (simp only [go_sem, resA]; rfl)) (by first | trivial | (simp only [go_sem, resA])) (by first | trivial | (simp only [go_sem])) ?_; simp only [go_sem])
    exact LeA.refl _
  | some c =>
    rw [hO] at h64 hsc
    simp only [Option.map_some] at hsc
    simp only [litI, litB, litS] at h64
    have hk : kindB 34 = 3 := rfl
    rw [hk, hsc]
    generalize ((34 : UInt8).toNat : Int) = y at *
    refine ⟨_, ?_, 3, ⟨c.toArray⟩, (a : Int), ((a + 1 + (scanT false ((bs s).drop (a + 1))).2 : Nat) : Int), rfl, fun _ => ⟨rfl, bs_mk c, rfl, by simp only; omega⟩⟩
    refine spec_of_awp (fn := Try.f47) Try.func47 (by kernel_rfl) rfl ?_
    intro w0 C0
    simp only [Try.ntmps47, litI, litB, litS, List.length_cons, List.length_nil, Nat.reduceAdd, Nat.reduceSub, List.replicate_succ, List.replicate_zero, List.cons_append, List.nil_append]
    repeat' first
      | refine awp_seq ?_
      | refine awp_block ?_
      | refine awp_skip ?_
      | (refine reg _ (by (simp only [List.map_cons, List.map_nil]; rfl)) rfl ?_; intro K hK)
      | (refine awp_cond _ (by rfl) ?_ ?_ <;> (intro hb; first | (cases hb; done) | (have ht : true = true := hb; clear ht hb) | (have ht : false = false := hb; clear ht hb) | (simp only [hb]) | skip))
      | (refine awp_exit ?_; simp only [thenA, blockA, scopeA, reduceIte, RetQ, Nat.reduceEqDiff])
      | (refine awp_ret ?_; simp only [thenA, blockA, scopeA, RetQ])
      | (refine ev_nil (hK _ ?_); clear hK K)
      | (apply ev_guardU; (case hj | hu | hσ => (simp only [go_sem, hx, f1]; try rfl)))
      | (refine ev_guardT _ _ (by (simp only [go_sem, hx, f1]; rfl)) (by (simp only [go_sem, hx, f1]; rfl)) ?_ ?_ <;> (intro hb; first | (cases hb; done) | (have ht : true = true := hb; clear ht hb) | (have ht : false = false := hb; clear ht hb) | (simp only [hb]) | skip))
      | (refine ev_guardF _ _ (by (simp only [go_sem, hx, f1]; rfl)) (by (simp only [go_sem, hx, f1]; rfl)) ?_ ?_ <;> (intro hb; first | (cases hb; done) | (have ht : true = true := hb; clear ht hb) | (have ht : false = false := hb; clear ht hb) | (simp only [hb]) | skip))
      | (apply ev_call0; (case hys => (simp only [go_sem, hx, f1]; try rfl)); (case hs => first | exact h64 ..); (case hok | hσ => (simp only [go_sem, hx, f1]; try rfl)))
      | (apply ev_step0; (case hr | hσ => (simp only [go_sem, hx, f1]; try rfl)); (case hc => (first | trivial | decide | (simp only [inB, sliceOk, appendOk, rowsOk]; omega) | (simp [inB, sliceOk, appendOk, rowsOk]; omega))))
      | (apply ev_step; (case hr => (simp only [go_sem, hx, f1]; try rfl)); (case hσ => (intro g u; simp only [go_sem, hx, f1]; try rfl)); (case hc => (first | trivial | decide | (simp only [inB, sliceOk, appendOk, rowsOk]; omega) | (simp [inB, sliceOk, appendOk, rowsOk]; omega))); intro g u; (try clear u); (try clear g))
      | fail
    all_goals (refine resR_one T_ok rfl _ (by (simp only [go_sem, resA]; rfl)) (by first | trivial | (simp only [go_sem, resA])) (by first | trivial | (simp only [go_sem])) ?_; simp only [go_sem])
    exact LeA.refl _
set_option maxHeartbeats 4000000 in
theorem f47_letter (s : ByteArray) (a : Nat) (hs : s.size ≤ 20000) (ha : a < s.size) (hlt : letterB ((bs s).getD a 0) = true) : ∃ r, Spec Try.prog 47 [litS s, litI .i64 (a : Int)] r ∧ NextOk s a r := by
  have hl := bs_len s
  have h65 := f65_spec s a true (by omega) (by omega)
  rw [ldB_true] at h65
  have hx := byteAt_nat s a
  have hdr := drop_one (bs s) (i := a) (by omega)
  have hle := runN_le wordB ((bs s).drop a)
  rw [List.length_drop] at hle
  have hsc : scanB ((bs s).drop a) = (((bs s).drop a).take (runN wordB ((bs s).drop a)), runN wordB ((bs s).drop a)) := by
    rw [hdr]; simp only [scanB, if_pos hlt]
  unfold NextOk
  rw [hsc]
  have h60 := f60_spec ((bs s).getD a 0)
  have h61 := f61_spec ((bs s).getD a 0)
  have hnd : digitB ((bs s).getD a 0) = false := by
    cases hd : digitB ((bs s).getD a 0) with
    | false => rfl
    | true => rw [digit_no hd] at hlt; cases hlt
  rw [hlt] at h60
  rw [hnd] at h61
  have hk : kindB ((bs s).getD a 0) = 1 := by rw [kindB, if_pos hlt]
  rw [hk]
  have hn34 : (((bs s).getD a 0).toNat : Int) ≠ 34 := fun h => by
    have : (bs s).getD a 0 = 34 := UInt8.toNat_inj.1 (by show _ = 34; omega)
    rw [this] at hlt; exact absurd hlt (by decide)
  have f1 : ((((bs s).getD a 0).toNat : Int) == 34) = false := by rw [beq_eq_false_iff_ne]; exact hn34
  have hsub := bs_sub s a (a + runN wordB ((bs s).drop a))
  rw [Nat.add_sub_cancel_left] at hsub
  have hz := sub_size s a (runN wordB ((bs s).drop a)) (by omega)
  have h16 := f16_spec 1 (s.extract a (a + runN wordB ((bs s).drop a))) (a : Int) (by show (subS s a _).size ≤ _; rw [hz]; omega)
  have hvz : validZ 1 (bs (s.extract a (a + runN wordB ((bs s).drop a)))) = validB 1 (((bs s).drop a).take (runN wordB ((bs s).drop a))) := by rw [hsub]; rfl
  rw [hvz] at h16
  generalize runN wordB ((bs s).drop a) = n at *
  generalize (bs s).getD a 0 = x at *
  refine ⟨_, ?_, 1, s.extract a (a + n), (a : Int), ((a + n : Nat) : Int), rfl, fun _ => ⟨rfl, hsub, rfl, rfl⟩⟩
  generalize validB 1 (((bs s).drop a).take n) = q at *
  generalize he : a + n = e at *
  refine spec_of_awp (fn := Try.f47) Try.func47 (by kernel_rfl) rfl ?_
  intro w0 C0
  simp only [Try.ntmps47, litI, litB, litS, List.length_cons, List.length_nil, Nat.reduceAdd, Nat.reduceSub, List.replicate_succ, List.replicate_zero, List.cons_append, List.nil_append]
  repeat' first
    | refine awp_seq ?_
    | refine awp_block ?_
    | refine awp_skip ?_
    | (refine reg _ (by (simp only [List.map_cons, List.map_nil]; rfl)) rfl ?_; intro K hK)
    | (refine awp_cond _ (by rfl) ?_ ?_ <;> (intro hb; first | (cases hb; done) | (have ht : true = true := hb; clear ht hb) | (have ht : false = false := hb; clear ht hb) | (simp only [hb]) | skip))
    | (refine awp_exit ?_; simp only [thenA, blockA, scopeA, reduceIte, RetQ, Nat.reduceEqDiff])
    | (refine awp_ret ?_; simp only [thenA, blockA, scopeA, RetQ])
    | (refine ev_nil (hK _ ?_); clear hK K)
    | (apply ev_guardU; (case hj | hu | hσ => (simp only [go_sem, hx, f1]; try rfl)))
    | (refine ev_guardT _ _ (by (simp only [go_sem, hx, f1]; rfl)) (by (simp only [go_sem, hx, f1]; rfl)) ?_ ?_ <;> (intro hb; first | (cases hb; done) | (have ht : true = true := hb; clear ht hb) | (have ht : false = false := hb; clear ht hb) | (simp only [hb]) | skip))
    | (refine ev_guardF _ _ (by (simp only [go_sem, hx, f1]; rfl)) (by (simp only [go_sem, hx, f1]; rfl)) ?_ ?_ <;> (intro hb; first | (cases hb; done) | (have ht : true = true := hb; clear ht hb) | (have ht : false = false := hb; clear ht hb) | (simp only [hb]) | skip))
    | (apply ev_call0; (case hys => (simp only [go_sem, hx, f1]; try rfl)); (case hs => first | exact h65 .. | exact h60 .. | exact h61 .. | exact h16 ..); (case hok | hσ => (simp only [go_sem, hx, f1]; try rfl)))
    | (apply regD; (case hd => (simp only [List.map_cons, List.map_nil]; rfl)); (case hok => rfl); (case' h => (intro K hK; (repeat' first
        | (apply evd_nil; refine (hK _ ?_); clear hK K)
        | (apply evd_call0; (case hi | hys => (simp only [go_sem, hx, f1]; try rfl)); (case hs => first | exact h65 .. | exact h60 .. | exact h61 .. | exact h16 ..); (case hok | hw | hσ => (simp only [go_sem, hx, f1]; try rfl)))
        | (apply evd_step0; (case hr | hi | hσ => (simp only [go_sem, hx, f1]; try rfl)); (case hc => (first | trivial | decide | (simp only [inB, sliceOk, appendOk, rowsOk]; omega) | (simp [inB, sliceOk, appendOk, rowsOk]; omega))))
        | (apply evd_step; (case hr | hi => (simp only [go_sem, hx, f1]; try rfl)); (case hc => (first | trivial | decide | (simp only [inB, sliceOk, appendOk, rowsOk]; omega) | (simp [inB, sliceOk, appendOk, rowsOk]; omega))); (case hw | hσ => (intro g u; simp only [go_sem, hx, f1]; try rfl)); (case' hk => (intro g u; (try clear u); (try clear g))))
        | fail))); (case hB => kernel_rfl))
    | (apply ev_step0; (case hr | hσ => (simp only [go_sem, hx, f1]; try rfl)); (case hc => (first | trivial | decide | (simp only [inB, sliceOk, appendOk, rowsOk]; omega) | (simp [inB, sliceOk, appendOk, rowsOk]; omega))))
    | (apply ev_step; (case hr => (simp only [go_sem, hx, f1]; try rfl)); (case hσ => (intro g u; simp only [go_sem, hx, f1]; try rfl)); (case hc => (first | trivial | decide | (simp only [inB, sliceOk, appendOk, rowsOk]; omega) | (simp [inB, sliceOk, appendOk, rowsOk]; omega))); intro g u; (try clear u); (try clear g))
    | fail
  all_goals (refine resR_one T_ok rfl _ (by (simp only [go_sem, resA]; rfl)) (by first | trivial | (simp only [go_sem, resA])) (by first | trivial | (simp only [go_sem])) ?_; simp only [go_sem])
  exact LeA.refl _
set_option maxRecDepth 100000 in
set_option maxHeartbeats 8000000 in
theorem f47_sign (s : ByteArray) (a : Nat) (hs : s.size ≤ 20000) (ha : a < s.size) (hlt : letterB ((bs s).getD a 0) = false) (hdg : digitB ((bs s).getD a 0) = false) (h34 : (bs s).getD a 0 ≠ 34) : ∃ r, Spec Try.prog 47 [litS s, litI .i64 (a : Int)] r ∧ NextOk s a r := by
  have hl := bs_len s
  have h65 := f65_spec s a true (by omega) (by omega)
  have hx := byteAt_nat s a
  have hx2 := byteAt_nat s (a + 1)
  have hdr := drop_one (bs s) (i := a) (by omega)
  have hgd : ((bs s).drop (a + 1)).getD 0 0 = (bs s).getD (a + 1) 0 := by rw [drop_getD]
  have hsc : scanB ((bs s).drop a) = if (bs s).getD a 0 = 60 ∧ (bs s).getD (a + 1) 0 = 61 then ([60, 61], 2) else ([(bs s).getD a 0], 1) := by
    rw [hdr]; simp only [scanB, hlt, hdg, Bool.false_eq_true, if_false, if_neg h34, hgd]
  unfold NextOk
  have h60 := f60_spec ((bs s).getD a 0)
  have h61 := f61_spec ((bs s).getD a 0)
  rw [hlt] at h60
  rw [hdg] at h61
  have hk : kindB ((bs s).getD a 0) = 4 := by rw [kindB, hlt, hdg, if_neg Bool.false_ne_true, if_neg Bool.false_ne_true, if_neg h34]
  rw [hk]
  have f1 : ((((bs s).getD a 0).toNat : Int) == 34) = false := by
    have : ((((bs s).getD a 0).toNat : Int) == 34) = ((bs s).getD a 0 == 34) := u8_eq _ 34
    rw [this]; simpa using h34
  have e6 : ((((bs s).getD a 0).toNat : Int) == 60) = ((bs s).getD a 0 == 60) := u8_eq _ 60
  have e7 : ((((bs s).getD (a + 1) 0).toNat : Int) == 61) = ((bs s).getD (a + 1) 0 == 61) := u8_eq _ 61
  have w1 : IntKind.i64.wrap ((a : Int) + 1) = ((a + 1 : Nat) : Int) := by rw [wrap_id (by omega)]; push_cast; rfl
  have w2 : IntKind.i64.wrap (((a + 1 : Nat) : Int) + 1) = ((a + 2 : Nat) : Int) := by rw [wrap_id (by omega)]; push_cast; omega
  have hout : (bs s).length ≤ a + 1 → (bs s).getD (a + 1) 0 = 0 := fun h => getD_out h
  have s1 : bs (s.extract a (a + 1)) = [(bs s).getD a 0] := by rw [sub_one s ha]
  have s2 : a + 1 < s.size → bs (s.extract a (a + 2)) = [(bs s).getD a 0, (bs s).getD (a + 1) 0] := fun h => by
    rw [bs_sub, Nat.add_sub_cancel_left, hdr, drop_one (bs s) (i := a + 1) (by omega)]; rfl
  generalize runN (ldB true) ((bs s).drop a) = n at *
  generalize hs' : scanB ((bs s).drop a) = sc at *
  generalize (bs s).getD a 0 = x at *
  generalize (bs s).getD (a + 1) 0 = y at *
  have one : ((s.extract a (a + 1)).size ≤ 1000000) := by rw [← bs_len, s1]; simp
  by_cases h6 : x = 60
  · have f6 : ((x.toNat : Int) == 60) = true := by rw [e6, h6]; rfl
    by_cases h7 : a + 1 < s.size
    · have d1 : decide (((a + 1 : Nat) : Int) < (s.size : Int)) = true := decide_eq_true (by omega)
      by_cases h8 : y = 61
      · have f7 : ((y.toNat : Int) == 61) = true := by rw [e7, h8]; rfl
        rw [if_pos ⟨h6, h8⟩] at hsc
        have hb := s2 h7
        have h16 := f16_spec 4 (s.extract a (a + 2)) (a : Int) (by rw [← bs_len, hb]; simp)
        have hvz : validZ 4 (bs (s.extract a (a + 2))) = validB 4 sc.1 := by rw [hb, hsc, h6, h8]; rfl
        rw [hvz] at h16
        have hb2 : bs (s.extract a (a + 2)) = sc.1 := by rw [hb, hsc, h6, h8]
        have hn2 : sc.2 = 2 := by rw [hsc]
        generalize validB 4 sc.1 = q at *
        clear e6 e7
        refine ⟨_, ?_, 4, s.extract a (a + 2), (a : Int), ((a + 2 : Nat) : Int), rfl, fun _ => ⟨rfl, hb2, rfl, by rw [hn2]⟩⟩
        refine spec_of_awp (fn := Try.f47) Try.func47 (by kernel_rfl) rfl ?_
        intro w0 C0
        simp only [Try.ntmps47, litI, litB, litS, List.length_cons, List.length_nil, Nat.reduceAdd, Nat.reduceSub, List.replicate_succ, List.replicate_zero, List.cons_append, List.nil_append]
        repeat' first
          | refine awp_seq ?_
          | refine awp_block ?_
          | refine awp_skip ?_
          | (refine reg _ (by (simp only [List.map_cons, List.map_nil]; rfl)) rfl ?_; intro K hK)
          | (refine awp_cond _ (by rfl) ?_ ?_ <;> (intro hb; first | (cases hb; done) | (have ht : true = true := hb; clear ht hb) | (have ht : false = false := hb; clear ht hb) | (simp only [hb]) | skip))
          | (refine awp_exit ?_; simp only [thenA, blockA, scopeA, reduceIte, RetQ, Nat.reduceEqDiff])
          | (refine awp_ret ?_; simp only [thenA, blockA, scopeA, RetQ])
          | (refine ev_nil (hK _ ?_); clear hK K)
          | (apply ev_guardU; (case hj | hu | hσ => (simp only [go_sem, hx, hx2, f1, f6, f7, d1, w1, w2]; try rfl)))
          | (refine ev_guardT _ _ (by (simp only [go_sem, hx, hx2, f1, f6, f7, d1, w1, w2]; rfl)) (by (simp only [go_sem, hx, hx2, f1, f6, f7, d1, w1, w2]; rfl)) ?_ ?_ <;> (intro hb; first | (cases hb; done) | (have ht : true = true := hb; clear ht hb) | (have ht : false = false := hb; clear ht hb) | (simp only [hb]) | skip))
          | (refine ev_guardF _ _ (by (simp only [go_sem, hx, hx2, f1, f6, f7, d1, w1, w2]; rfl)) (by (simp only [go_sem, hx, hx2, f1, f6, f7, d1, w1, w2]; rfl)) ?_ ?_ <;> (intro hb; first | (cases hb; done) | (have ht : true = true := hb; clear ht hb) | (have ht : false = false := hb; clear ht hb) | (simp only [hb]) | skip))
          | (apply ev_call0; (case hys => (simp only [go_sem, hx, hx2, f1, f6, f7, d1, w1, w2]; try rfl)); (case hs => first | exact h65 .. | exact h60 .. | exact h61 .. | exact h16 ..); (case hok | hσ => (simp only [go_sem, hx, hx2, f1, f6, f7, d1, w1, w2]; try rfl)))
          | (apply regD; (case hd => (simp only [List.map_cons, List.map_nil]; rfl)); (case hok => rfl); (case' h => (intro K hK; (repeat' first
        | (apply evd_nil; refine (hK _ ?_); clear hK K)
        | (apply evd_call0; (case hi | hys => (simp only [go_sem, hx, hx2, f1, f6, f7, d1, w1, w2]; try rfl)); (case hs => first | exact h65 .. | exact h60 .. | exact h61 .. | exact h16 ..); (case hok | hw | hσ => (simp only [go_sem, hx, hx2, f1, f6, f7, d1, w1, w2]; try rfl)))
        | (apply evd_step0; (case hr | hi | hσ => (simp only [go_sem, hx, hx2, f1, f6, f7, d1, w1, w2]; try rfl)); (case hc => (first | trivial | decide | (simp only [inB, sliceOk, appendOk, rowsOk]; omega) | (simp [inB, sliceOk, appendOk, rowsOk]; omega))))
        | (apply evd_step; (case hr | hi => (simp only [go_sem, hx, hx2, f1, f6, f7, d1, w1, w2]; try rfl)); (case hc => (first | trivial | decide | (simp only [inB, sliceOk, appendOk, rowsOk]; omega) | (simp [inB, sliceOk, appendOk, rowsOk]; omega))); (case hw | hσ => (intro g u; simp only [go_sem, hx, hx2, f1, f6, f7, d1, w1, w2]; try rfl)); (case' hk => (intro g u; (try clear u); (try clear g))))
        | fail))); (case hB => kernel_rfl))
          | (apply ev_step0; (case hr | hσ => (simp only [go_sem, hx, hx2, f1, f6, f7, d1, w1, w2]; try rfl)); (case hc => (first | trivial | decide | (simp only [inB, sliceOk, appendOk, rowsOk]; omega) | (simp [inB, sliceOk, appendOk, rowsOk]; omega))))
          | (apply ev_step; (case hr => (simp only [go_sem, hx, hx2, f1, f6, f7, d1, w1, w2]; try rfl)); (case hσ => (intro g u; simp only [go_sem, hx, hx2, f1, f6, f7, d1, w1, w2]; try rfl)); (case hc => (first | trivial | decide | (simp only [inB, sliceOk, appendOk, rowsOk]; omega) | (simp [inB, sliceOk, appendOk, rowsOk]; omega))); intro g u; (try clear u); (try clear g))
          | fail
        all_goals (refine resR_one T_ok rfl _ (by (simp only [go_sem, resA]; rfl)) (by first | trivial | (simp only [go_sem, resA])) (by first | trivial | (simp only [go_sem])) ?_; simp only [go_sem])
        exact LeA.refl _
      · have f7 : ((y.toNat : Int) == 61) = false := by rw [e7]; simpa using h8
        rw [if_neg (fun h => h8 h.2)] at hsc
        have h16 := f16_spec 4 (s.extract a (a + 1)) (a : Int) one
        have hb2 : bs (s.extract a (a + 1)) = sc.1 := by rw [s1, hsc]
        have hvz : validZ 4 (bs (s.extract a (a + 1))) = validB 4 sc.1 := by rw [hb2]; rfl
        rw [hvz] at h16
        have hn2 : sc.2 = 1 := by rw [hsc]
        generalize validB 4 sc.1 = q at *
        clear e6 e7
        refine ⟨_, ?_, 4, s.extract a (a + 1), (a : Int), ((a + 1 : Nat) : Int), rfl, fun _ => ⟨rfl, hb2, rfl, by rw [hn2]⟩⟩
        refine spec_of_awp (fn := Try.f47) Try.func47 (by kernel_rfl) rfl ?_
        intro w0 C0
        simp only [Try.ntmps47, litI, litB, litS, List.length_cons, List.length_nil, Nat.reduceAdd, Nat.reduceSub, List.replicate_succ, List.replicate_zero, List.cons_append, List.nil_append]
        repeat' first
          | refine awp_seq ?_
          | refine awp_block ?_
          | refine awp_skip ?_
          | (refine reg _ (by (simp only [List.map_cons, List.map_nil]; rfl)) rfl ?_; intro K hK)
          | (refine awp_cond _ (by rfl) ?_ ?_ <;> (intro hb; first | (cases hb; done) | (have ht : true = true := hb; clear ht hb) | (have ht : false = false := hb; clear ht hb) | (simp only [hb]) | skip))
          | (refine awp_exit ?_; simp only [thenA, blockA, scopeA, reduceIte, RetQ, Nat.reduceEqDiff])
          | (refine awp_ret ?_; simp only [thenA, blockA, scopeA, RetQ])
          | (refine ev_nil (hK _ ?_); clear hK K)
          | (apply ev_guardU; (case hj | hu | hσ => (simp only [go_sem, hx, hx2, f1, f6, f7, d1, w1, w2]; try rfl)))
          | (refine ev_guardT _ _ (by (simp only [go_sem, hx, hx2, f1, f6, f7, d1, w1, w2]; rfl)) (by (simp only [go_sem, hx, hx2, f1, f6, f7, d1, w1, w2]; rfl)) ?_ ?_ <;> (intro hb; first | (cases hb; done) | (have ht : true = true := hb; clear ht hb) | (have ht : false = false := hb; clear ht hb) | (simp only [hb]) | skip))
          | (refine ev_guardF _ _ (by (simp only [go_sem, hx, hx2, f1, f6, f7, d1, w1, w2]; rfl)) (by (simp only [go_sem, hx, hx2, f1, f6, f7, d1, w1, w2]; rfl)) ?_ ?_ <;> (intro hb; first | (cases hb; done) | (have ht : true = true := hb; clear ht hb) | (have ht : false = false := hb; clear ht hb) | (simp only [hb]) | skip))
          | (apply ev_call0; (case hys => (simp only [go_sem, hx, hx2, f1, f6, f7, d1, w1, w2]; try rfl)); (case hs => first | exact h65 .. | exact h60 .. | exact h61 .. | exact h16 ..); (case hok | hσ => (simp only [go_sem, hx, hx2, f1, f6, f7, d1, w1, w2]; try rfl)))
          | (apply regD; (case hd => (simp only [List.map_cons, List.map_nil]; rfl)); (case hok => rfl); (case' h => (intro K hK; (repeat' first
        | (apply evd_nil; refine (hK _ ?_); clear hK K)
        | (apply evd_call0; (case hi | hys => (simp only [go_sem, hx, hx2, f1, f6, f7, d1, w1, w2]; try rfl)); (case hs => first | exact h65 .. | exact h60 .. | exact h61 .. | exact h16 ..); (case hok | hw | hσ => (simp only [go_sem, hx, hx2, f1, f6, f7, d1, w1, w2]; try rfl)))
        | (apply evd_step0; (case hr | hi | hσ => (simp only [go_sem, hx, hx2, f1, f6, f7, d1, w1, w2]; try rfl)); (case hc => (first | trivial | decide | (simp only [inB, sliceOk, appendOk, rowsOk]; omega) | (simp [inB, sliceOk, appendOk, rowsOk]; omega))))
        | (apply evd_step; (case hr | hi => (simp only [go_sem, hx, hx2, f1, f6, f7, d1, w1, w2]; try rfl)); (case hc => (first | trivial | decide | (simp only [inB, sliceOk, appendOk, rowsOk]; omega) | (simp [inB, sliceOk, appendOk, rowsOk]; omega))); (case hw | hσ => (intro g u; simp only [go_sem, hx, hx2, f1, f6, f7, d1, w1, w2]; try rfl)); (case' hk => (intro g u; (try clear u); (try clear g))))
        | fail))); (case hB => kernel_rfl))
          | (apply ev_step0; (case hr | hσ => (simp only [go_sem, hx, hx2, f1, f6, f7, d1, w1, w2]; try rfl)); (case hc => (first | trivial | decide | (simp only [inB, sliceOk, appendOk, rowsOk]; omega) | (simp [inB, sliceOk, appendOk, rowsOk]; omega))))
          | (apply ev_step; (case hr => (simp only [go_sem, hx, hx2, f1, f6, f7, d1, w1, w2]; try rfl)); (case hσ => (intro g u; simp only [go_sem, hx, hx2, f1, f6, f7, d1, w1, w2]; try rfl)); (case hc => (first | trivial | decide | (simp only [inB, sliceOk, appendOk, rowsOk]; omega) | (simp [inB, sliceOk, appendOk, rowsOk]; omega))); intro g u; (try clear u); (try clear g))
          | fail
        all_goals (refine resR_one T_ok rfl _ (by (simp only [go_sem, resA]; rfl)) (by first | trivial | (simp only [go_sem, resA])) (by first | trivial | (simp only [go_sem])) ?_; simp only [go_sem])
        exact LeA.refl _
    · have d1 : decide (((a + 1 : Nat) : Int) < (s.size : Int)) = false := decide_eq_false (by omega)
      rw [if_neg (fun h => by rw [hout (by omega)] at h; exact absurd h.2 (by decide))] at hsc
      have h16 := f16_spec 4 (s.extract a (a + 1)) (a : Int) one
      have hb2 : bs (s.extract a (a + 1)) = sc.1 := by rw [s1, hsc]
      have hvz : validZ 4 (bs (s.extract a (a + 1))) = validB 4 sc.1 := by rw [hb2]; rfl
      rw [hvz] at h16
      have hn2 : sc.2 = 1 := by rw [hsc]
      generalize validB 4 sc.1 = q at *
      clear e6 e7
      refine ⟨_, ?_, 4, s.extract a (a + 1), (a : Int), ((a + 1 : Nat) : Int), rfl, fun _ => ⟨rfl, hb2, rfl, by rw [hn2]⟩⟩
      refine spec_of_awp (fn := Try.f47) Try.func47 (by kernel_rfl) rfl ?_
      intro w0 C0
      simp only [Try.ntmps47, litI, litB, litS, List.length_cons, List.length_nil, Nat.reduceAdd, Nat.reduceSub, List.replicate_succ, List.replicate_zero, List.cons_append, List.nil_append]
      repeat' first
        | refine awp_seq ?_
        | refine awp_block ?_
        | refine awp_skip ?_
        | (refine reg _ (by (simp only [List.map_cons, List.map_nil]; rfl)) rfl ?_; intro K hK)
        | (refine awp_cond _ (by rfl) ?_ ?_ <;> (intro hb; first | (cases hb; done) | (have ht : true = true := hb; clear ht hb) | (have ht : false = false := hb; clear ht hb) | (simp only [hb]) | skip))
        | (refine awp_exit ?_; simp only [thenA, blockA, scopeA, reduceIte, RetQ, Nat.reduceEqDiff])
        | (refine awp_ret ?_; simp only [thenA, blockA, scopeA, RetQ])
        | (refine ev_nil (hK _ ?_); clear hK K)
        | (apply ev_guardU; (case hj | hu | hσ => (simp only [go_sem, hx, hx2, f1, f6, d1, w1, w2]; try rfl)))
        | (refine ev_guardT _ _ (by (simp only [go_sem, hx, hx2, f1, f6, d1, w1, w2]; rfl)) (by (simp only [go_sem, hx, hx2, f1, f6, d1, w1, w2]; rfl)) ?_ ?_ <;> (intro hb; first | (cases hb; done) | (have ht : true = true := hb; clear ht hb) | (have ht : false = false := hb; clear ht hb) | (simp only [hb]) | skip))
        | (refine ev_guardF _ _ (by (simp only [go_sem, hx, hx2, f1, f6, d1, w1, w2]; rfl)) (by (simp only [go_sem, hx, hx2, f1, f6, d1, w1, w2]; rfl)) ?_ ?_ <;> (intro hb; first | (cases hb; done) | (have ht : true = true := hb; clear ht hb) | (have ht : false = false := hb; clear ht hb) | (simp only [hb]) | skip))
        | (apply ev_call0; (case hys => (simp only [go_sem, hx, hx2, f1, f6, d1, w1, w2]; try rfl)); (case hs => first | exact h65 .. | exact h60 .. | exact h61 .. | exact h16 ..); (case hok | hσ => (simp only [go_sem, hx, hx2, f1, f6, d1, w1, w2]; try rfl)))
        | (apply regD; (case hd => (simp only [List.map_cons, List.map_nil]; rfl)); (case hok => rfl); (case' h => (intro K hK; (repeat' first
        | (apply evd_nil; refine (hK _ ?_); clear hK K)
        | (apply evd_call0; (case hi | hys => (simp only [go_sem, hx, hx2, f1, f6, d1, w1, w2]; try rfl)); (case hs => first | exact h65 .. | exact h60 .. | exact h61 .. | exact h16 ..); (case hok | hw | hσ => (simp only [go_sem, hx, hx2, f1, f6, d1, w1, w2]; try rfl)))
        | (apply evd_step0; (case hr | hi | hσ => (simp only [go_sem, hx, hx2, f1, f6, d1, w1, w2]; try rfl)); (case hc => (first | trivial | decide | (simp only [inB, sliceOk, appendOk, rowsOk]; omega) | (simp [inB, sliceOk, appendOk, rowsOk]; omega))))
        | (apply evd_step; (case hr | hi => (simp only [go_sem, hx, hx2, f1, f6, d1, w1, w2]; try rfl)); (case hc => (first | trivial | decide | (simp only [inB, sliceOk, appendOk, rowsOk]; omega) | (simp [inB, sliceOk, appendOk, rowsOk]; omega))); (case hw | hσ => (intro g u; simp only [go_sem, hx, hx2, f1, f6, d1, w1, w2]; try rfl)); (case' hk => (intro g u; (try clear u); (try clear g))))
        | fail))); (case hB => kernel_rfl))
        | (apply ev_step0; (case hr | hσ => (simp only [go_sem, hx, hx2, f1, f6, d1, w1, w2]; try rfl)); (case hc => (first | trivial | decide | (simp only [inB, sliceOk, appendOk, rowsOk]; omega) | (simp [inB, sliceOk, appendOk, rowsOk]; omega))))
        | (apply ev_step; (case hr => (simp only [go_sem, hx, hx2, f1, f6, d1, w1, w2]; try rfl)); (case hσ => (intro g u; simp only [go_sem, hx, hx2, f1, f6, d1, w1, w2]; try rfl)); (case hc => (first | trivial | decide | (simp only [inB, sliceOk, appendOk, rowsOk]; omega) | (simp [inB, sliceOk, appendOk, rowsOk]; omega))); intro g u; (try clear u); (try clear g))
        | fail
      all_goals (refine resR_one T_ok rfl _ (by (simp only [go_sem, resA]; rfl)) (by first | trivial | (simp only [go_sem, resA])) (by first | trivial | (simp only [go_sem])) ?_; simp only [go_sem])
      exact LeA.refl _
  · have f6 : ((x.toNat : Int) == 60) = false := by rw [e6]; simpa using h6
    rw [if_neg (fun h => h6 h.1)] at hsc
    have h16 := f16_spec 4 (s.extract a (a + 1)) (a : Int) one
    have hb2 : bs (s.extract a (a + 1)) = sc.1 := by rw [s1, hsc]
    have hvz : validZ 4 (bs (s.extract a (a + 1))) = validB 4 sc.1 := by rw [hb2]; rfl
    rw [hvz] at h16
    have hn2 : sc.2 = 1 := by rw [hsc]
    generalize validB 4 sc.1 = q at *
    clear e6 e7
    refine ⟨_, ?_, 4, s.extract a (a + 1), (a : Int), ((a + 1 : Nat) : Int), rfl, fun _ => ⟨rfl, hb2, rfl, by rw [hn2]⟩⟩
    refine spec_of_awp (fn := Try.f47) Try.func47 (by kernel_rfl) rfl ?_
    intro w0 C0
    simp only [Try.ntmps47, litI, litB, litS, List.length_cons, List.length_nil, Nat.reduceAdd, Nat.reduceSub, List.replicate_succ, List.replicate_zero, List.cons_append, List.nil_append]
    repeat' first
      | refine awp_seq ?_
      | refine awp_block ?_
      | refine awp_skip ?_
      | (refine reg _ (by (simp only [List.map_cons, List.map_nil]; rfl)) rfl ?_; intro K hK)
      | (refine awp_cond _ (by rfl) ?_ ?_ <;> (intro hb; first | (cases hb; done) | (have ht : true = true := hb; clear ht hb) | (have ht : false = false := hb; clear ht hb) | (simp only [hb]) | skip))
      | (refine awp_exit ?_; simp only [thenA, blockA, scopeA, reduceIte, RetQ, Nat.reduceEqDiff])
      | (refine awp_ret ?_; simp only [thenA, blockA, scopeA, RetQ])
      | (refine ev_nil (hK _ ?_); clear hK K)
      | (apply ev_guardU; (case hj | hu | hσ => (simp only [go_sem, hx, hx2, f1, f6, w1, w2]; try rfl)))
      | (refine ev_guardT _ _ (by (simp only [go_sem, hx, hx2, f1, f6, w1, w2]; rfl)) (by (simp only [go_sem, hx, hx2, f1, f6, w1, w2]; rfl)) ?_ ?_ <;> (intro hb; first | (cases hb; done) | (have ht : true = true := hb; clear ht hb) | (have ht : false = false := hb; clear ht hb) | (simp only [hb]) | skip))
      | (refine ev_guardF _ _ (by (simp only [go_sem, hx, hx2, f1, f6, w1, w2]; rfl)) (by (simp only [go_sem, hx, hx2, f1, f6, w1, w2]; rfl)) ?_ ?_ <;> (intro hb; first | (cases hb; done) | (have ht : true = true := hb; clear ht hb) | (have ht : false = false := hb; clear ht hb) | (simp only [hb]) | skip))
      | (apply ev_call0; (case hys => (simp only [go_sem, hx, hx2, f1, f6, w1, w2]; try rfl)); (case hs => first | exact h65 .. | exact h60 .. | exact h61 .. | exact h16 ..); (case hok | hσ => (simp only [go_sem, hx, hx2, f1, f6, w1, w2]; try rfl)))
      | (apply regD; (case hd => (simp only [List.map_cons, List.map_nil]; rfl)); (case hok => rfl); (case' h => (intro K hK; (repeat' first
        | (apply evd_nil; refine (hK _ ?_); clear hK K)
        | (apply evd_call0; (case hi | hys => (simp only [go_sem, hx, hx2, f1, f6, w1, w2]; try rfl)); (case hs => first | exact h65 .. | exact h60 .. | exact h61 .. | exact h16 ..); (case hok | hw | hσ => (simp only [go_sem, hx, hx2, f1, f6, w1, w2]; try rfl)))
        | (apply evd_step0; (case hr | hi | hσ => (simp only [go_sem, hx, hx2, f1, f6, w1, w2]; try rfl)); (case hc => (first | trivial | decide | (simp only [inB, sliceOk, appendOk, rowsOk]; omega) | (simp [inB, sliceOk, appendOk, rowsOk]; omega))))
        | (apply evd_step; (case hr | hi => (simp only [go_sem, hx, hx2, f1, f6, w1, w2]; try rfl)); (case hc => (first | trivial | decide | (simp only [inB, sliceOk, appendOk, rowsOk]; omega) | (simp [inB, sliceOk, appendOk, rowsOk]; omega))); (case hw | hσ => (intro g u; simp only [go_sem, hx, hx2, f1, f6, w1, w2]; try rfl)); (case' hk => (intro g u; (try clear u); (try clear g))))
        | fail))); (case hB => kernel_rfl))
      | (apply ev_step0; (case hr | hσ => (simp only [go_sem, hx, hx2, f1, f6, w1, w2]; try rfl)); (case hc => (first | trivial | decide | (simp only [inB, sliceOk, appendOk, rowsOk]; omega) | (simp [inB, sliceOk, appendOk, rowsOk]; omega))))
      | (apply ev_step; (case hr => (simp only [go_sem, hx, hx2, f1, f6, w1, w2]; try rfl)); (case hσ => (intro g u; simp only [go_sem, hx, hx2, f1, f6, w1, w2]; try rfl)); (case hc => (first | trivial | decide | (simp only [inB, sliceOk, appendOk, rowsOk]; omega) | (simp [inB, sliceOk, appendOk, rowsOk]; omega))); intro g u; (try clear u); (try clear g))
      | fail
    all_goals (refine resR_one T_ok rfl _ (by (simp only [go_sem, resA]; rfl)) (by first | trivial | (simp only [go_sem, resA])) (by first | trivial | (simp only [go_sem])) ?_; simp only [go_sem])
    exact LeA.refl _
set_option maxRecDepth 100000 in
set_option maxHeartbeats 16000000 in
theorem f47_digit (s : ByteArray) (a : Nat) (hs : s.size ≤ 20000) (ha : a < s.size) (hdg : digitB ((bs s).getD a 0) = true) : ∃ r, Spec Try.prog 47 [litS s, litI .i64 (a : Int)] r ∧ NextOk s a r := by
  have hl := bs_len s
  have h65t := f65_spec s a true (by omega) (by omega)
  have h65f := f65_spec s a false (by omega) (by omega)
  rw [ldB_false] at h65f
  have hx := byteAt_nat s a
  have hdr := drop_one (bs s) (i := a) (by omega)
  have hlt : letterB ((bs s).getD a 0) = false := digit_no hdg
  have hle := runN_le digitB ((bs s).drop a)
  have hle2 := numN_le ((bs s).drop a)
  rw [List.length_drop] at hle hle2
  have hsc : scanB ((bs s).drop a) = (if letterB (((bs s).drop a).getD (numN ((bs s).drop a)) 0) = true then [] else ((bs s).drop a).take (numN ((bs s).drop a)), numN ((bs s).drop a)) := by
    rw [hdr]; simp only [scanB, hlt, hdg, Bool.false_eq_true, if_false, if_true]
  rw [drop_getD] at hsc
  have hN := numN_eq ((bs s).drop a)
  rw [drop_getD, drop_getD, List.drop_drop] at hN
  have h61 := f61_spec ((bs s).getD a 0)
  rw [hdg] at h61
  have hk : kindB ((bs s).getD a 0) = 2 := by rw [kindB, hlt, hdg, if_neg Bool.false_ne_true, if_pos rfl]
  have f1 : ((((bs s).getD a 0).toNat : Int) == 34) = false := by
    rw [beq_eq_false_iff_ne]
    intro h
    have : (bs s).getD a 0 = 34 := UInt8.toNat_inj.1 (by show _ = 34; omega)
    rw [this] at hdg; exact absurd hdg (by decide)
  unfold NextOk
  rw [hk]
  generalize runN (ldB true) ((bs s).drop a) = nt at *
  generalize runN digitB ((bs s).drop a) = n at *
  generalize he : a + n = e at *
  rw [show a + (n + 1) = e + 1 from by omega] at hN
  obtain ⟨m, hm⟩ : ∃ m, a + numN ((bs s).drop a) = m := ⟨_, rfl⟩
  have hsub := bs_sub s a m
  rw [show m - a = numN ((bs s).drop a) from by omega] at hsub
  have hzs : (s.extract a m).size ≤ 1000000 := by
    have := sub_size s a (numN ((bs s).drop a)) (by omega)
    rw [hm] at this
    show (subS s a m).size ≤ _
    rw [this]; omega
  have h16 := f16_spec 2 (s.extract a m) (a : Int) hzs
  have hvz : validZ 2 (bs (s.extract a m)) = validB 2 (((bs s).drop a).take (numN ((bs s).drop a))) := by rw [hsub]; rfl
  rw [hvz] at h16
  rw [hm] at hsc
  have hx3 := byteAt_nat s m
  have h60 := f60_spec ((bs s).getD m 0)
  have w1 : IntKind.i64.wrap ((e : Int) + 1) = ((e + 1 : Nat) : Int) := by rw [wrap_id (by omega)]; push_cast; rfl
  have hx1 := byteAt_nat s e
  have hx2 := byteAt_nat s (e + 1)
  have hq1 : ((((bs s).getD e 0).toNat : Int) == 46) = ((bs s).getD e 0 == 46) := u8_eq _ 46
  have h61b := f61_spec ((bs s).getD (e + 1) 0)
  obtain ⟨q, hq⟩ : ∃ q, letterB ((bs s).getD m 0) = q := ⟨_, rfl⟩
  rw [hq] at h60 hsc
  obtain ⟨b5, d5⟩ : ∃ b, decide ((m : Int) < (s.size : Int)) = b := ⟨_, rfl⟩
  have hbq : b5 = false → q = false := fun h => by
    rw [h] at d5
    have := of_decide_eq_false d5
    rw [← hq, getD_out (by omega)]; rfl
  have hb5 : b5 = true → m < s.size := fun h => by
    rw [h] at d5
    have := of_decide_eq_true d5
    omega
  have hae : a ≤ m ∧ m ≤ s.size := by omega
  obtain ⟨hae1, hae2⟩ := hae
  have hsc1 : (scanB ((bs s).drop a)).1 = if q = true then [] else ((bs s).drop a).take (numN ((bs s).drop a)) := by rw [hsc]
  have hsc2 : ((a + (scanB ((bs s).drop a)).2 : Nat) : Int) = (m : Int) := by rw [hsc]; simp only; omega
  rw [hsc1, hsc2]
  by_cases h1 : e + 1 < s.size
  · have d1 : decide (((e + 1 : Nat) : Int) < (s.size : Int)) = true := decide_eq_true (by omega)
    by_cases h2 : (bs s).getD e 0 = 46
    · have hq2 : ((((bs s).getD e 0).toNat : Int) == 46) = true := by rw [hq1, h2]; rfl
      clear hq1
      cases h3 : digitB ((bs s).getD (e + 1) 0) with
      | true =>
        have h65b := f65_spec s (e + 1) false (by omega) (by omega)
        rw [ldB_false] at h65b
        rw [if_pos ⟨h2, h3⟩] at hN
        rw [show e + 1 + runN digitB ((bs s).drop (e + 1)) = m from by omega] at h65b
        rw [h3] at h61b
        generalize (bs s).getD e 0 = y1 at *
        generalize (bs s).getD (e + 1) 0 = y2 at *
        cases q with
        | true =>
          cases b5 with
          | false => exact absurd (hbq rfl) (by decide)
          | true =>
            have hm5 := hb5 rfl
            rw [if_pos rfl]
            have hv0 : validB 2 [] = false := rfl
            rw [hv0]
            generalize (bs s).getD m 0 = y3 at *
            refine ⟨_, ?_, 0, ⟨#[]⟩, 0, 0, rfl, fun h => by cases h⟩
            refine spec_of_awp (fn := Try.f47) Try.func47 (by kernel_rfl) rfl ?_
            intro w0 C0
            simp only [Try.ntmps47, litI, litB, litS, List.length_cons, List.length_nil, Nat.reduceAdd, Nat.reduceSub, List.replicate_succ, List.replicate_zero, List.cons_append, List.nil_append]
            repeat' first
              | refine awp_seq ?_
              | refine awp_block ?_
              | refine awp_skip ?_
              | (refine reg _ (by (simp only [List.map_cons, List.map_nil]; rfl)) rfl ?_; intro K hK)
              | (refine awp_cond _ (by rfl) ?_ ?_ <;> (intro hb; first | (cases hb; done) | (have ht : true = true := hb; clear ht hb) | (have ht : false = false := hb; clear ht hb) | (simp only [hb]) | skip))
              | (refine awp_exit ?_; simp only [thenA, blockA, scopeA, reduceIte, RetQ, Nat.reduceEqDiff])
              | (refine awp_ret ?_; simp only [thenA, blockA, scopeA, RetQ])
              | (refine ev_nil (hK _ ?_); clear hK K)
              | (apply ev_guardU; (case hj | hu | hσ => (simp only [go_sem, hx, f1, w1, d1, hx1, hx2, hq2, d5, hx3]; try rfl)))
              | (refine ev_guardT _ _ (by (simp only [go_sem, hx, f1, w1, d1, hx1, hx2, hq2, d5, hx3]; rfl)) (by (simp only [go_sem, hx, f1, w1, d1, hx1, hx2, hq2, d5, hx3]; rfl)) ?_ ?_ <;> (intro hb; first | (cases hb; done) | (have ht : true = true := hb; clear ht hb) | (have ht : false = false := hb; clear ht hb) | (simp only [hb]) | skip))
              | (refine ev_guardF _ _ (by (simp only [go_sem, hx, f1, w1, d1, hx1, hx2, hq2, d5, hx3]; rfl)) (by (simp only [go_sem, hx, f1, w1, d1, hx1, hx2, hq2, d5, hx3]; rfl)) ?_ ?_ <;> (intro hb; first | (cases hb; done) | (have ht : true = true := hb; clear ht hb) | (have ht : false = false := hb; clear ht hb) | (simp only [hb]) | skip))
              | (apply ev_call0; (case hys => (simp only [go_sem, hx, f1, w1, d1, hx1, hx2, hq2, d5, hx3]; try rfl)); (case hs => first | exact h65t .. | exact h65f .. | exact h61 .. | exact h61b .. | exact h65b .. | exact h60 ..); (case hok | hσ => (simp only [go_sem, hx, f1, w1, d1, hx1, hx2, hq2, d5, hx3]; try rfl)))
              | (apply regD; (case hd => (simp only [List.map_cons, List.map_nil]; rfl)); (case hok => rfl); (case' h => (intro K hK; (repeat' first
        | (apply evd_nil; refine (hK _ ?_); clear hK K)
        | (apply evd_call0; (case hi | hys => (simp only [go_sem, hx, f1, w1, d1, hx1, hx2, hq2, d5, hx3]; try rfl)); (case hs => first | exact h65t .. | exact h65f .. | exact h61 .. | exact h61b .. | exact h65b .. | exact h60 ..); (case hok | hw | hσ => (simp only [go_sem, hx, f1, w1, d1, hx1, hx2, hq2, d5, hx3]; try rfl)))
        | (apply evd_step0; (case hr | hi | hσ => (simp only [go_sem, hx, f1, w1, d1, hx1, hx2, hq2, d5, hx3]; try rfl)); (case hc => (first | trivial | decide | (simp only [inB, sliceOk, appendOk, rowsOk]; omega) | (simp [inB, sliceOk, appendOk, rowsOk]; omega))))
        | (apply evd_step; (case hr | hi => (simp only [go_sem, hx, f1, w1, d1, hx1, hx2, hq2, d5, hx3]; try rfl)); (case hc => (first | trivial | decide | (simp only [inB, sliceOk, appendOk, rowsOk]; omega) | (simp [inB, sliceOk, appendOk, rowsOk]; omega))); (case hw | hσ => (intro g u; simp only [go_sem, hx, f1, w1, d1, hx1, hx2, hq2, d5, hx3]; try rfl)); (case' hk => (intro g u; (try clear u); (try clear g))))
        | fail))); (case hB => kernel_rfl))
              | (apply ev_step0; (case hr | hσ => (simp only [go_sem, hx, f1, w1, d1, hx1, hx2, hq2, d5, hx3]; try rfl)); (case hc => (first | trivial | decide | (simp only [inB, sliceOk, appendOk, rowsOk]; omega) | (simp [inB, sliceOk, appendOk, rowsOk]; omega))))
              | (apply ev_step; (case hr => (simp only [go_sem, hx, f1, w1, d1, hx1, hx2, hq2, d5, hx3]; try rfl)); (case hσ => (intro g u; simp only [go_sem, hx, f1, w1, d1, hx1, hx2, hq2, d5, hx3]; try rfl)); (case hc => (first | trivial | decide | (simp only [inB, sliceOk, appendOk, rowsOk]; omega) | (simp [inB, sliceOk, appendOk, rowsOk]; omega))); intro g u; (try clear u); (try clear g))
              | fail
            all_goals (refine resR_one T_ok rfl _ (by (simp only [go_sem, resA]; rfl)) (by first | trivial | (simp only [go_sem, resA])) (by first | trivial | (simp only [go_sem])) ?_; simp only [go_sem])
            exact LeA.refl _
        | false =>
          rw [if_neg Bool.false_ne_true]
          generalize validB 2 (((bs s).drop a).take (numN ((bs s).drop a))) = v at *
          cases b5 with
          | false =>
            refine ⟨_, ?_, 2, s.extract a m, (a : Int), (m : Int), rfl, fun _ => ⟨rfl, hsub, rfl, rfl⟩⟩
            refine spec_of_awp (fn := Try.f47) Try.func47 (by kernel_rfl) rfl ?_
            intro w0 C0
            simp only [Try.ntmps47, litI, litB, litS, List.length_cons, List.length_nil, Nat.reduceAdd, Nat.reduceSub, List.replicate_succ, List.replicate_zero, List.cons_append, List.nil_append]
            repeat' first
              | refine awp_seq ?_
              | refine awp_block ?_
              | refine awp_skip ?_
              | (refine reg _ (by (simp only [List.map_cons, List.map_nil]; rfl)) rfl ?_; intro K hK)
              | (refine awp_cond _ (by rfl) ?_ ?_ <;> (intro hb; first | (cases hb; done) | (have ht : true = true := hb; clear ht hb) | (have ht : false = false := hb; clear ht hb) | (simp only [hb]) | skip))
              | (refine awp_exit ?_; simp only [thenA, blockA, scopeA, reduceIte, RetQ, Nat.reduceEqDiff])
              | (refine awp_ret ?_; simp only [thenA, blockA, scopeA, RetQ])
              | (refine ev_nil (hK _ ?_); clear hK K)
              | (apply ev_guardU; (case hj | hu | hσ => (simp only [go_sem, hx, f1, w1, d1, hx1, hx2, hq2, d5]; try rfl)))
              | (refine ev_guardT _ _ (by (simp only [go_sem, hx, f1, w1, d1, hx1, hx2, hq2, d5]; rfl)) (by (simp only [go_sem, hx, f1, w1, d1, hx1, hx2, hq2, d5]; rfl)) ?_ ?_ <;> (intro hb; first | (cases hb; done) | (have ht : true = true := hb; clear ht hb) | (have ht : false = false := hb; clear ht hb) | (simp only [hb]) | skip))
              | (refine ev_guardF _ _ (by (simp only [go_sem, hx, f1, w1, d1, hx1, hx2, hq2, d5]; rfl)) (by (simp only [go_sem, hx, f1, w1, d1, hx1, hx2, hq2, d5]; rfl)) ?_ ?_ <;> (intro hb; first | (cases hb; done) | (have ht : true = true := hb; clear ht hb) | (have ht : false = false := hb; clear ht hb) | (simp only [hb]) | skip))
              | (apply ev_call0; (case hys => (simp only [go_sem, hx, f1, w1, d1, hx1, hx2, hq2, d5]; try rfl)); (case hs => first | exact h65t .. | exact h65f .. | exact h61 .. | exact h61b .. | exact h65b .. | exact h16 ..); (case hok | hσ => (simp only [go_sem, hx, f1, w1, d1, hx1, hx2, hq2, d5]; try rfl)))
              | (apply regD; (case hd => (simp only [List.map_cons, List.map_nil]; rfl)); (case hok => rfl); (case' h => (intro K hK; (repeat' first
        | (apply evd_nil; refine (hK _ ?_); clear hK K)
        | (apply evd_call0; (case hi | hys => (simp only [go_sem, hx, f1, w1, d1, hx1, hx2, hq2, d5]; try rfl)); (case hs => first | exact h65t .. | exact h65f .. | exact h61 .. | exact h61b .. | exact h65b .. | exact h16 ..); (case hok | hw | hσ => (simp only [go_sem, hx, f1, w1, d1, hx1, hx2, hq2, d5]; try rfl)))
        | (apply evd_step0; (case hr | hi | hσ => (simp only [go_sem, hx, f1, w1, d1, hx1, hx2, hq2, d5]; try rfl)); (case hc => (first | trivial | decide | (simp only [inB, sliceOk, appendOk, rowsOk]; omega) | (simp [inB, sliceOk, appendOk, rowsOk]; omega))))
        | (apply evd_step; (case hr | hi => (simp only [go_sem, hx, f1, w1, d1, hx1, hx2, hq2, d5]; try rfl)); (case hc => (first | trivial | decide | (simp only [inB, sliceOk, appendOk, rowsOk]; omega) | (simp [inB, sliceOk, appendOk, rowsOk]; omega))); (case hw | hσ => (intro g u; simp only [go_sem, hx, f1, w1, d1, hx1, hx2, hq2, d5]; try rfl)); (case' hk => (intro g u; (try clear u); (try clear g))))
        | fail))); (case hB => kernel_rfl))
              | (apply ev_step0; (case hr | hσ => (simp only [go_sem, hx, f1, w1, d1, hx1, hx2, hq2, d5]; try rfl)); (case hc => (first | trivial | decide | (simp only [inB, sliceOk, appendOk, rowsOk]; omega) | (simp [inB, sliceOk, appendOk, rowsOk]; omega))))
              | (apply ev_step; (case hr => (simp only [go_sem, hx, f1, w1, d1, hx1, hx2, hq2, d5]; try rfl)); (case hσ => (intro g u; simp only [go_sem, hx, f1, w1, d1, hx1, hx2, hq2, d5]; try rfl)); (case hc => (first | trivial | decide | (simp only [inB, sliceOk, appendOk, rowsOk]; omega) | (simp [inB, sliceOk, appendOk, rowsOk]; omega))); intro g u; (try clear u); (try clear g))
              | fail
            all_goals (refine resR_one T_ok rfl _ (by (simp only [go_sem, resA]; rfl)) (by first | trivial | (simp only [go_sem, resA])) (by first | trivial | (simp only [go_sem])) ?_; simp only [go_sem])
            exact LeA.refl _
          | true =>
            have hm5 := hb5 rfl
            generalize (bs s).getD m 0 = y3 at *
            refine ⟨_, ?_, 2, s.extract a m, (a : Int), (m : Int), rfl, fun _ => ⟨rfl, hsub, rfl, rfl⟩⟩
            refine spec_of_awp (fn := Try.f47) Try.func47 (by kernel_rfl) rfl ?_
            intro w0 C0
            simp only [Try.ntmps47, litI, litB, litS, List.length_cons, List.length_nil, Nat.reduceAdd, Nat.reduceSub, List.replicate_succ, List.replicate_zero, List.cons_append, List.nil_append]
            repeat' first
              | refine awp_seq ?_
              | refine awp_block ?_
              | refine awp_skip ?_
              | (refine reg _ (by (simp only [List.map_cons, List.map_nil]; rfl)) rfl ?_; intro K hK)
              | (refine awp_cond _ (by rfl) ?_ ?_ <;> (intro hb; first | (cases hb; done) | (have ht : true = true := hb; clear ht hb) | (have ht : false = false := hb; clear ht hb) | (simp only [hb]) | skip))
              | (refine awp_exit ?_; simp only [thenA, blockA, scopeA, reduceIte, RetQ, Nat.reduceEqDiff])
              | (refine awp_ret ?_; simp only [thenA, blockA, scopeA, RetQ])
              | (refine ev_nil (hK _ ?_); clear hK K)
              | (apply ev_guardU; (case hj | hu | hσ => (simp only [go_sem, hx, f1, w1, d1, hx1, hx2, hq2, d5, hx3]; try rfl)))
              | (refine ev_guardT _ _ (by (simp only [go_sem, hx, f1, w1, d1, hx1, hx2, hq2, d5, hx3]; rfl)) (by (simp only [go_sem, hx, f1, w1, d1, hx1, hx2, hq2, d5, hx3]; rfl)) ?_ ?_ <;> (intro hb; first | (cases hb; done) | (have ht : true = true := hb; clear ht hb) | (have ht : false = false := hb; clear ht hb) | (simp only [hb]) | skip))
              | (refine ev_guardF _ _ (by (simp only [go_sem, hx, f1, w1, d1, hx1, hx2, hq2, d5, hx3]; rfl)) (by (simp only [go_sem, hx, f1, w1, d1, hx1, hx2, hq2, d5, hx3]; rfl)) ?_ ?_ <;> (intro hb; first | (cases hb; done) | (have ht : true = true := hb; clear ht hb) | (have ht : false = false := hb; clear ht hb) | (simp only [hb]) | skip))
              | (apply ev_call0; (case hys => (simp only [go_sem, hx, f1, w1, d1, hx1, hx2, hq2, d5, hx3]; try rfl)); (case hs => first | exact h65t .. | exact h65f .. | exact h61 .. | exact h61b .. | exact h65b .. | exact h60 .. | exact h16 ..); (case hok | hσ => (simp only [go_sem, hx, f1, w1, d1, hx1, hx2, hq2, d5, hx3]; try rfl)))
              | (apply regD; (case hd => (simp only [List.map_cons, List.map_nil]; rfl)); (case hok => rfl); (case' h => (intro K hK; (repeat' first
        | (apply evd_nil; refine (hK _ ?_); clear hK K)
        | (apply evd_call0; (case hi | hys => (simp only [go_sem, hx, f1, w1, d1, hx1, hx2, hq2, d5, hx3]; try rfl)); (case hs => first | exact h65t .. | exact h65f .. | exact h61 .. | exact h61b .. | exact h65b .. | exact h60 .. | exact h16 ..); (case hok | hw | hσ => (simp only [go_sem, hx, f1, w1, d1, hx1, hx2, hq2, d5, hx3]; try rfl)))
        | (apply evd_step0; (case hr | hi | hσ => (simp only [go_sem, hx, f1, w1, d1, hx1, hx2, hq2, d5, hx3]; try rfl)); (case hc => (first | trivial | decide | (simp only [inB, sliceOk, appendOk, rowsOk]; omega) | (simp [inB, sliceOk, appendOk, rowsOk]; omega))))
        | (apply evd_step; (case hr | hi => (simp only [go_sem, hx, f1, w1, d1, hx1, hx2, hq2, d5, hx3]; try rfl)); (case hc => (first | trivial | decide | (simp only [inB, sliceOk, appendOk, rowsOk]; omega) | (simp [inB, sliceOk, appendOk, rowsOk]; omega))); (case hw | hσ => (intro g u; simp only [go_sem, hx, f1, w1, d1, hx1, hx2, hq2, d5, hx3]; try rfl)); (case' hk => (intro g u; (try clear u); (try clear g))))
        | fail))); (case hB => kernel_rfl))
              | (apply ev_step0; (case hr | hσ => (simp only [go_sem, hx, f1, w1, d1, hx1, hx2, hq2, d5, hx3]; try rfl)); (case hc => (first | trivial | decide | (simp only [inB, sliceOk, appendOk, rowsOk]; omega) | (simp [inB, sliceOk, appendOk, rowsOk]; omega))))
              | (apply ev_step; (case hr => (simp only [go_sem, hx, f1, w1, d1, hx1, hx2, hq2, d5, hx3]; try rfl)); (case hσ => (intro g u; simp only [go_sem, hx, f1, w1, d1, hx1, hx2, hq2, d5, hx3]; try rfl)); (case hc => (first | trivial | decide | (simp only [inB, sliceOk, appendOk, rowsOk]; omega) | (simp [inB, sliceOk, appendOk, rowsOk]; omega))); intro g u; (try clear u); (try clear g))
              | fail
            all_goals (refine resR_one T_ok rfl _ (by (simp only [go_sem, resA]; rfl)) (by first | trivial | (simp only [go_sem, resA])) (by first | trivial | (simp only [go_sem])) ?_; simp only [go_sem])
            exact LeA.refl _
      | false =>
        rw [if_neg (fun h => by rw [h3] at h; exact Bool.false_ne_true h.2)] at hN
        rw [h3] at h61b
        have hme : m = e := by omega
        subst hme
        generalize (bs s).getD (m + 1) 0 = y2 at *
        cases q with
        | true =>
          cases b5 with
          | false => exact absurd (hbq rfl) (by decide)
          | true =>
            have hm5 := hb5 rfl
            rw [if_pos rfl]
            have hv0 : validB 2 [] = false := rfl
            rw [hv0]
            generalize (bs s).getD m 0 = y3 at *
            refine ⟨_, ?_, 0, ⟨#[]⟩, 0, 0, rfl, fun h => by cases h⟩
            refine spec_of_awp (fn := Try.f47) Try.func47 (by kernel_rfl) rfl ?_
            intro w0 C0
            simp only [Try.ntmps47, litI, litB, litS, List.length_cons, List.length_nil, Nat.reduceAdd, Nat.reduceSub, List.replicate_succ, List.replicate_zero, List.cons_append, List.nil_append]
            repeat' first
              | refine awp_seq ?_
              | refine awp_block ?_
              | refine awp_skip ?_
              | (refine reg _ (by (simp only [List.map_cons, List.map_nil]; rfl)) rfl ?_; intro K hK)
              | (refine awp_cond _ (by rfl) ?_ ?_ <;> (intro hb; first | (cases hb; done) | (have ht : true = true := hb; clear ht hb) | (have ht : false = false := hb; clear ht hb) | (simp only [hb]) | skip))
              | (refine awp_exit ?_; simp only [thenA, blockA, scopeA, reduceIte, RetQ, Nat.reduceEqDiff])
              | (refine awp_ret ?_; simp only [thenA, blockA, scopeA, RetQ])
              | (refine ev_nil (hK _ ?_); clear hK K)
              | (apply ev_guardU; (case hj | hu | hσ => (simp only [go_sem, hx, f1, w1, d1, hx1, hx2, hq2, d5, hx3]; try rfl)))
              | (refine ev_guardT _ _ (by (simp only [go_sem, hx, f1, w1, d1, hx1, hx2, hq2, d5, hx3]; rfl)) (by (simp only [go_sem, hx, f1, w1, d1, hx1, hx2, hq2, d5, hx3]; rfl)) ?_ ?_ <;> (intro hb; first | (cases hb; done) | (have ht : true = true := hb; clear ht hb) | (have ht : false = false := hb; clear ht hb) | (simp only [hb]) | skip))
              | (refine ev_guardF _ _ (by (simp only [go_sem, hx, f1, w1, d1, hx1, hx2, hq2, d5, hx3]; rfl)) (by (simp only [go_sem, hx, f1, w1, d1, hx1, hx2, hq2, d5, hx3]; rfl)) ?_ ?_ <;> (intro hb; first | (cases hb; done) | (have ht : true = true := hb; clear ht hb) | (have ht : false = false := hb; clear ht hb) | (simp only [hb]) | skip))
              | (apply ev_call0; (case hys => (simp only [go_sem, hx, f1, w1, d1, hx1, hx2, hq2, d5, hx3]; try rfl)); (case hs => first | exact h65t .. | exact h65f .. | exact h61 .. | exact h61b .. | exact h60 ..); (case hok | hσ => (simp only [go_sem, hx, f1, w1, d1, hx1, hx2, hq2, d5, hx3]; try rfl)))
              | (apply regD; (case hd => (simp only [List.map_cons, List.map_nil]; rfl)); (case hok => rfl); (case' h => (intro K hK; (repeat' first
        | (apply evd_nil; refine (hK _ ?_); clear hK K)
        | (apply evd_call0; (case hi | hys => (simp only [go_sem, hx, f1, w1, d1, hx1, hx2, hq2, d5, hx3]; try rfl)); (case hs => first | exact h65t .. | exact h65f .. | exact h61 .. | exact h61b .. | exact h60 ..); (case hok | hw | hσ => (simp only [go_sem, hx, f1, w1, d1, hx1, hx2, hq2, d5, hx3]; try rfl)))
        | (apply evd_step0; (case hr | hi | hσ => (simp only [go_sem, hx, f1, w1, d1, hx1, hx2, hq2, d5, hx3]; try rfl)); (case hc => (first | trivial | decide | (simp only [inB, sliceOk, appendOk, rowsOk]; omega) | (simp [inB, sliceOk, appendOk, rowsOk]; omega))))
        | (apply evd_step; (case hr | hi => (simp only [go_sem, hx, f1, w1, d1, hx1, hx2, hq2, d5, hx3]; try rfl)); (case hc => (first | trivial | decide | (simp only [inB, sliceOk, appendOk, rowsOk]; omega) | (simp [inB, sliceOk, appendOk, rowsOk]; omega))); (case hw | hσ => (intro g u; simp only [go_sem, hx, f1, w1, d1, hx1, hx2, hq2, d5, hx3]; try rfl)); (case' hk => (intro g u; (try clear u); (try clear g))))
        | fail))); (case hB => kernel_rfl))
              | (apply ev_step0; (case hr | hσ => (simp only [go_sem, hx, f1, w1, d1, hx1, hx2, hq2, d5, hx3]; try rfl)); (case hc => (first | trivial | decide | (simp only [inB, sliceOk, appendOk, rowsOk]; omega) | (simp [inB, sliceOk, appendOk, rowsOk]; omega))))
              | (apply ev_step; (case hr => (simp only [go_sem, hx, f1, w1, d1, hx1, hx2, hq2, d5, hx3]; try rfl)); (case hσ => (intro g u; simp only [go_sem, hx, f1, w1, d1, hx1, hx2, hq2, d5, hx3]; try rfl)); (case hc => (first | trivial | decide | (simp only [inB, sliceOk, appendOk, rowsOk]; omega) | (simp [inB, sliceOk, appendOk, rowsOk]; omega))); intro g u; (try clear u); (try clear g))
              | fail
            all_goals (refine resR_one T_ok rfl _ (by (simp only [go_sem, resA]; rfl)) (by first | trivial | (simp only [go_sem, resA])) (by first | trivial | (simp only [go_sem])) ?_; simp only [go_sem])
            exact LeA.refl _
        | false =>
          rw [if_neg Bool.false_ne_true]
          generalize validB 2 (((bs s).drop a).take (numN ((bs s).drop a))) = v at *
          cases b5 with
          | false =>
            refine ⟨_, ?_, 2, s.extract a m, (a : Int), (m : Int), rfl, fun _ => ⟨rfl, hsub, rfl, rfl⟩⟩
            refine spec_of_awp (fn := Try.f47) Try.func47 (by kernel_rfl) rfl ?_
            intro w0 C0
            simp only [Try.ntmps47, litI, litB, litS, List.length_cons, List.length_nil, Nat.reduceAdd, Nat.reduceSub, List.replicate_succ, List.replicate_zero, List.cons_append, List.nil_append]
            repeat' first
              | refine awp_seq ?_
              | refine awp_block ?_
              | refine awp_skip ?_
              | (refine reg _ (by (simp only [List.map_cons, List.map_nil]; rfl)) rfl ?_; intro K hK)
              | (refine awp_cond _ (by rfl) ?_ ?_ <;> (intro hb; first | (cases hb; done) | (have ht : true = true := hb; clear ht hb) | (have ht : false = false := hb; clear ht hb) | (simp only [hb]) | skip))
              | (refine awp_exit ?_; simp only [thenA, blockA, scopeA, reduceIte, RetQ, Nat.reduceEqDiff])
              | (refine awp_ret ?_; simp only [thenA, blockA, scopeA, RetQ])
              | (refine ev_nil (hK _ ?_); clear hK K)
              | (apply ev_guardU; (case hj | hu | hσ => (simp only [go_sem, hx, f1, w1, d1, hx1, hx2, hq2, d5]; try rfl)))
              | (refine ev_guardT _ _ (by (simp only [go_sem, hx, f1, w1, d1, hx1, hx2, hq2, d5]; rfl)) (by (simp only [go_sem, hx, f1, w1, d1, hx1, hx2, hq2, d5]; rfl)) ?_ ?_ <;> (intro hb; first | (cases hb; done) | (have ht : true = true := hb; clear ht hb) | (have ht : false = false := hb; clear ht hb) | (simp only [hb]) | skip))
              | (refine ev_guardF _ _ (by (simp only [go_sem, hx, f1, w1, d1, hx1, hx2, hq2, d5]; rfl)) (by (simp only [go_sem, hx, f1, w1, d1, hx1, hx2, hq2, d5]; rfl)) ?_ ?_ <;> (intro hb; first | (cases hb; done) | (have ht : true = true := hb; clear ht hb) | (have ht : false = false := hb; clear ht hb) | (simp only [hb]) | skip))
              | (apply ev_call0; (case hys => (simp only [go_sem, hx, f1, w1, d1, hx1, hx2, hq2, d5]; try rfl)); (case hs => first | exact h65t .. | exact h65f .. | exact h61 .. | exact h61b .. | exact h16 ..); (case hok | hσ => (simp only [go_sem, hx, f1, w1, d1, hx1, hx2, hq2, d5]; try rfl)))
              | (apply regD; (case hd => (simp only [List.map_cons, List.map_nil]; rfl)); (case hok => rfl); (case' h => (intro K hK; (repeat' first
        | (apply evd_nil; refine (hK _ ?_); clear hK K)
        | (apply evd_call0; (case hi | hys => (simp only [go_sem, hx, f1, w1, d1, hx1, hx2, hq2, d5]; try rfl)); (case hs => first | exact h65t .. | exact h65f .. | exact h61 .. | exact h61b .. | exact h16 ..); (case hok | hw | hσ => (simp only [go_sem, hx, f1, w1, d1, hx1, hx2, hq2, d5]; try rfl)))
        | (apply evd_step0; (case hr | hi | hσ => (simp only [go_sem, hx, f1, w1, d1, hx1, hx2, hq2, d5]; try rfl)); (case hc => (first | trivial | decide | (simp only [inB, sliceOk, appendOk, rowsOk]; omega) | (simp [inB, sliceOk, appendOk, rowsOk]; omega))))
        | (apply evd_step; (case hr | hi => (simp only [go_sem, hx, f1, w1, d1, hx1, hx2, hq2, d5]; try rfl)); (case hc => (first | trivial | decide | (simp only [inB, sliceOk, appendOk, rowsOk]; omega) | (simp [inB, sliceOk, appendOk, rowsOk]; omega))); (case hw | hσ => (intro g u; simp only [go_sem, hx, f1, w1, d1, hx1, hx2, hq2, d5]; try rfl)); (case' hk => (intro g u; (try clear u); (try clear g))))
        | fail))); (case hB => kernel_rfl))
              | (apply ev_step0; (case hr | hσ => (simp only [go_sem, hx, f1, w1, d1, hx1, hx2, hq2, d5]; try rfl)); (case hc => (first | trivial | decide | (simp only [inB, sliceOk, appendOk, rowsOk]; omega) | (simp [inB, sliceOk, appendOk, rowsOk]; omega))))
              | (apply ev_step; (case hr => (simp only [go_sem, hx, f1, w1, d1, hx1, hx2, hq2, d5]; try rfl)); (case hσ => (intro g u; simp only [go_sem, hx, f1, w1, d1, hx1, hx2, hq2, d5]; try rfl)); (case hc => (first | trivial | decide | (simp only [inB, sliceOk, appendOk, rowsOk]; omega) | (simp [inB, sliceOk, appendOk, rowsOk]; omega))); intro g u; (try clear u); (try clear g))
              | fail
            all_goals (refine resR_one T_ok rfl _ (by (simp only [go_sem, resA]; rfl)) (by first | trivial | (simp only [go_sem, resA])) (by first | trivial | (simp only [go_sem])) ?_; simp only [go_sem])
            exact LeA.refl _
          | true =>
            have hm5 := hb5 rfl
            generalize (bs s).getD m 0 = y3 at *
            refine ⟨_, ?_, 2, s.extract a m, (a : Int), (m : Int), rfl, fun _ => ⟨rfl, hsub, rfl, rfl⟩⟩
            refine spec_of_awp (fn := Try.f47) Try.func47 (by kernel_rfl) rfl ?_
            intro w0 C0
            simp only [Try.ntmps47, litI, litB, litS, List.length_cons, List.length_nil, Nat.reduceAdd, Nat.reduceSub, List.replicate_succ, List.replicate_zero, List.cons_append, List.nil_append]
            repeat' first
              | refine awp_seq ?_
              | refine awp_block ?_
              | refine awp_skip ?_
              | (refine reg _ (by (simp only [List.map_cons, List.map_nil]; rfl)) rfl ?_; intro K hK)
              | (refine awp_cond _ (by rfl) ?_ ?_ <;> (intro hb; first | (cases hb; done) | (have ht : true = true := hb; clear ht hb) | (have ht : false = false := hb; clear ht hb) | (simp only [hb]) | skip))
              | (refine awp_exit ?_; simp only [thenA, blockA, scopeA, reduceIte, RetQ, Nat.reduceEqDiff])
              | (refine awp_ret ?_; simp only [thenA, blockA, scopeA, RetQ])
              | (refine ev_nil (hK _ ?_); clear hK K)
              | (apply ev_guardU; (case hj | hu | hσ => (simp only [go_sem, hx, f1, w1, d1, hx1, hx2, hq2, d5, hx3]; try rfl)))
              | (refine ev_guardT _ _ (by (simp only [go_sem, hx, f1, w1, d1, hx1, hx2, hq2, d5, hx3]; rfl)) (by (simp only [go_sem, hx, f1, w1, d1, hx1, hx2, hq2, d5, hx3]; rfl)) ?_ ?_ <;> (intro hb; first | (cases hb; done) | (have ht : true = true := hb; clear ht hb) | (have ht : false = false := hb; clear ht hb) | (simp only [hb]) | skip))
              | (refine ev_guardF _ _ (by (simp only [go_sem, hx, f1, w1, d1, hx1, hx2, hq2, d5, hx3]; rfl)) (by (simp only [go_sem, hx, f1, w1, d1, hx1, hx2, hq2, d5, hx3]; rfl)) ?_ ?_ <;> (intro hb; first | (cases hb; done) | (have ht : true = true := hb; clear ht hb) | (have ht : false = false := hb; clear ht hb) | (simp only [hb]) | skip))
              | (apply ev_call0; (case hys => (simp only [go_sem, hx, f1, w1, d1, hx1, hx2, hq2, d5, hx3]; try rfl)); (case hs => first | exact h65t .. | exact h65f .. | exact h61 .. | exact h61b .. | exact h60 .. | exact h16 ..); (case hok | hσ => (simp only [go_sem, hx, f1, w1, d1, hx1, hx2, hq2, d5, hx3]; try rfl)))
              | (apply regD; (case hd => (simp only [List.map_cons, List.map_nil]; rfl)); (case hok => rfl); (case' h => (intro K hK; (repeat' first
        | (apply evd_nil; refine (hK _ ?_); clear hK K)
        | (apply evd_call0; (case hi | hys => (simp only [go_sem, hx, f1, w1, d1, hx1, hx2, hq2, d5, hx3]; try rfl)); (case hs => first | exact h65t .. | exact h65f .. | exact h61 .. | exact h61b .. | exact h60 .. | exact h16 ..); (case hok | hw | hσ => (simp only [go_sem, hx, f1, w1, d1, hx1, hx2, hq2, d5, hx3]; try rfl)))
        | (apply evd_step0; (case hr | hi | hσ => (simp only [go_sem, hx, f1, w1, d1, hx1, hx2, hq2, d5, hx3]; try rfl)); (case hc => (first | trivial | decide | (simp only [inB, sliceOk, appendOk, rowsOk]; omega) | (simp [inB, sliceOk, appendOk, rowsOk]; omega))))
        | (apply evd_step; (case hr | hi => (simp only [go_sem, hx, f1, w1, d1, hx1, hx2, hq2, d5, hx3]; try rfl)); (case hc => (first | trivial | decide | (simp only [inB, sliceOk, appendOk, rowsOk]; omega) | (simp [inB, sliceOk, appendOk, rowsOk]; omega))); (case hw | hσ => (intro g u; simp only [go_sem, hx, f1, w1, d1, hx1, hx2, hq2, d5, hx3]; try rfl)); (case' hk => (intro g u; (try clear u); (try clear g))))
        | fail))); (case hB => kernel_rfl))
              | (apply ev_step0; (case hr | hσ => (simp only [go_sem, hx, f1, w1, d1, hx1, hx2, hq2, d5, hx3]; try rfl)); (case hc => (first | trivial | decide | (simp only [inB, sliceOk, appendOk, rowsOk]; omega) | (simp [inB, sliceOk, appendOk, rowsOk]; omega))))
              | (apply ev_step; (case hr => (simp only [go_sem, hx, f1, w1, d1, hx1, hx2, hq2, d5, hx3]; try rfl)); (case hσ => (intro g u; simp only [go_sem, hx, f1, w1, d1, hx1, hx2, hq2, d5, hx3]; try rfl)); (case hc => (first | trivial | decide | (simp only [inB, sliceOk, appendOk, rowsOk]; omega) | (simp [inB, sliceOk, appendOk, rowsOk]; omega))); intro g u; (try clear u); (try clear g))
              | fail
            all_goals (refine resR_one T_ok rfl _ (by (simp only [go_sem, resA]; rfl)) (by first | trivial | (simp only [go_sem, resA])) (by first | trivial | (simp only [go_sem])) ?_; simp only [go_sem])
            exact LeA.refl _
    · have hq2 : ((((bs s).getD e 0).toNat : Int) == 46) = false := by rw [hq1]; simpa using h2
      clear hq1
      rw [if_neg (fun h => h2 h.1)] at hN
      have hme : m = e := by omega
      subst hme
      cases q with
      | true =>
        cases b5 with
        | false => exact absurd (hbq rfl) (by decide)
        | true =>
          have hm5 := hb5 rfl
          rw [if_pos rfl]
          have hv0 : validB 2 [] = false := rfl
          rw [hv0]
          generalize (bs s).getD m 0 = y3 at *
          refine ⟨_, ?_, 0, ⟨#[]⟩, 0, 0, rfl, fun h => by cases h⟩
          refine spec_of_awp (fn := Try.f47) Try.func47 (by kernel_rfl) rfl ?_
          intro w0 C0
          simp only [Try.ntmps47, litI, litB, litS, List.length_cons, List.length_nil, Nat.reduceAdd, Nat.reduceSub, List.replicate_succ, List.replicate_zero, List.cons_append, List.nil_append]
          repeat' first
            | refine awp_seq ?_
            | refine awp_block ?_
            | refine awp_skip ?_
            | (refine reg _ (by (simp only [List.map_cons, List.map_nil]; rfl)) rfl ?_; intro K hK)
            | (refine awp_cond _ (by rfl) ?_ ?_ <;> (intro hb; first | (cases hb; done) | (have ht : true = true := hb; clear ht hb) | (have ht : false = false := hb; clear ht hb) | (simp only [hb]) | skip))
            | (refine awp_exit ?_; simp only [thenA, blockA, scopeA, reduceIte, RetQ, Nat.reduceEqDiff])
            | (refine awp_ret ?_; simp only [thenA, blockA, scopeA, RetQ])
            | (refine ev_nil (hK _ ?_); clear hK K)
            | (apply ev_guardU; (case hj | hu | hσ => (simp only [go_sem, hx, f1, w1, d1, hx1, hq2, d5, hx3]; try rfl)))
            | (refine ev_guardT _ _ (by (simp only [go_sem, hx, f1, w1, d1, hx1, hq2, d5, hx3]; rfl)) (by (simp only [go_sem, hx, f1, w1, d1, hx1, hq2, d5, hx3]; rfl)) ?_ ?_ <;> (intro hb; first | (cases hb; done) | (have ht : true = true := hb; clear ht hb) | (have ht : false = false := hb; clear ht hb) | (simp only [hb]) | skip))
            | (refine ev_guardF _ _ (by (simp only [go_sem, hx, f1, w1, d1, hx1, hq2, d5, hx3]; rfl)) (by (simp only [go_sem, hx, f1, w1, d1, hx1, hq2, d5, hx3]; rfl)) ?_ ?_ <;> (intro hb; first | (cases hb; done) | (have ht : true = true := hb; clear ht hb) | (have ht : false = false := hb; clear ht hb) | (simp only [hb]) | skip))
            | (apply ev_call0; (case hys => (simp only [go_sem, hx, f1, w1, d1, hx1, hq2, d5, hx3]; try rfl)); (case hs => first | exact h65t .. | exact h65f .. | exact h61 .. | exact h60 ..); (case hok | hσ => (simp only [go_sem, hx, f1, w1, d1, hx1, hq2, d5, hx3]; try rfl)))
            | (apply regD; (case hd => (simp only [List.map_cons, List.map_nil]; rfl)); (case hok => rfl); (case' h => (intro K hK; (repeat' first
        | (apply evd_nil; refine (hK _ ?_); clear hK K)
        | (apply evd_call0; (case hi | hys => (simp only [go_sem, hx, f1, w1, d1, hx1, hq2, d5, hx3]; try rfl)); (case hs => first | exact h65t .. | exact h65f .. | exact h61 .. | exact h60 ..); (case hok | hw | hσ => (simp only [go_sem, hx, f1, w1, d1, hx1, hq2, d5, hx3]; try rfl)))
        | (apply evd_step0; (case hr | hi | hσ => (simp only [go_sem, hx, f1, w1, d1, hx1, hq2, d5, hx3]; try rfl)); (case hc => (first | trivial | decide | (simp only [inB, sliceOk, appendOk, rowsOk]; omega) | (simp [inB, sliceOk, appendOk, rowsOk]; omega))))
        | (apply evd_step; (case hr | hi => (simp only [go_sem, hx, f1, w1, d1, hx1, hq2, d5, hx3]; try rfl)); (case hc => (first | trivial | decide | (simp only [inB, sliceOk, appendOk, rowsOk]; omega) | (simp [inB, sliceOk, appendOk, rowsOk]; omega))); (case hw | hσ => (intro g u; simp only [go_sem, hx, f1, w1, d1, hx1, hq2, d5, hx3]; try rfl)); (case' hk => (intro g u; (try clear u); (try clear g))))
        | fail))); (case hB => kernel_rfl))
            | (apply ev_step0; (case hr | hσ => (simp only [go_sem, hx, f1, w1, d1, hx1, hq2, d5, hx3]; try rfl)); (case hc => (first | trivial | decide | (simp only [inB, sliceOk, appendOk, rowsOk]; omega) | (simp [inB, sliceOk, appendOk, rowsOk]; omega))))
            | (apply ev_step; (case hr => (simp only [go_sem, hx, f1, w1, d1, hx1, hq2, d5, hx3]; try rfl)); (case hσ => (intro g u; simp only [go_sem, hx, f1, w1, d1, hx1, hq2, d5, hx3]; try rfl)); (case hc => (first | trivial | decide | (simp only [inB, sliceOk, appendOk, rowsOk]; omega) | (simp [inB, sliceOk, appendOk, rowsOk]; omega))); intro g u; (try clear u); (try clear g))
            | fail
          all_goals (refine resR_one T_ok rfl _ (by (simp only [go_sem, resA]; rfl)) (by first | trivial | (simp only [go_sem, resA])) (by first | trivial | (simp only [go_sem])) ?_; simp only [go_sem])
          exact LeA.refl _
      | false =>
        rw [if_neg Bool.false_ne_true]
        generalize validB 2 (((bs s).drop a).take (numN ((bs s).drop a))) = v at *
        cases b5 with
        | false =>
          refine ⟨_, ?_, 2, s.extract a m, (a : Int), (m : Int), rfl, fun _ => ⟨rfl, hsub, rfl, rfl⟩⟩
          refine spec_of_awp (fn := Try.f47) Try.func47 (by kernel_rfl) rfl ?_
          intro w0 C0
          simp only [Try.ntmps47, litI, litB, litS, List.length_cons, List.length_nil, Nat.reduceAdd, Nat.reduceSub, List.replicate_succ, List.replicate_zero, List.cons_append, List.nil_append]
          repeat' first
            | refine awp_seq ?_
            | refine awp_block ?_
            | refine awp_skip ?_
            | (refine reg _ (by (simp only [List.map_cons, List.map_nil]; rfl)) rfl ?_; intro K hK)
            | (refine awp_cond _ (by rfl) ?_ ?_ <;> (intro hb; first | (cases hb; done) | (have ht : true = true := hb; clear ht hb) | (have ht : false = false := hb; clear ht hb) | (simp only [hb]) | skip))
            | (refine awp_exit ?_; simp only [thenA, blockA, scopeA, reduceIte, RetQ, Nat.reduceEqDiff])
            | (refine awp_ret ?_; simp only [thenA, blockA, scopeA, RetQ])
            | (refine ev_nil (hK _ ?_); clear hK K)
            | (apply ev_guardU; (case hj | hu | hσ => (simp only [go_sem, hx, f1, w1, d1, hx1, hq2, d5]; try rfl)))
            | (refine ev_guardT _ _ (by (simp only [go_sem, hx, f1, w1, d1, hx1, hq2, d5]; rfl)) (by (simp only [go_sem, hx, f1, w1, d1, hx1, hq2, d5]; rfl)) ?_ ?_ <;> (intro hb; first | (cases hb; done) | (have ht : true = true := hb; clear ht hb) | (have ht : false = false := hb; clear ht hb) | (simp only [hb]) | skip))
            | (refine ev_guardF _ _ (by (simp only [go_sem, hx, f1, w1, d1, hx1, hq2, d5]; rfl)) (by (simp only [go_sem, hx, f1, w1, d1, hx1, hq2, d5]; rfl)) ?_ ?_ <;> (intro hb; first | (cases hb; done) | (have ht : true = true := hb; clear ht hb) | (have ht : false = false := hb; clear ht hb) | (simp only [hb]) | skip))
            | (apply ev_call0; (case hys => (simp only [go_sem, hx, f1, w1, d1, hx1, hq2, d5]; try rfl)); (case hs => first | exact h65t .. | exact h65f .. | exact h61 .. | exact h16 ..); (case hok | hσ => (simp only [go_sem, hx, f1, w1, d1, hx1, hq2, d5]; try rfl)))
            | (apply regD; (case hd => (simp only [List.map_cons, List.map_nil]; rfl)); (case hok => rfl); (case' h => (intro K hK; (repeat' first
        | (apply evd_nil; refine (hK _ ?_); clear hK K)
        | (apply evd_call0; (case hi | hys => (simp only [go_sem, hx, f1, w1, d1, hx1, hq2, d5]; try rfl)); (case hs => first | exact h65t .. | exact h65f .. | exact h61 .. | exact h16 ..); (case hok | hw | hσ => (simp only [go_sem, hx, f1, w1, d1, hx1, hq2, d5]; try rfl)))
        | (apply evd_step0; (case hr | hi | hσ => (simp only [go_sem, hx, f1, w1, d1, hx1, hq2, d5]; try rfl)); (case hc => (first | trivial | decide | (simp only [inB, sliceOk, appendOk, rowsOk]; omega) | (simp [inB, sliceOk, appendOk, rowsOk]; omega))))
        | (apply evd_step; (case hr | hi => (simp only [go_sem, hx, f1, w1, d1, hx1, hq2, d5]; try rfl)); (case hc => (first | trivial | decide | (simp only [inB, sliceOk, appendOk, rowsOk]; omega) | (simp [inB, sliceOk, appendOk, rowsOk]; omega))); (case hw | hσ => (intro g u; simp only [go_sem, hx, f1, w1, d1, hx1, hq2, d5]; try rfl)); (case' hk => (intro g u; (try clear u); (try clear g))))
        | fail))); (case hB => kernel_rfl))
            | (apply ev_step0; (case hr | hσ => (simp only [go_sem, hx, f1, w1, d1, hx1, hq2, d5]; try rfl)); (case hc => (first | trivial | decide | (simp only [inB, sliceOk, appendOk, rowsOk]; omega) | (simp [inB, sliceOk, appendOk, rowsOk]; omega))))
            | (apply ev_step; (case hr => (simp only [go_sem, hx, f1, w1, d1, hx1, hq2, d5]; try rfl)); (case hσ => (intro g u; simp only [go_sem, hx, f1, w1, d1, hx1, hq2, d5]; try rfl)); (case hc => (first | trivial | decide | (simp only [inB, sliceOk, appendOk, rowsOk]; omega) | (simp [inB, sliceOk, appendOk, rowsOk]; omega))); intro g u; (try clear u); (try clear g))
            | fail
          all_goals (refine resR_one T_ok rfl _ (by (simp only [go_sem, resA]; rfl)) (by first | trivial | (simp only [go_sem, resA])) (by first | trivial | (simp only [go_sem])) ?_; simp only [go_sem])
          exact LeA.refl _
        | true =>
          have hm5 := hb5 rfl
          generalize (bs s).getD m 0 = y3 at *
          refine ⟨_, ?_, 2, s.extract a m, (a : Int), (m : Int), rfl, fun _ => ⟨rfl, hsub, rfl, rfl⟩⟩
          refine spec_of_awp (fn := Try.f47) Try.func47 (by kernel_rfl) rfl ?_
          intro w0 C0
          simp only [Try.ntmps47, litI, litB, litS, List.length_cons, List.length_nil, Nat.reduceAdd, Nat.reduceSub, List.replicate_succ, List.replicate_zero, List.cons_append, List.nil_append]
          repeat' first
            | refine awp_seq ?_
            | refine awp_block ?_
            | refine awp_skip ?_
            | (refine reg _ (by (simp only [List.map_cons, List.map_nil]; rfl)) rfl ?_; intro K hK)
            | (refine awp_cond _ (by rfl) ?_ ?_ <;> (intro hb; first | (cases hb; done) | (have ht : true = true := hb; clear ht hb) | (have ht : false = false := hb; clear ht hb) | (simp only [hb]) | skip))
            | (refine awp_exit ?_; simp only [thenA, blockA, scopeA, reduceIte, RetQ, Nat.reduceEqDiff])
            | (refine awp_ret ?_; simp only [thenA, blockA, scopeA, RetQ])
            | (refine ev_nil (hK _ ?_); clear hK K)
            | (apply ev_guardU; (case hj | hu | hσ => (simp only [go_sem, hx, f1, w1, d1, hx1, hq2, d5, hx3]; try rfl)))
            | (refine ev_guardT _ _ (by (simp only [go_sem, hx, f1, w1, d1, hx1, hq2, d5, hx3]; rfl)) (by (simp only [go_sem, hx, f1, w1, d1, hx1, hq2, d5, hx3]; rfl)) ?_ ?_ <;> (intro hb; first | (cases hb; done) | (have ht : true = true := hb; clear ht hb) | (have ht : false = false := hb; clear ht hb) | (simp only [hb]) | skip))
            | (refine ev_guardF _ _ (by (simp only [go_sem, hx, f1, w1, d1, hx1, hq2, d5, hx3]; rfl)) (by (simp only [go_sem, hx, f1, w1, d1, hx1, hq2, d5, hx3]; rfl)) ?_ ?_ <;> (intro hb; first | (cases hb; done) | (have ht : true = true := hb; clear ht hb) | (have ht : false = false := hb; clear ht hb) | (simp only [hb]) | skip))
            | (apply ev_call0; (case hys => (simp only [go_sem, hx, f1, w1, d1, hx1, hq2, d5, hx3]; try rfl)); (case hs => first | exact h65t .. | exact h65f .. | exact h61 .. | exact h60 .. | exact h16 ..); (case hok | hσ => (simp only [go_sem, hx, f1, w1, d1, hx1, hq2, d5, hx3]; try rfl)))
            | (apply regD; (case hd => (simp only [List.map_cons, List.map_nil]; rfl)); (case hok => rfl); (case' h => (intro K hK; (repeat' first
        | (apply evd_nil; refine (hK _ ?_); clear hK K)
        | (apply evd_call0; (case hi | hys => (simp only [go_sem, hx, f1, w1, d1, hx1, hq2, d5, hx3]; try rfl)); (case hs => first | exact h65t .. | exact h65f .. | exact h61 .. | exact h60 .. | exact h16 ..); (case hok | hw | hσ => (simp only [go_sem, hx, f1, w1, d1, hx1, hq2, d5, hx3]; try rfl)))
        | (apply evd_step0; (case hr | hi | hσ => (simp only [go_sem, hx, f1, w1, d1, hx1, hq2, d5, hx3]; try rfl)); (case hc => (first | trivial | decide | (simp only [inB, sliceOk, appendOk, rowsOk]; omega) | (simp [inB, sliceOk, appendOk, rowsOk]; omega))))
        | (apply evd_step; (case hr | hi => (simp only [go_sem, hx, f1, w1, d1, hx1, hq2, d5, hx3]; try rfl)); (case hc => (first | trivial | decide | (simp only [inB, sliceOk, appendOk, rowsOk]; omega) | (simp [inB, sliceOk, appendOk, rowsOk]; omega))); (case hw | hσ => (intro g u; simp only [go_sem, hx, f1, w1, d1, hx1, hq2, d5, hx3]; try rfl)); (case' hk => (intro g u; (try clear u); (try clear g))))
        | fail))); (case hB => kernel_rfl))
            | (apply ev_step0; (case hr | hσ => (simp only [go_sem, hx, f1, w1, d1, hx1, hq2, d5, hx3]; try rfl)); (case hc => (first | trivial | decide | (simp only [inB, sliceOk, appendOk, rowsOk]; omega) | (simp [inB, sliceOk, appendOk, rowsOk]; omega))))
            | (apply ev_step; (case hr => (simp only [go_sem, hx, f1, w1, d1, hx1, hq2, d5, hx3]; try rfl)); (case hσ => (intro g u; simp only [go_sem, hx, f1, w1, d1, hx1, hq2, d5, hx3]; try rfl)); (case hc => (first | trivial | decide | (simp only [inB, sliceOk, appendOk, rowsOk]; omega) | (simp [inB, sliceOk, appendOk, rowsOk]; omega))); intro g u; (try clear u); (try clear g))
            | fail
          all_goals (refine resR_one T_ok rfl _ (by (simp only [go_sem, resA]; rfl)) (by first | trivial | (simp only [go_sem, resA])) (by first | trivial | (simp only [go_sem])) ?_; simp only [go_sem])
          exact LeA.refl _
  · have d1 : decide (((e + 1 : Nat) : Int) < (s.size : Int)) = false := decide_eq_false (by omega)
    rw [if_neg (fun h => by rw [getD_out (i := _ + 1) (by omega), digit0] at h; exact Bool.false_ne_true h.2)] at hN
    have hme : m = e := by omega
    subst hme
    cases q with
    | true =>
      cases b5 with
      | false => exact absurd (hbq rfl) (by decide)
      | true =>
        have hm5 := hb5 rfl
        rw [if_pos rfl]
        have hv0 : validB 2 [] = false := rfl
        rw [hv0]
        generalize (bs s).getD m 0 = y3 at *
        refine ⟨_, ?_, 0, ⟨#[]⟩, 0, 0, rfl, fun h => by cases h⟩
        refine spec_of_awp (fn := Try.f47) Try.func47 (by kernel_rfl) rfl ?_
        intro w0 C0
        simp only [Try.ntmps47, litI, litB, litS, List.length_cons, List.length_nil, Nat.reduceAdd, Nat.reduceSub, List.replicate_succ, List.replicate_zero, List.cons_append, List.nil_append]
        repeat' first
          | refine awp_seq ?_
          | refine awp_block ?_
          | refine awp_skip ?_
          | (refine reg _ (by (simp only [List.map_cons, List.map_nil]; rfl)) rfl ?_; intro K hK)
          | (refine awp_cond _ (by rfl) ?_ ?_ <;> (intro hb; first | (cases hb; done) | (have ht : true = true := hb; clear ht hb) | (have ht : false = false := hb; clear ht hb) | (simp only [hb]) | skip))
          | (refine awp_exit ?_; simp only [thenA, blockA, scopeA, reduceIte, RetQ, Nat.reduceEqDiff])
          | (refine awp_ret ?_; simp only [thenA, blockA, scopeA, RetQ])
          | (refine ev_nil (hK _ ?_); clear hK K)
          | (apply ev_guardU; (case hj | hu | hσ => (simp only [go_sem, hx, f1, w1, d1, d5, hx3]; try rfl)))
          | (refine ev_guardT _ _ (by (simp only [go_sem, hx, f1, w1, d1, d5, hx3]; rfl)) (by (simp only [go_sem, hx, f1, w1, d1, d5, hx3]; rfl)) ?_ ?_ <;> (intro hb; first | (cases hb; done) | (have ht : true = true := hb; clear ht hb) | (have ht : false = false := hb; clear ht hb) | (simp only [hb]) | skip))
          | (refine ev_guardF _ _ (by (simp only [go_sem, hx, f1, w1, d1, d5, hx3]; rfl)) (by (simp only [go_sem, hx, f1, w1, d1, d5, hx3]; rfl)) ?_ ?_ <;> (intro hb; first | (cases hb; done) | (have ht : true = true := hb; clear ht hb) | (have ht : false = false := hb; clear ht hb) | (simp only [hb]) | skip))
          | (apply ev_call0; (case hys => (simp only [go_sem, hx, f1, w1, d1, d5, hx3]; try rfl)); (case hs => first | exact h65t .. | exact h65f .. | exact h61 .. | exact h60 ..); (case hok | hσ => (simp only [go_sem, hx, f1, w1, d1, d5, hx3]; try rfl)))
          | (apply regD; (case hd => (simp only [List.map_cons, List.map_nil]; rfl)); (case hok => rfl); (case' h => (intro K hK; (repeat' first
        | (apply evd_nil; refine (hK _ ?_); clear hK K)
        | (apply evd_call0; (case hi | hys => (simp only [go_sem, hx, f1, w1, d1, d5, hx3]; try rfl)); (case hs => first | exact h65t .. | exact h65f .. | exact h61 .. | exact h60 ..); (case hok | hw | hσ => (simp only [go_sem, hx, f1, w1, d1, d5, hx3]; try rfl)))
        | (apply evd_step0; (case hr | hi | hσ => (simp only [go_sem, hx, f1, w1, d1, d5, hx3]; try rfl)); (case hc => (first | trivial | decide | (simp only [inB, sliceOk, appendOk, rowsOk]; omega) | (simp [inB, sliceOk, appendOk, rowsOk]; omega))))
        | (apply evd_step; (case hr | hi => (simp only [go_sem, hx, f1, w1, d1, d5, hx3]; try rfl)); (case hc => (first | trivial | decide | (simp only [inB, sliceOk, appendOk, rowsOk]; omega) | (simp [inB, sliceOk, appendOk, rowsOk]; omega))); (case hw | hσ => (intro g u; simp only [go_sem, hx, f1, w1, d1, d5, hx3]; try rfl)); (case' hk => (intro g u; (try clear u); (try clear g))))
        | fail))); (case hB => kernel_rfl))
          | (apply ev_step0; (case hr | hσ => (simp only [go_sem, hx, f1, w1, d1, d5, hx3]; try rfl)); (case hc => (first | trivial | decide | (simp only [inB, sliceOk, appendOk, rowsOk]; omega) | (simp [inB, sliceOk, appendOk, rowsOk]; omega))))
          | (apply ev_step; (case hr => (simp only [go_sem, hx, f1, w1, d1, d5, hx3]; try rfl)); (case hσ => (intro g u; simp only [go_sem, hx, f1, w1, d1, d5, hx3]; try rfl)); (case hc => (first | trivial | decide | (simp only [inB, sliceOk, appendOk, rowsOk]; omega) | (simp [inB, sliceOk, appendOk, rowsOk]; omega))); intro g u; (try clear u); (try clear g))
          | fail
        all_goals (refine resR_one T_ok rfl _ (by (simp only [go_sem, resA]; rfl)) (by first | trivial | (simp only [go_sem, resA])) (by first | trivial | (simp only [go_sem])) ?_; simp only [go_sem])
        exact LeA.refl _
    | false =>
      rw [if_neg Bool.false_ne_true]
      generalize validB 2 (((bs s).drop a).take (numN ((bs s).drop a))) = v at *
      cases b5 with
      | false =>
        refine ⟨_, ?_, 2, s.extract a m, (a : Int), (m : Int), rfl, fun _ => ⟨rfl, hsub, rfl, rfl⟩⟩
        refine spec_of_awp (fn := Try.f47) Try.func47 (by kernel_rfl) rfl ?_
        intro w0 C0
        simp only [Try.ntmps47, litI, litB, litS, List.length_cons, List.length_nil, Nat.reduceAdd, Nat.reduceSub, List.replicate_succ, List.replicate_zero, List.cons_append, List.nil_append]
        repeat' first
          | refine awp_seq ?_
          | refine awp_block ?_
          | refine awp_skip ?_
          | (refine reg _ (by (simp only [List.map_cons, List.map_nil]; rfl)) rfl ?_; intro K hK)
          | (refine awp_cond _ (by rfl) ?_ ?_ <;> (intro hb; first | (cases hb; done) | (have ht : true = true := hb; clear ht hb) | (have ht : false = false := hb; clear ht hb) | (simp only [hb]) | skip))
          | (refine awp_exit ?_; simp only [thenA, blockA, scopeA, reduceIte, RetQ, Nat.reduceEqDiff])
          | (refine awp_ret ?_; simp only [thenA, blockA, scopeA, RetQ])
          | (refine ev_nil (hK _ ?_); clear hK K)
          | (apply ev_guardU; (case hj | hu | hσ => (simp only [go_sem, hx, f1, w1, d1, d5]; try rfl)))
          | (refine ev_guardT _ _ (by (simp only [go_sem, hx, f1, w1, d1, d5]; rfl)) (by (simp only [go_sem, hx, f1, w1, d1, d5]; rfl)) ?_ ?_ <;> (intro hb; first | (cases hb; done) | (have ht : true = true := hb; clear ht hb) | (have ht : false = false := hb; clear ht hb) | (simp only [hb]) | skip))
          | (refine ev_guardF _ _ (by (simp only [go_sem, hx, f1, w1, d1, d5]; rfl)) (by (simp only [go_sem, hx, f1, w1, d1, d5]; rfl)) ?_ ?_ <;> (intro hb; first | (cases hb; done) | (have ht : true = true := hb; clear ht hb) | (have ht : false = false := hb; clear ht hb) | (simp only [hb]) | skip))
          | (apply ev_call0; (case hys => (simp only [go_sem, hx, f1, w1, d1, d5]; try rfl)); (case hs => first | exact h65t .. | exact h65f .. | exact h61 .. | exact h16 ..); (case hok | hσ => (simp only [go_sem, hx, f1, w1, d1, d5]; try rfl)))
          | (apply regD; (case hd => (simp only [List.map_cons, List.map_nil]; rfl)); (case hok => rfl); (case' h => (intro K hK; (repeat' first
        | (apply evd_nil; refine (hK _ ?_); clear hK K)
        | (apply evd_call0; (case hi | hys => (simp only [go_sem, hx, f1, w1, d1, d5]; try rfl)); (case hs => first | exact h65t .. | exact h65f .. | exact h61 .. | exact h16 ..); (case hok | hw | hσ => (simp only [go_sem, hx, f1, w1, d1, d5]; try rfl)))
        | (apply evd_step0; (case hr | hi | hσ => (simp only [go_sem, hx, f1, w1, d1, d5]; try rfl)); (case hc => (first | trivial | decide | (simp only [inB, sliceOk, appendOk, rowsOk]; omega) | (simp [inB, sliceOk, appendOk, rowsOk]; omega))))
        | (apply evd_step; (case hr | hi => (simp only [go_sem, hx, f1, w1, d1, d5]; try rfl)); (case hc => (first | trivial | decide | (simp only [inB, sliceOk, appendOk, rowsOk]; omega) | (simp [inB, sliceOk, appendOk, rowsOk]; omega))); (case hw | hσ => (intro g u; simp only [go_sem, hx, f1, w1, d1, d5]; try rfl)); (case' hk => (intro g u; (try clear u); (try clear g))))
        | fail))); (case hB => kernel_rfl))
          | (apply ev_step0; (case hr | hσ => (simp only [go_sem, hx, f1, w1, d1, d5]; try rfl)); (case hc => (first | trivial | decide | (simp only [inB, sliceOk, appendOk, rowsOk]; omega) | (simp [inB, sliceOk, appendOk, rowsOk]; omega))))
          | (apply ev_step; (case hr => (simp only [go_sem, hx, f1, w1, d1, d5]; try rfl)); (case hσ => (intro g u; simp only [go_sem, hx, f1, w1, d1, d5]; try rfl)); (case hc => (first | trivial | decide | (simp only [inB, sliceOk, appendOk, rowsOk]; omega) | (simp [inB, sliceOk, appendOk, rowsOk]; omega))); intro g u; (try clear u); (try clear g))
          | fail
        all_goals (refine resR_one T_ok rfl _ (by (simp only [go_sem, resA]; rfl)) (by first | trivial | (simp only [go_sem, resA])) (by first | trivial | (simp only [go_sem])) ?_; simp only [go_sem])
        exact LeA.refl _
      | true =>
        have hm5 := hb5 rfl
        generalize (bs s).getD m 0 = y3 at *
        refine ⟨_, ?_, 2, s.extract a m, (a : Int), (m : Int), rfl, fun _ => ⟨rfl, hsub, rfl, rfl⟩⟩
        refine spec_of_awp (fn := Try.f47) Try.func47 (by kernel_rfl) rfl ?_
        intro w0 C0
        simp only [Try.ntmps47, litI, litB, litS, List.length_cons, List.length_nil, Nat.reduceAdd, Nat.reduceSub, List.replicate_succ, List.replicate_zero, List.cons_append, List.nil_append]
        repeat' first
          | refine awp_seq ?_
          | refine awp_block ?_
          | refine awp_skip ?_
          | (refine reg _ (by (simp only [List.map_cons, List.map_nil]; rfl)) rfl ?_; intro K hK)
          | (refine awp_cond _ (by rfl) ?_ ?_ <;> (intro hb; first | (cases hb; done) | (have ht : true = true := hb; clear ht hb) | (have ht : false = false := hb; clear ht hb) | (simp only [hb]) | skip))
          | (refine awp_exit ?_; simp only [thenA, blockA, scopeA, reduceIte, RetQ, Nat.reduceEqDiff])
          | (refine awp_ret ?_; simp only [thenA, blockA, scopeA, RetQ])
          | (refine ev_nil (hK _ ?_); clear hK K)
          | (apply ev_guardU; (case hj | hu | hσ => (simp only [go_sem, hx, f1, w1, d1, d5, hx3]; try rfl)))
          | (refine ev_guardT _ _ (by (simp only [go_sem, hx, f1, w1, d1, d5, hx3]; rfl)) (by (simp only [go_sem, hx, f1, w1, d1, d5, hx3]; rfl)) ?_ ?_ <;> (intro hb; first | (cases hb; done) | (have ht : true = true := hb; clear ht hb) | (have ht : false = false := hb; clear ht hb) | (simp only [hb]) | skip))
          | (refine ev_guardF _ _ (by (simp only [go_sem, hx, f1, w1, d1, d5, hx3]; rfl)) (by (simp only [go_sem, hx, f1, w1, d1, d5, hx3]; rfl)) ?_ ?_ <;> (intro hb; first | (cases hb; done) | (have ht : true = true := hb; clear ht hb) | (have ht : false = false := hb; clear ht hb) | (simp only [hb]) | skip))
          | (apply ev_call0; (case hys => (simp only [go_sem, hx, f1, w1, d1, d5, hx3]; try rfl)); (case hs => first | exact h65t .. | exact h65f .. | exact h61 .. | exact h60 .. | exact h16 ..); (case hok | hσ => (simp only [go_sem, hx, f1, w1, d1, d5, hx3]; try rfl)))
          | (apply regD; (case hd => (simp only [List.map_cons, List.map_nil]; rfl)); (case hok => rfl); (case' h => (intro K hK; (repeat' first
        | (apply evd_nil; refine (hK _ ?_); clear hK K)
        | (apply evd_call0; (case hi | hys => (simp only [go_sem, hx, f1, w1, d1, d5, hx3]; try rfl)); (case hs => first | exact h65t .. | exact h65f .. | exact h61 .. | exact h60 .. | exact h16 ..); (case hok | hw | hσ => (simp only [go_sem, hx, f1, w1, d1, d5, hx3]; try rfl)))
        | (apply evd_step0; (case hr | hi | hσ => (simp only [go_sem, hx, f1, w1, d1, d5, hx3]; try rfl)); (case hc => (first | trivial | decide | (simp only [inB, sliceOk, appendOk, rowsOk]; omega) | (simp [inB, sliceOk, appendOk, rowsOk]; omega))))
        | (apply evd_step; (case hr | hi => (simp only [go_sem, hx, f1, w1, d1, d5, hx3]; try rfl)); (case hc => (first | trivial | decide | (simp only [inB, sliceOk, appendOk, rowsOk]; omega) | (simp [inB, sliceOk, appendOk, rowsOk]; omega))); (case hw | hσ => (intro g u; simp only [go_sem, hx, f1, w1, d1, d5, hx3]; try rfl)); (case' hk => (intro g u; (try clear u); (try clear g))))
        | fail))); (case hB => kernel_rfl))
          | (apply ev_step0; (case hr | hσ => (simp only [go_sem, hx, f1, w1, d1, d5, hx3]; try rfl)); (case hc => (first | trivial | decide | (simp only [inB, sliceOk, appendOk, rowsOk]; omega) | (simp [inB, sliceOk, appendOk, rowsOk]; omega))))
          | (apply ev_step; (case hr => (simp only [go_sem, hx, f1, w1, d1, d5, hx3]; try rfl)); (case hσ => (intro g u; simp only [go_sem, hx, f1, w1, d1, d5, hx3]; try rfl)); (case hc => (first | trivial | decide | (simp only [inB, sliceOk, appendOk, rowsOk]; omega) | (simp [inB, sliceOk, appendOk, rowsOk]; omega))); intro g u; (try clear u); (try clear g))
          | fail
        all_goals (refine resR_one T_ok rfl _ (by (simp only [go_sem, resA]; rfl)) (by first | trivial | (simp only [go_sem, resA])) (by first | trivial | (simp only [go_sem])) ?_; simp only [go_sem])
        exact LeA.refl _
theorem f47_spec (s : ByteArray) (a : Nat) (hs : s.size ≤ 20000) (ha : a < s.size) : ∃ r, Spec Try.prog 47 [litS s, litI .i64 (a : Int)] r ∧ NextOk s a r := by
  cases h1 : letterB ((bs s).getD a 0) with
  | true => exact f47_letter s a hs ha h1
  | false =>
    cases h2 : digitB ((bs s).getD a 0) with
    | true => exact f47_digit s a hs ha h2
    | false =>
      by_cases h3 : (bs s).getD a 0 = 34
      · exact f47_quote s a hs ha h3
      · exact f47_sign s a hs ha h1 h2 h3
end
section
set_option linter.unusedVariables false
set_option linter.unusedSimpArgs false
open Go.RowKit
attribute [local irreducible] AWp evOps evD
set_option maxHeartbeats 4000000 in
theorem f20_big (s : ByteArray) (hs : 20000 < s.size) : Spec Try.prog 20 [litS s] (lxA [] 0 2) := by
  have d0 : decide ((s.size : Int) > 20000) = true := decide_eq_true (by omega)
  refine spec_of_awp (fn := Try.f20) Try.func20 (by kernel_rfl) rfl ?_
  intro w0 C0
  simp only [Try.ntmps20, litI, litB, litS, List.length_cons, List.length_nil, Nat.reduceAdd, Nat.reduceSub, List.replicate_succ, List.replicate_zero, List.cons_append, List.nil_append]
  repeat' first
    | refine awp_seq ?_
    | refine awp_block ?_
    | refine awp_skip ?_
    | (refine reg _ (by (simp only [List.map_cons, List.map_nil]; rfl)) rfl ?_; intro K hK)
    | (refine awp_cond _ (by rfl) ?_ ?_ <;> (intro hb; first | (cases hb; done) | (have ht : true = true := hb; clear ht hb) | (have ht : false = false := hb; clear ht hb) | (simp only [hb]) | skip))
    | (refine awp_exit ?_; simp only [thenA, blockA, scopeA, reduceIte, RetQ, Nat.reduceEqDiff])
    | (refine awp_ret ?_; simp only [thenA, blockA, scopeA, RetQ])
    | (refine ev_nil (hK _ ?_); clear hK K)
    | (apply ev_step0; (case hr | hσ => (simp only [go_sem, d0]; try rfl)); (case hc => (first | trivial | decide | (simp only [inB, sliceOk, appendOk, rowsOk]; omega) | (simp [inB, sliceOk, appendOk, rowsOk]; omega))))
    | (apply ev_step; (case hr => (simp only [go_sem, d0]; try rfl)); (case hσ => (intro g u; simp only [go_sem, d0]; try rfl)); (case hc => (first | trivial | decide | (simp only [inB, sliceOk, appendOk, rowsOk]; omega) | (simp [inB, sliceOk, appendOk, rowsOk]; omega))); intro g u; (try clear u); (try clear g))
    | fail
  all_goals (refine resR_one T_ok rfl _ (by (simp only [go_sem, resA]; rfl)) (by first | trivial | (simp only [go_sem, resA])) (by first | trivial | (simp only [go_sem])) ?_; simp only [go_sem])
  exact LeA.agg ⟨LeA.nil _, LeA.refl _, LeA.refl _, trivial⟩
set_option maxHeartbeats 16000000 in
theorem f20_spec (s : ByteArray) (hs : s.size ≤ 20000) : Spec Try.prog 20 [litS s] (lxA (lexL s) (lexP s) (lexE s)) := by
  have hl := bs_len s
  have d0 : decide ((s.size : Int) > 20000) = false := decide_eq_false (by omega)
  have h46 := f46_spec s 0 (by omega) (by omega)
  have hLL : lexB (bs s) = lexTk ((bs s).length + 1) (skipF false (bs s)) ((bs s).drop (skipF false (bs s))) := rfl
  have hk0 := skipF_le false (bs s)
  have hlL : lexL s = match (lexB (bs s)).2 with | none => (lexB (bs s)).1.map toTok | some _ => [] := rfl
  have hlP : lexP s = match (lexB (bs s)).2 with | none => 0 | some p => (p : Int) := rfl
  have hlE : lexE s = match (lexB (bs s)).2 with | none => 0 | some _ => 5 := rfl
  rw [List.drop_zero, Nat.zero_add] at h46
  generalize lexB (bs s) = L at *
  generalize lexL s = oL at *
  generalize lexP s = oP at *
  generalize lexE s = oE at *
  generalize skipF false (bs s) = k0 at *
  refine spec_of_awp (fn := Try.f20) Try.func20 (by kernel_rfl) rfl ?_
  intro w0 C0
  simp only [Try.ntmps20, litI, litB, litS, List.length_cons, List.length_nil, Nat.reduceAdd, Nat.reduceSub, List.replicate_succ, List.replicate_zero, List.cons_append, List.nil_append]
  repeat' first
    | refine awp_seq ?_
    | refine awp_block ?_
    | refine awp_skip ?_
    | (refine reg _ (by (simp only [List.map_cons, List.map_nil]; rfl)) rfl ?_; intro K hK)
    | (refine awp_cond _ (by rfl) ?_ ?_ <;> (intro hb; first | (cases hb; done) | (have ht : true = true := hb; clear ht hb) | (have ht : false = false := hb; clear ht hb) | (simp only [hb]) | skip))
    | (refine awp_exit ?_; simp only [thenA, blockA, scopeA, reduceIte, RetQ, Nat.reduceEqDiff])
    | (refine awp_ret ?_; simp only [thenA, blockA, scopeA, RetQ])
    | (refine ev_nil (hK _ ?_); clear hK K)
    | (apply ev_call0; (case hys => (simp only [go_sem, d0]; try rfl)); (case hs => first | exact h46 ..); (case hok | hσ => (simp only [go_sem, d0]; try rfl)))
    | (apply ev_step0; (case hr | hσ => (simp only [go_sem, d0]; try rfl)); (case hc => (first | trivial | decide | (simp only [inB, sliceOk, appendOk, rowsOk]; omega) | (simp [inB, sliceOk, appendOk, rowsOk]; omega))))
    | (apply ev_step; (case hr => (simp only [go_sem, d0]; try rfl)); (case hσ => (intro g u; simp only [go_sem, d0]; try rfl)); (case hc => (first | trivial | decide | (simp only [inB, sliceOk, appendOk, rowsOk]; omega) | (simp [inB, sliceOk, appendOk, rowsOk]; omega))); intro g u; (try clear u); (try clear g))
    | fail
  rename_i g2
  refine awp_loopI (fun j : Nat × List Tk × Value => j.1 ≤ s.size ∧ j.2.1.length ≤ j.1 ∧ L = (j.2.1 ++ (lexTk ((bs s).length + 1) j.1 ((bs s).drop j.1)).1, (lexTk ((bs s).length + 1) j.1 ((bs s).drop j.1)).2)) (fun j => s.size - j.1) (fun j => ⟨[litS s, .any, .ptr 2 g2 0, .ptr 3 g 0, litI .i64 j.1, .any, .any, .any, .any, .any, .any, .any, .any, .any, .any, .any, .any, .any, .any, .any, .any, .any, .any, .any, .any, .any, .any, .any, .any, .any, .any, .any, .any, .any, .any, .any, .any], [.no, .no, .box g2 [.d (.lit (.slice none 0 0)), litI .i64 0, litI .i64 0], .box g [.own 30 j.2.2, litI .i64 0, litI .i64 0], .no, .no, .no, .no, .no, .no, .no, .no, .no, .no, .no, .no, .no, .no, .no, .no, .no, .no, .no, .no, .no, .no, .no, .no, .no, .no, .row j.2.2 37 3 (j.2.1.map (fun t => tkD (toTok t))), .no, .no, .no, .no, .no, .no]⟩) (k0, [], .slice none 0 0) ⟨by show k0 ≤ _; omega, by simp, hLL⟩ ?_ ?_
  · refine Wk.mk ?_ ?_
    all_goals (repeat' first | exact trivial | exact LeA.refl _ | exact LeA.any _ | exact LeO.refl _ | exact LeO.no _ | exact LeA.nil _ | exact LeA.nilOwn _ | exact LeO.nil _ _ _ | refine LeO.box ?_ | (refine LeA.i ?_; (first | rfl | (push_cast; rfl) | (rw [wrap_id (by omega)]; push_cast; omega) | (simp [wrap_id]; omega))) | refine ⟨?_, ?_⟩)
  rintro ⟨i, acc, v⟩ ⟨hi, hal, hLi⟩
  simp only [litI, litB, litS] at hi hal hLi ⊢
  by_cases h1 : i < s.size
  rotate_left
  · have d1 : decide ((i : Int) < (s.size : Int)) = false := decide_eq_false (by omega)
    rw [List.drop_eq_nil_of_le (by omega)] at hLi
    have hLi' : L = (acc, none) := by rw [hLi]; simp [lexTk]
    subst hLi'
    subst hlL hlP hlE
    have hmm : acc.map (fun t => tkD (toTok t)) = (acc.map toTok).map tkD := by rw [List.map_map]; rfl
    rw [hmm]
    repeat' first
      | refine awp_seq ?_
      | refine awp_block ?_
      | refine awp_skip ?_
      | (refine reg _ (by (simp only [List.map_cons, List.map_nil]; rfl)) rfl ?_; intro K hK)
      | (refine awp_cond _ (by rfl) ?_ ?_ <;> (intro hb; first | (cases hb; done) | (have ht : true = true := hb; clear ht hb) | (have ht : false = false := hb; clear ht hb) | (simp only [hb]) | skip))
      | (refine awp_exit ?_; simp only [thenA, blockA, scopeA, reduceIte, RetQ, Nat.reduceEqDiff])
      | (refine awp_ret ?_; simp only [thenA, blockA, scopeA, RetQ])
      | (refine ev_nil (hK _ ?_); clear hK K)
      | (apply ev_step0; (case hr | hσ => (simp only [go_sem, d1]; try rfl)); (case hc => (first | trivial | decide | (simp only [inB, sliceOk, appendOk, rowsOk]; omega) | (simp [inB, sliceOk, appendOk, rowsOk]; omega))))
      | (apply ev_step; (case hr => (simp only [go_sem, d1]; try rfl)); (case hσ => (intro g u; simp only [go_sem, d1]; try rfl)); (case hc => (first | trivial | decide | (simp only [inB, sliceOk, appendOk, rowsOk]; omega) | (simp [inB, sliceOk, appendOk, rowsOk]; omega))); intro g u; (try clear u); (try clear g))
      | fail
    all_goals (refine resR_one T_ok rfl _ (by (simp only [go_sem, resA]; rfl)) (by first | trivial | (simp only [go_sem, resA])) (by first | trivial | (simp only [go_sem])) ?_; simp only [go_sem])
    exact LeA.refl _
  have d1 : decide ((i : Int) < (s.size : Int)) = true := decide_eq_true (by omega)
  obtain ⟨r, h47, k, c, a', e, rfl, hok⟩ := f47_spec s i hs h1
  have hat := lex_at (bs s) i (by omega)
  rw [hat] at hLi
  have hdr := drop_one (bs s) (i := i) (by omega)
  have hn1 : validB (kindB ((bs s).getD i 0)) (scanB ((bs s).drop i)).1 = true → 1 ≤ (scanB ((bs s).drop i)).2 ∧ (scanB ((bs s).drop i)).2 ≤ (bs s).length - i := fun hv => by
    have hts := tokB_scan (b := (bs s).getD i 0) (l := (bs s).drop (i + 1))
    rw [← hdr, if_pos hv] at hts
    have := tokB_len hts
    rw [List.length_drop] at this
    exact this
  generalize scanB ((bs s).drop i) = sc at *
  generalize kindB ((bs s).getD i 0) = kk at *
  simp only [litI, litB, litS] at h47
  cases hv : validB kk sc.1 with
  | false =>
    rw [hv] at h47 hLi
    simp only [Bool.false_eq_true, if_false, List.append_nil] at hLi
    subst hLi
    subst hlL hlP hlE
    repeat' first
      | refine awp_seq ?_
      | refine awp_block ?_
      | refine awp_skip ?_
      | (refine reg _ (by (simp only [List.map_cons, List.map_nil]; rfl)) rfl ?_; intro K hK)
      | (refine awp_cond _ (by rfl) ?_ ?_ <;> (intro hb; first | (cases hb; done) | (have ht : true = true := hb; clear ht hb) | (have ht : false = false := hb; clear ht hb) | (simp only [hb]) | skip))
      | (refine awp_exit ?_; simp only [thenA, blockA, scopeA, reduceIte, RetQ, Nat.reduceEqDiff])
      | (refine awp_ret ?_; simp only [thenA, blockA, scopeA, RetQ])
      | (refine ev_nil (hK _ ?_); clear hK K)
      | (apply ev_call0; (case hys => (simp only [go_sem, d1]; try rfl)); (case hs => first | exact h47 ..); (case hok | hσ => (simp only [go_sem, d1]; try rfl)))
      | (apply ev_step0; (case hr | hσ => (simp only [go_sem, d1]; try rfl)); (case hc => (first | trivial | decide | (simp only [inB, sliceOk, appendOk, rowsOk]; omega) | (simp [inB, sliceOk, appendOk, rowsOk]; omega))))
      | (apply ev_step; (case hr => (simp only [go_sem, d1]; try rfl)); (case hσ => (intro g u; simp only [go_sem, d1]; try rfl)); (case hc => (first | trivial | decide | (simp only [inB, sliceOk, appendOk, rowsOk]; omega) | (simp [inB, sliceOk, appendOk, rowsOk]; omega))); intro g u; (try clear u); (try clear g))
      | fail
    all_goals (refine resR_one T_ok rfl _ (by (simp only [go_sem, resA]; rfl)) (by first | trivial | (simp only [go_sem, resA])) (by first | trivial | (simp only [go_sem])) ?_; simp only [go_sem])
    exact LeA.agg ⟨LeA.nil _, LeA.refl _, LeA.refl _, trivial⟩
  | true =>
    rw [hv] at h47 hLi hok hn1
    obtain ⟨rfl, hc, rfl, rfl⟩ := hok rfl
    have hn := hn1 rfl
    simp only [if_true] at hLi
    have h46b := f46_spec s (i + sc.2) (by omega) (by omega)
    have hske := skipF_le false ((bs s).drop (i + sc.2))
    rw [List.length_drop] at hske
    have hcc : c = ⟨sc.1.toArray⟩ := ba_eq hc
    subst hcc
    repeat' first
      | refine awp_seq ?_
      | refine awp_block ?_
      | refine awp_skip ?_
      | (refine reg _ (by (simp only [List.map_cons, List.map_nil]; rfl)) rfl ?_; intro K hK)
      | (refine awp_cond _ (by rfl) ?_ ?_ <;> (intro hb; first | (cases hb; done) | (have ht : true = true := hb; clear ht hb) | (have ht : false = false := hb; clear ht hb) | (simp only [hb]) | skip))
      | (refine awp_exit ?_; simp only [thenA, blockA, scopeA, reduceIte, RetQ, Nat.reduceEqDiff])
      | (refine awp_ret ?_; simp only [thenA, blockA, scopeA, RetQ])
      | (refine ev_nil (hK _ ?_); clear hK K)
      | (apply ev_call0; (case hys => (simp only [go_sem, d1]; try rfl)); (case hs => first | exact h47 .. | exact h46b ..); (case hok | hσ => (simp only [go_sem, d1]; try rfl)))
      | (apply ev_step0; (case hr | hσ => (simp only [go_sem, d1]; try rfl)); (case hc => (first | trivial | decide | (simp only [inB, sliceOk, appendOk, rowsOk]; omega) | (simp [inB, sliceOk, appendOk, rowsOk]; omega))))
      | (apply ev_step; (case hr => (simp only [go_sem, d1]; try rfl)); (case hσ => (intro g u; simp only [go_sem, d1]; try rfl)); (case hc => (first | trivial | decide | (simp only [inB, sliceOk, appendOk, rowsOk]; omega) | (simp [inB, sliceOk, appendOk, rowsOk]; omega))); intro g u; (try clear u); (try clear g))
      | fail
    refine Exists.intro (i + sc.2 + skipF false ((bs s).drop (i + sc.2)), acc ++ [(_, sc.1, i)], u) ⟨⟨by simp only; omega, by simp; omega, by rw [hLi, List.append_assoc]; rfl⟩, by simp only; omega, ?_⟩
    simp only [List.map_append, List.map_cons, List.map_nil, toTok]
    refine Wk.mk ?_ ?_
    all_goals (repeat' first | exact trivial | exact LeA.refl _ | exact LeA.any _ | exact LeO.refl _ | exact LeO.no _ | exact LeA.nil _ | exact LeA.nilOwn _ | exact LeO.nil _ _ _ | refine LeO.box ?_ | (refine LeA.i ?_; (first | rfl | (push_cast; rfl) | (rw [wrap_id (by omega)]; push_cast; omega) | (simp [wrap_id]; omega))) | refine ⟨?_, ?_⟩)
/-- What both answer, for whatever source. -/
def lexV (s : ByteArray) : List Tok × Int × Int := if s.size ≤ 20000 then (lexL s, lexP s, lexE s) else ([], 0, 2)
theorem f12_all (s : ByteArray) : Spec Try.prog 12 [litS s] (lxA (lexV s).1 (lexV s).2.1 (lexV s).2.2) := by
  unfold lexV
  split
  · exact f12_spec s (by omega)
  · exact f12_big s (by omega)
theorem f20_all (s : ByteArray) : Spec Try.prog 20 [litS s] (lxA (lexV s).1 (lexV s).2.1 (lexV s).2.2) := by
  unfold lexV
  split
  · exact f20_spec s (by omega)
  · exact f20_big s (by omega)
theorem lexV_len (s : ByteArray) : (lexV s).1.length ≤ 20001 := by
  unfold lexV
  split
  · have := lexL_len s; simp only; omega
  · exact Nat.zero_le _
end
section
set_option linter.unusedVariables false
set_option linter.unusedSimpArgs false
open Go.RowKit
attribute [local irreducible] AWp evOps evD
/-- How many bytes and tokens are counted. -/
def smallN : Nat → List Nat → Nat
  | n, [] => n
  | n, m :: ms => if n ≤ 2000 then smallN (n + (1 + m)) ms else n
theorem smallN_le : ∀ (ms : List Nat) (n : Nat), smallN n ms ≤ 2000 → n ≤ 2000 ∧ ms.length ≤ 2000 ∧ n + ms.length ≤ 2000 ∧ ∀ m ∈ ms, m ≤ 2000
  | [], n, h => by
    simp only [smallN] at h
    exact ⟨h, Nat.zero_le _, by simpa using h, fun m hm => by cases hm⟩
  | m :: ms, n, h => by
    simp only [smallN] at h
    split at h
    · obtain ⟨h1, h2, h3, h4⟩ := smallN_le ms _ h
      refine ⟨by omega, by simp; omega, by simp; omega, fun x hx => ?_⟩
      rcases List.mem_cons.1 hx with rfl | hx
      · omega
      · exact h4 x hx
    · omega
set_option maxHeartbeats 4000000 in
theorem f11_spec (s : ByteArray) (l : List Tok) (hs : s.size ≤ 140737488355328) (hl : ∀ t ∈ l, t.s.size ≤ 140737488355328) : Spec Try.prog 11 [litS s, .d (tksD l)] (litB (decide (smallN s.size (l.map fun t => t.s.size) ≤ 2000))) := by
  obtain ⟨z, hz⟩ : ∃ z, smallN s.size (l.map fun t => t.s.size) = z := ⟨_, rfl⟩
  rw [hz]
  refine spec_of_awp (fn := Try.f11) Try.func11 (by kernel_rfl) rfl ?_
  intro w0 C0
  simp only [Try.ntmps11, litI, litB, litS, List.length_cons, List.length_nil, Nat.reduceAdd, Nat.reduceSub, List.replicate_succ, List.replicate_zero, List.cons_append, List.nil_append]
  refine awp_len 1 rfl fun hll => ?_
  simp only [List.length_map] at hll
  repeat' first
    | refine awp_seq ?_
    | refine awp_block ?_
    | refine awp_skip ?_
    | (refine reg _ (by (simp only [List.map_cons, List.map_nil]; rfl)) rfl ?_; intro K hK)
    | (refine awp_cond _ (by rfl) ?_ ?_ <;> (intro hb; first | (cases hb; done) | (have ht : true = true := hb; clear ht hb) | (have ht : false = false := hb; clear ht hb) | (simp only [hb]) | skip))
    | (refine awp_exit ?_; simp only [thenA, blockA, scopeA, reduceIte, RetQ, Nat.reduceEqDiff])
    | (refine awp_ret ?_; simp only [thenA, blockA, scopeA, RetQ])
    | (refine ev_nil (hK _ ?_); clear hK K)
    | (apply ev_guardU; (case hj | hu | hσ => (simp only [go_sem]; try rfl)))
    | (refine ev_guardT _ _ (by (simp only [go_sem]; rfl)) (by (simp only [go_sem]; rfl)) ?_ ?_ <;> (intro hb; first | (cases hb; done) | (have ht : true = true := hb; clear ht hb) | (have ht : false = false := hb; clear ht hb) | (simp only [hb]) | skip))
    | (refine ev_guardF _ _ (by (simp only [go_sem]; rfl)) (by (simp only [go_sem]; rfl)) ?_ ?_ <;> (intro hb; first | (cases hb; done) | (have ht : true = true := hb; clear ht hb) | (have ht : false = false := hb; clear ht hb) | (simp only [hb]) | skip))
    | (apply ev_step0; (case hr | hσ => (simp only [go_sem]; try rfl)); (case hc => (first | trivial | decide | (simp only [inB, sliceOk, appendOk, rowsOk]; omega) | (simp [inB, sliceOk, appendOk, rowsOk]; omega))))
    | (apply ev_step; (case hr => (simp only [go_sem]; try rfl)); (case hσ => (intro g u; simp only [go_sem]; try rfl)); (case hc => (first | trivial | decide | (simp only [inB, sliceOk, appendOk, rowsOk]; omega) | (simp [inB, sliceOk, appendOk, rowsOk]; omega))); intro g u; (try clear u); (try clear g))
    | fail
  refine awp_loopI (fun j : Nat × Nat => j.1 ≤ l.length ∧ j.2 ≤ 281474976710656 ∧ z = smallN j.2 ((l.drop j.1).map fun t => t.s.size)) (fun j => l.length - j.1) (fun j => ⟨[.any, .d (tksD l), .any, .any, .any, litI .i64 j.2, litI .i64 j.1, .any, .any, .any, .any, .any, .any, .any, .any, .any, .any, .any, .any, .any, .any, .any, .any, .any, .any, .any, .any, .any, .any, .any], [.no, .no, .no, .no, .no, .no, .no, .no, .no, .no, .no, .no, .no, .no, .no, .no, .no, .no, .no, .no, .no, .no, .no, .no, .no, .no, .no, .no, .no, .no]⟩) (0, s.size) ⟨by simp, by simp only; omega, hz.symm⟩ ?_ ?_
  · refine Wk.mk ?_ ?_
    all_goals (repeat' first | exact trivial | exact LeA.refl _ | exact LeA.any _ | exact LeO.refl _ | exact LeO.no _ | exact LeA.nil _ | exact LeA.nilOwn _ | exact LeO.nil _ _ _ | refine LeO.box ?_ | (refine LeA.i ?_; (first | rfl | (push_cast; rfl) | (rw [wrap_id (by omega)]; push_cast; omega) | (simp [wrap_id]; omega))) | refine ⟨?_, ?_⟩)
  rintro ⟨i, n⟩ ⟨hi, hn, hzi⟩
  simp only [litI, litB, litS] at hi hn hzi ⊢
  have hfin : decide ((n : Int) ≤ 2000) = decide (n ≤ 2000) := by rw [Bool.eq_iff_iff, decide_eq_true_eq, decide_eq_true_eq]; omega
  by_cases h1 : i < l.length
  rotate_left
  · have d1 : decide ((i : Int) < (l.length : Int)) = false := decide_eq_false (by omega)
    rw [List.drop_eq_nil_of_le (by omega)] at hzi
    simp only [List.map_nil, smallN] at hzi
    subst hzi
    repeat' first
      | refine awp_seq ?_
      | refine awp_block ?_
      | refine awp_skip ?_
      | (refine reg _ (by (simp only [List.map_cons, List.map_nil]; rfl)) rfl ?_; intro K hK)
      | (refine awp_cond _ (by rfl) ?_ ?_ <;> (intro hb; first | (cases hb; done) | (have ht : true = true := hb; clear ht hb) | (have ht : false = false := hb; clear ht hb) | (simp only [hb]) | skip))
      | (refine awp_exit ?_; simp only [thenA, blockA, scopeA, reduceIte, RetQ, Nat.reduceEqDiff])
      | (refine awp_ret ?_; simp only [thenA, blockA, scopeA, RetQ])
      | (refine ev_nil (hK _ ?_); clear hK K)
      | (apply ev_guardU; (case hj | hu | hσ => (simp only [go_sem, d1, hfin]; try rfl)))
      | (refine ev_guardT _ _ (by (simp only [go_sem, d1, hfin]; rfl)) (by (simp only [go_sem, d1, hfin]; rfl)) ?_ ?_ <;> (intro hb; first | (cases hb; done) | (have ht : true = true := hb; clear ht hb) | (have ht : false = false := hb; clear ht hb) | (simp only [hb]) | skip))
      | (refine ev_guardF _ _ (by (simp only [go_sem, d1, hfin]; rfl)) (by (simp only [go_sem, d1, hfin]; rfl)) ?_ ?_ <;> (intro hb; first | (cases hb; done) | (have ht : true = true := hb; clear ht hb) | (have ht : false = false := hb; clear ht hb) | (simp only [hb]) | skip))
      | (apply ev_step0; (case hr | hσ => (simp only [go_sem, d1, hfin]; try rfl)); (case hc => (first | trivial | decide | (simp only [inB, sliceOk, appendOk, rowsOk]; omega) | (simp [inB, sliceOk, appendOk, rowsOk]; omega))))
      | (apply ev_step; (case hr => (simp only [go_sem, d1, hfin]; try rfl)); (case hσ => (intro g u; simp only [go_sem, d1, hfin]; try rfl)); (case hc => (first | trivial | decide | (simp only [inB, sliceOk, appendOk, rowsOk]; omega) | (simp [inB, sliceOk, appendOk, rowsOk]; omega))); intro g u; (try clear u); (try clear g))
      | fail
    all_goals (refine resR_one T_ok rfl _ (by (simp only [go_sem, resA]; rfl)) (by first | trivial | (simp only [go_sem, resA])) (by first | trivial | (simp only [go_sem])) ?_; simp only [go_sem])
    exact LeA.refl _
  have d1 : decide ((i : Int) < (l.length : Int)) = true := decide_eq_true (by omega)
  have hx := tks_at l h1
  have hxs := hl (l.getD i tkN) (by
    rw [List.getD_eq_getElem?_getD, List.getElem?_eq_getElem h1]
    exact List.getElem_mem h1)
  rw [tk_drop l h1] at hzi
  simp only [List.map_cons, smallN] at hzi
  generalize l.getD i tkN = x at *
  by_cases h2 : n ≤ 2000
  · have d2 : decide ((n : Int) ≤ 2000) = true := decide_eq_true (by omega)
    rw [if_pos h2] at hzi
    have w1 : IntKind.i64.wrap (1 + (x.s.size : Int)) = ((1 + x.s.size : Nat) : Int) := by rw [wrap_id (by omega)]; push_cast; rfl
    have w2 : IntKind.i64.wrap ((n : Int) + ((1 + x.s.size : Nat) : Int)) = ((n + (1 + x.s.size) : Nat) : Int) := by rw [wrap_id (by omega)]; push_cast; rfl
    clear hfin
    repeat' first
      | refine awp_seq ?_
      | refine awp_block ?_
      | refine awp_skip ?_
      | (refine reg _ (by (simp only [List.map_cons, List.map_nil]; rfl)) rfl ?_; intro K hK)
      | (refine awp_cond _ (by rfl) ?_ ?_ <;> (intro hb; first | (cases hb; done) | (have ht : true = true := hb; clear ht hb) | (have ht : false = false := hb; clear ht hb) | (simp only [hb]) | skip))
      | (refine awp_exit ?_; simp only [thenA, blockA, scopeA, reduceIte, RetQ, Nat.reduceEqDiff])
      | (refine awp_ret ?_; simp only [thenA, blockA, scopeA, RetQ])
      | (refine ev_nil (hK _ ?_); clear hK K)
      | (apply ev_guardU; (case hj | hu | hσ => (simp only [go_sem, d1, d2, hx, w1, w2]; try rfl)))
      | (refine ev_guardT _ _ (by (simp only [go_sem, d1, d2, hx, w1, w2]; rfl)) (by (simp only [go_sem, d1, d2, hx, w1, w2]; rfl)) ?_ ?_ <;> (intro hb; first | (cases hb; done) | (have ht : true = true := hb; clear ht hb) | (have ht : false = false := hb; clear ht hb) | (simp only [hb]) | skip))
      | (refine ev_guardF _ _ (by (simp only [go_sem, d1, d2, hx, w1, w2]; rfl)) (by (simp only [go_sem, d1, d2, hx, w1, w2]; rfl)) ?_ ?_ <;> (intro hb; first | (cases hb; done) | (have ht : true = true := hb; clear ht hb) | (have ht : false = false := hb; clear ht hb) | (simp only [hb]) | skip))
      | (apply ev_step0; (case hr | hσ => (simp only [go_sem, d1, d2, hx, w1, w2]; try rfl)); (case hc => (first | trivial | decide | (simp only [inB, sliceOk, appendOk, rowsOk]; omega) | (simp [inB, sliceOk, appendOk, rowsOk]; omega))))
      | (apply ev_step; (case hr => (simp only [go_sem, d1, d2, hx, w1, w2]; try rfl)); (case hσ => (intro g u; simp only [go_sem, d1, d2, hx, w1, w2]; try rfl)); (case hc => (first | trivial | decide | (simp only [inB, sliceOk, appendOk, rowsOk]; omega) | (simp [inB, sliceOk, appendOk, rowsOk]; omega))); intro g u; (try clear u); (try clear g))
      | fail
    refine Exists.intro (i + 1, n + (1 + x.s.size)) ⟨⟨by simp only; omega, by simp only; omega, hzi⟩, by simp only; omega, ?_⟩
    refine Wk.mk ?_ ?_
    all_goals (repeat' first | exact trivial | exact LeA.refl _ | exact LeA.any _ | exact LeO.refl _ | exact LeO.no _ | exact LeA.nil _ | exact LeA.nilOwn _ | exact LeO.nil _ _ _ | refine LeO.box ?_ | (refine LeA.i ?_; (first | rfl | (push_cast; rfl) | (rw [wrap_id (by omega)]; push_cast; omega) | (simp [wrap_id]; omega))) | refine ⟨?_, ?_⟩)
  · have d2 : decide ((n : Int) ≤ 2000) = false := decide_eq_false (by omega)
    rw [if_neg h2] at hzi
    subst hzi
    rw [decide_eq_false h2]
    clear hfin
    repeat' first
      | refine awp_seq ?_
      | refine awp_block ?_
      | refine awp_skip ?_
      | (refine reg _ (by (simp only [List.map_cons, List.map_nil]; rfl)) rfl ?_; intro K hK)
      | (refine awp_cond _ (by rfl) ?_ ?_ <;> (intro hb; first | (cases hb; done) | (have ht : true = true := hb; clear ht hb) | (have ht : false = false := hb; clear ht hb) | (simp only [hb]) | skip))
      | (refine awp_exit ?_; simp only [thenA, blockA, scopeA, reduceIte, RetQ, Nat.reduceEqDiff])
      | (refine awp_ret ?_; simp only [thenA, blockA, scopeA, RetQ])
      | (refine ev_nil (hK _ ?_); clear hK K)
      | (apply ev_guardU; (case hj | hu | hσ => (simp only [go_sem, d1, d2]; try rfl)))
      | (refine ev_guardT _ _ (by (simp only [go_sem, d1, d2]; rfl)) (by (simp only [go_sem, d1, d2]; rfl)) ?_ ?_ <;> (intro hb; first | (cases hb; done) | (have ht : true = true := hb; clear ht hb) | (have ht : false = false := hb; clear ht hb) | (simp only [hb]) | skip))
      | (refine ev_guardF _ _ (by (simp only [go_sem, d1, d2]; rfl)) (by (simp only [go_sem, d1, d2]; rfl)) ?_ ?_ <;> (intro hb; first | (cases hb; done) | (have ht : true = true := hb; clear ht hb) | (have ht : false = false := hb; clear ht hb) | (simp only [hb]) | skip))
      | (apply ev_step0; (case hr | hσ => (simp only [go_sem, d1, d2]; try rfl)); (case hc => (first | trivial | decide | (simp only [inB, sliceOk, appendOk, rowsOk]; omega) | (simp [inB, sliceOk, appendOk, rowsOk]; omega))))
      | (apply ev_step; (case hr => (simp only [go_sem, d1, d2]; try rfl)); (case hσ => (intro g u; simp only [go_sem, d1, d2]; try rfl)); (case hc => (first | trivial | decide | (simp only [inB, sliceOk, appendOk, rowsOk]; omega) | (simp [inB, sliceOk, appendOk, rowsOk]; omega))); intro g u; (try clear u); (try clear g))
      | fail
    all_goals (refine resR_one T_ok rfl _ (by (simp only [go_sem, resA]; rfl)) (by first | trivial | (simp only [go_sem, resA])) (by first | trivial | (simp only [go_sem])) ?_; simp only [go_sem])
    exact LeA.refl _
/-- Bytes that are set, one after the other. -/
def fillR (j : Nat) : List (List Dat) := List.replicate j (byD 32) ++ List.replicate (20000 - j) (byD 0)
def fullB : Bs := List.replicate 20000 32
theorem fill_len {j : Nat} (h : j ≤ 20000) : (fillR j).length = 20000 := by
  unfold fillR
  rw [List.length_append, List.length_replicate, List.length_replicate]; omega
theorem fill_get {j : Nat} (h : j < 20000) : (fillR j).getD j [] = byD 0 := by
  unfold fillR
  rw [List.getD_eq_getElem?_getD, List.getElem?_append_right (by rw [List.length_replicate]; exact Nat.le_refl _), List.length_replicate, Nat.sub_self, List.getElem?_replicate, if_pos (by omega)]
  rfl
theorem fill_set {j : Nat} (h : j < 20000) : (fillR j).set j (byD 32) = fillR (j + 1) := by
  unfold fillR
  obtain ⟨m, hm⟩ : ∃ m, 20000 - j = m + 1 := ⟨20000 - j - 1, by omega⟩
  rw [hm, show 20000 - (j + 1) = m from by omega, List.set_append_right _ _ (by rw [List.length_replicate]; exact Nat.le_refl _), List.length_replicate, Nat.sub_self, List.replicate_succ (n := m), List.set_cons_zero, List.replicate_succ' (n := j), List.append_assoc]
  rfl
theorem fill_end : fillR 20000 = fullB.map byD := by
  unfold fillR fullB
  rw [Nat.sub_self, List.replicate_zero, List.append_nil, List.map_replicate]
theorem fill_zero : List.replicate (Int.toNat 20000) (byD 0) = fillR 0 := by
  unfold fillR
  rw [List.replicate_zero, List.nil_append]; rfl
theorem skip_blank : ∀ n : Nat, skipF false (List.replicate n 32) = n
  | 0 => rfl
  | n + 1 => by
    rw [List.replicate_succ]
    simp only [skipF, show wsB 32 = true from rfl, if_true, skip_blank n]; omega
theorem full_lex : lexB fullB = ([], none) := by
  unfold lexB fullB
  rw [skip_blank, List.drop_eq_nil_of_le (by rw [List.length_replicate]; exact Nat.le_refl _)]
  simp [lexTk]
theorem full_V : lexV ⟨fullB.toArray⟩ = ([], 0, 0) := by
  have hz : (⟨fullB.toArray⟩ : ByteArray).size = 20000 := by rw [← bs_len, bs_mk]; exact List.length_replicate
  obtain ⟨e1, e2, e3⟩ := lex_ok (s := ⟨fullB.toArray⟩) (by rw [bs_mk, full_lex])
  unfold lexV
  rw [if_pos (by omega), e1, e2, e3, bs_mk, full_lex]
  rfl
theorem full_size : (⟨fullB.toArray⟩ : ByteArray).size = 20000 := by rw [← bs_len, bs_mk]; exact List.length_replicate
theorem full_V2 : lexV (⟨fullB.toArray⟩ ++ ⟨#[32]⟩) = ([], 0, 2) := by
  unfold lexV
  rw [if_neg (by rw [app_size, full_size]; show ¬ (20000 + 1 ≤ 20000); omega)]
end
end Go.Proofs.Ytnppegglggcceaa.A
