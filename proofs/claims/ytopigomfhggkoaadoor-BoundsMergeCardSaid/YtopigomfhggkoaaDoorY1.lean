/- Sums: the walks. Bounds of values: the walk of Of. Bounds: valid, contained, merged: the walks. (Written by mk8.py.) -/
import Derived.Test.YtopigomfhggkoaaDoorY0
namespace Go.Proofs.YtopigomfhggkoaaDoor.A
attribute [local go_sem] Int.reduceBEq Nat.reduceAdd Nat.reduceSub Nat.reduceMul Nat.reduceLT Nat.reduceLeDiff Nat.reduceEqDiff Nat.reduceBEq reduceIte reduceCtorEq e_step_none e_slotU e_slotB e_move e_assign e_pick e_unOp e_binOp e_alloc e_box e_build e_buildSlice e_load e_store e_fieldAddr e_field e_indexAddr e_index e_slice e_sliceM e_makeSlice e_makeFunc e_convert e_extract e_nilCheck e_lookup e_look e_lookS1 e_lookS0 e_find0 e_find1 e_findT e_findF e_sameI e_sameTT e_sameTF e_sameFT e_sameFF e_commaT e_commaF e_valAgg e_valFn e_valI e_len e_append e_max e_min e_call e_callV e_fn e_cap_ptr e_cap_lit e_cap_sl e_cap_fn e_fnOf_lit e_fnOf_clo e_fnOf_fn e_flat_mp e_cap_mp e_ev_global e_flat_fn e_clo e_ev_tmp e_ev_int e_ev_bool e_ev_string e_ev_slice e_ev_nilFunc e_ev_nilIface e_ev_pointer e_ev_agg e_ev_func e_pickT e_pickF e_not e_neg e_add e_sub e_mul e_quo e_rem e_eql e_neq e_lss e_leq e_gtr e_geq e_shl e_shr e_and e_or e_xor e_andNot e_beq e_bne e_sadd e_seql e_sneq e_b2_d e_b2_nil e_b2_nnil e_b2_agg e_lits_nil e_lits_cons e_litC e_eqR e_eqArr e_eqOnes_nil e_eqOnes_cons e_eqO_e e_eqO_n e_eqV4 e_eqV3 e_eqV2 e_eqV1 e_eqFs_nil e_eqFs_cons e_and2 e_eq1 e_eqL_i e_eqL_s e_eqL_b e_allocR e_boxR e_box_agg e_box_d e_box_own e_box_clo e_one_nil e_one_d e_one_own e_one_clo e_one_ptr e_cells_agg e_cells_d e_cells_own e_cells_clo e_cells_ptr e_ob_own e_ob_ptr e_ob_elo e_ob_d e_ob_el e_ob_agg e_load_box e_load_fzb e_load_el e_load_elo e_storeX_ptr e_storeX_d e_storeX_own e_storeX_agg e_storeX_el e_storeC' e_notIn_nil e_notIn_cons e_store_box e_storeB e_store_elo e_store_elo_agg e_storeE e_fa_ptr e_fa_el e_fa_elo e_faR e_fd e_fdR e_ia_d e_ia_row e_ia_fz e_ia_ptr e_ia_el e_ix_s e_ix_a e_len_s e_len_nil e_len_d e_len_row e_len_fz e_conv_i e_conv_s e_conv_own e_conv_sl e_extr e_maxR e_minR e_nil_ptr e_nil_el e_nil_elo e_rows_nil e_rows_d e_rows_row e_rows_fz e_rok_nil e_rok_d e_rok_row e_rok_fz e_app_row e_appR e_app_nil e_appN e_make e_bnd_none e_bnd_some e_optmap_none e_optmap_some e_slR e_slRe e_sl_s e_sl_d e_slM_d e_sl_nil e_sl_row e_sl_fz e_fill_nil e_fill_cons e_fill1 e_placeS e_plS e_placeE e_buildO e_build1 e_build2 e_build3 e_bindD e_bs e_bsR e_allD_nil e_allD_cons e_allD_el e_allD_clo e_allD2 e_allD1 e_chunk0 e_chunkS e_clP_nil e_clP_cons e_cl_d e_cl_any e_cl_el e_cl_agg e_cl_tup e_cl_clo e_cl_own e_clOwn_row e_clOwn_fz e_cl_ptr e_clPtr_box e_clBox e_clPtr_fzb e_clL_nil e_clL_cons e_ok_d e_ok_any e_ok_el e_ok_agg e_ok_tup e_ok_clo e_ok_own e_okOwn_row e_okOwn_fz e_ok_ptr e_okPtr_box e_okPtr_fzb e_okL_nil e_okL_cons e_ids_d e_ids_any e_ids_el e_ids_own e_ids_ptr e_ids_agg e_ids_tup e_ids_clo e_idsL_nil e_idsL_cons e_frz_nil e_frz_cons e_frz_row e_frz_fz e_frz_fzb e_frz_box e_frzB e_flat_lit e_flat_sl e_flat_agg e_flat_tup e_flat_any e_flat_clo e_flatL_nil e_flatL_cons e_new_lit e_new_agg e_new_tup e_new_own e_newOwn_row e_newL_nil e_newL_cons e_objD e_setMany e_takeA e_zerosA e_gdL e_idsG e_idsOp e_callV' e_callN' e_callF' e_o_move e_o_assign e_o_pick
attribute [local go_sem] e_o_unOp e_o_binOp e_o_alloc e_o_box e_o_build e_o_buildSlice e_o_load e_o_store e_o_fieldAddr e_o_field e_o_indexAddr e_o_index e_o_slice0 e_o_slice1 e_o_slice2 e_o_slice3 e_o_sliceM e_o_makeSlice e_o_makeFunc e_o_convert e_o_extract e_o_nilCheck e_o_lookup e_o_bcall e_o_vcall litI litB litS List.map_cons List.map_nil List.getD_cons_zero List.getD_cons_succ List.getD_nil List.getElem?_cons_zero List.getElem?_cons_succ List.getElem?_nil Option.getD_some Option.getD_none Option.map_some Option.map_none List.length_cons List.length_nil List.all_cons List.all_nil Bool.and_true Bool.true_and and_true true_and and_self List.take_zero List.take_succ_cons List.drop_zero List.drop_succ_cons List.nil_append List.cons_append List.append_nil List.replicate_succ List.replicate_zero List.flatten_cons List.flatten_nil Nat.zero_add Nat.add_zero Nat.mul_one Nat.zero_mul Nat.one_mul Nat.mul_zero List.set_cons_zero List.set_cons_succ List.foldl_cons List.foldl_nil appendOk rowsOk inB sliceOk cutRows mtake mdrop List.length_append List.length_take List.length_drop if_true if_false or_false or_true true_or Bool.not_true Bool.not_false Bool.false_eq_true List.length_map Int.toNat_natCast Int.toNat_zero Int.toNat_one eq_self St.after St.put applyEff R0 globA globF globs T1 T2 T3 T4 T5 T6 T7 T9 T10 T15 T22 T23 T24 T26 T28 T29 T31 T33 T35 T37 T39 T40 T42 T44 T49 T51 T58 T67 T69 T71 T76 T80 T84 T87 T90 T95 T100 T103 T108 T109 T111 T112 T113 T124 T128 T129 ti1 ti2 ti3 ti4 ti5 ti6 ti7 ti9 ti10 ti15 ti22 ti23 ti24 ti26 ti28 ti29 ti31 ti33 ti35 ti37 ti39 ti40 ti42 ti44 ti49 ti51 ti58 ti67 ti69 ti71 ti76 ti80 ti84 ti87 ti90 ti95 ti100 ti103 ti108 ti109 ti111 ti112 ti113 ti124 ti128 ti129
section
set_option linter.unusedVariables false
set_option linter.unusedSimpArgs false
open Go.RowKit
attribute [local irreducible] Spec SpecF SpecN
attribute [local irreducible] AWp evOps evD
theorem wrap_u64 (n : Int) : IntKind.u64.wrap n = n % 18446744073709551616 := by
  simp [IntKind.wrap, IntKind.bits, IntKind.signed]
theorem find82 : Extern.find Tryd.f82 = (Go.Extern.MathBitsCarry.rows.head?).map (·.2) := by kernel_rfl
theorem next82 : Extern.findNext Tryd.f82 = none := by kernel_rfl
theorem f82_spec (x y c : Int) (hx : 0 ≤ x) (hy : 0 ≤ y) (hc : c = 0 ∨ c = 1) : SpecE Tryd.prog 82 [litI .u64 x, litI .u64 y, litI .u64 c] (.tup [litI .u64 ((x + y + c) % 18446744073709551616), litI .u64 ((x + y + c) / 18446744073709551616)]) := by
  intro m vs hv
  obtain ⟨a, b, d, rfl⟩ : ∃ a b d, vs = [a, b, d] := by
    have := hv.length
    match vs, this with
    | [a, b, d], _ => exact ⟨a, b, d, rfl⟩
  simp only [HasL, litI] at hv
  obtain ⟨h1, h2, h3, -⟩ := hv
  have h1 := has_lit h1
  have h2 := has_lit h2
  have h3 := has_lit h3
  subst h1; subst h2; subst h3
  refine ⟨.tuple #[.int .u64 ((x + y + c) % 18446744073709551616), .int .u64 ((x + y + c) / 18446744073709551616)], fun w => ?_, fun m' => ?_⟩
  · rw [run_callFunc_extern Tryd.func82 (by kernel_rfl) (by kernel_rfl) next82 find82]
    have hc' : ¬ c.toNat > 1 := by omega
    have e1 : ((x.toNat + y.toNat + c.toNat : Nat) : Int) = x + y + c := by omega
    have e2 : (((x.toNat + y.toNat + c.toNat) % 18446744073709551616 : Nat) : Int) = (x + y + c) % 18446744073709551616 := by omega
    have e3 : (((x.toNat + y.toNat + c.toNat) / 18446744073709551616 : Nat) : Int) = (x + y + c) / 18446744073709551616 := by omega
    have em : Extern.MathBitsCarry.m64 = 18446744073709551616 := by decide
    have e4 : (Extern.MathBitsCarry.three "Add64" #[.int .u64 x, .int .u64 y, .int .u64 c]).run Tryd.prog w = .ok (x.toNat, y.toNat, c.toNat) w := by
      rcases hc with rfl | rfl <;> rfl
    simp only [Sem.run_bind, e4, Sem.run_pure, Result.andThen_ok, Extern.MathBitsCarry.pair, em, Int.ofNat_eq_natCast, e2, e3]
  · simp only [Has, HasL, litI]
    exact ⟨[_, _], rfl, has_lit_mk _ rfl, has_lit_mk _ rfl, trivial⟩
/-- Whether a number is one that sums may hold. -/
def small (n : Int) : Bool := decide (-4000000000000000000 ≤ n) && decide (n ≤ 4000000000000000000)
theorem small_iff {n : Int} : small n = true ↔ -4000000000000000000 ≤ n ∧ n ≤ 4000000000000000000 := by
  simp [small]
theorem small_not {n : Int} : small n = false ↔ ¬ (-4000000000000000000 ≤ n ∧ n ≤ 4000000000000000000) := by
  rw [← small_iff]; simp
def sumL (l : List Int) : Int := l.foldr (· + ·) 0
def sumD (l : List Int) : Int × Int := if (l.all small && small (sumL l)) = true then (sumL l, 0) else (0, 2)
theorem sumL_take (l : List Int) {i : Nat} (h : i < l.length) : sumL (l.take (i + 1)) = sumL (l.take i) + l.getD i 0 := by
  induction l generalizing i with
  | nil => simp at h
  | cons a l ih =>
    cases i with
    | zero => simp [sumL]
    | succ i =>
      have := ih (i := i) (by simpa using h)
      simp only [List.take_succ_cons, sumL, List.foldr_cons, List.getD_cons_succ] at this ⊢
      omega
theorem sumL_bd : ∀ {l : List Int}, l.all small = true → -(4000000000000000000 * l.length) ≤ sumL l ∧ sumL l ≤ 4000000000000000000 * l.length
  | [], _ => by simp [sumL]
  | a :: l, h => by
    simp only [List.all_cons, Bool.and_eq_true] at h
    have h1 := small_iff.1 h.1
    have h2 := sumL_bd h.2
    simp only [sumL, List.foldr_cons, List.length_cons] at h2 ⊢
    push_cast
    omega
theorem take_all (l : List Int) {i : Nat} (h : i < l.length) : (l.take (i + 1)).all small = ((l.take i).all small && small (l.getD i 0)) := by
  induction l generalizing i with
  | nil => simp at h
  | cons a l ih =>
    cases i with
    | zero => simp
    | succ i =>
      have := ih (i := i) (by simpa using h)
      simp only [List.take_succ_cons, List.all_cons, List.getD_cons_succ] at this ⊢
      rw [this, Bool.and_assoc]
theorem all_at {l : List Int} (h : l.all small = true) {i : Nat} (hi : i < l.length) : small (l.getD i 0) = true := by
  rw [List.getD_eq_getElem?_getD, List.getElem?_eq_getElem hi]
  exact List.all_eq_true.1 h _ (List.getElem_mem hi)
theorem not_all {l : List Int} {i : Nat} (hi : i < l.length) (h : small (l.getD i 0) = false) : l.all small = false := by
  rcases hb : l.all small with _ | _
  · rfl
  · rw [all_at hb hi] at h; cases h
set_option maxHeartbeats 8000000 in
theorem f75_spec (l : List Int) (hb : ∀ x ∈ l, -9223372036854775808 ≤ x ∧ x ≤ 9223372036854775807) (hl : l.length ≤ 4611686018427387904) : Spec Tryd.prog 75 [.d (ints l)] (.tup [litI .i64 (sumD l).1, litI .i64 (sumD l).2]) := by
  refine spec_of_awp (fn := Tryd.f75) Tryd.func75 (by kernel_rfl) rfl ?_
  intro w0 C0
  simp only [Tryd.ntmps75, litI, litB, litS, List.length_cons, List.length_nil, Nat.reduceAdd, Nat.reduceSub, List.replicate_succ, List.replicate_zero, List.cons_append, List.nil_append]
  repeat' first
    | refine awp_seq ?_
    | refine awp_block ?_
    | refine awp_skip ?_
    | (refine reg _ (by (simp only [List.map_cons, List.map_nil]; rfl)) rfl ?_; intro K hK)
    | (refine awp_cond _ (by rfl) ?_ ?_ <;> (intro hb; first | (cases hb; done) | (have ht : true = true := hb; clear ht hb) | (have ht : false = false := hb; clear ht hb) | (simp only [hb]) | skip))
    | (refine awp_exit ?_; simp only [thenA, blockA, scopeA, reduceIte, RetQ, Nat.reduceEqDiff])
    | (refine awp_ret ?_; simp only [thenA, blockA, scopeA, RetQ])
    | (refine ev_nil (hK _ ?_); clear hK K)
    | (apply ev_guardU; (case hj | hu | hσ => (simp only [go_sem]; try rfl)))
    | (refine ev_guardT _ _ (by (simp only [go_sem]; rfl)) (by (simp only [go_sem]; rfl)) ?_ ?_ <;> (intro hb; first | (cases hb; done) | (have ht : true = true := hb; clear ht hb) | (have ht : false = false := hb; clear ht hb) | (simp only [hb]) | skip))
    | (refine ev_guardF _ _ (by (simp only [go_sem]; rfl)) (by (simp only [go_sem]; rfl)) ?_ ?_ <;> (intro hb; first | (cases hb; done) | (have ht : true = true := hb; clear ht hb) | (have ht : false = false := hb; clear ht hb) | (simp only [hb]) | skip))
    | (apply ev_step0; (case hr | hσ => (simp only [go_sem]; try rfl)); (case hc => (first | trivial | exact look_ok (by kernel_rfl) (by kernel_rfl) | decide | (simp only [inB, sliceOk, appendOk, rowsOk]; omega) | (simp [inB, sliceOk, appendOk, rowsOk]; omega))))
    | (apply ev_step; (case hr => (simp only [go_sem]; try rfl)); (case hσ => (intro g u; simp only [go_sem]; try rfl)); (case hc => (first | trivial | exact look_ok (by kernel_rfl) (by kernel_rfl) | decide | (simp only [inB, sliceOk, appendOk, rowsOk]; omega) | (simp [inB, sliceOk, appendOk, rowsOk]; omega))); intro g u; (try clear u); (try clear g))
    | fail
  refine awp_loopI (fun i : Nat => i ≤ l.length ∧ (l.take i).all small = true) (fun i => l.length - i) (fun i => ⟨[.d (ints l), .any, litI .i64 0, litI .i64 0, litI .u64 ((sumL (l.take i) / 18446744073709551616) % 18446744073709551616), litI .u64 (sumL (l.take i) % 18446744073709551616), .any, .any, .any, .any, .any, .d (ints l), litI .i64 l.length, litI .i64 i, .any, .any, .any, .any, .any, .any, .any, .any, .any, .any, .any, .any, .any, .any, .any, .any, .any, .any, .any, .any, .any, .any, .any, .any, .any, .any, .any, .any, .any, .any, .any, .any, .any, .any, .any, .any, .any, .any, .any, .any, .any, .any, .any, .any, .any, .any, .any, .any, .any, .any, .any], [.no, .no, .no, .no, .no, .no, .no, .no, .no, .no, .no, .no, .no, .no, .no, .no, .no, .no, .no, .no, .no, .no, .no, .no, .no, .no, .no, .no, .no, .no, .no, .no, .no, .no, .no, .no, .no, .no, .no, .no, .no, .no, .no, .no, .no, .no, .no, .no, .no, .no, .no, .no, .no, .no, .no, .no, .no, .no, .no, .no, .no, .no, .no, .no, .no]⟩) 0 ⟨by omega, rfl⟩ ?_ ?_
  · refine Wk.mk ?_ ?_
    all_goals (repeat' first | exact trivial | exact LeA.refl _ | exact LeA.any _ | exact LeO.refl _ | exact LeO.no _ | exact LeA.nil _ | exact LeA.nilOwn _ | exact LeO.nil _ _ _ | refine LeO.box ?_ | (refine LeA.i ?_; (first | rfl | (push_cast; rfl) | (rw [wrap_id (by omega)]; push_cast; omega) | (simp [wrap_id]; omega))) | refine ⟨?_, ?_⟩)
  rintro i ⟨hi, hal⟩
  simp only [litI, litB]
  by_cases hlt : i < l.length
  rotate_left
  have hdec : decide ((i : Int) < (l.length : Int)) = false := by simp; omega
  · have hil : i = l.length := by omega
    subst hil
    rw [List.take_length] at hal ⊢
    have hbd := sumL_bd hal
    unfold sumD
    rw [hal, Bool.true_and]
    have hn : IntKind.i64.wrap (sumL l % 18446744073709551616) = (sumL l % 18446744073709551616 + 9223372036854775808) % 18446744073709551616 - 9223372036854775808 := by rw [IntKind.wrap_i64]
    obtain ⟨a, ha⟩ : ∃ a, sumL l = a := ⟨_, rfl⟩
    obtain ⟨n, hn'⟩ : ∃ n, IntKind.i64.wrap (sumL l % 18446744073709551616) = n := ⟨_, rfl⟩
    obtain ⟨hw, hhi⟩ : ∃ x, (sumL l / 18446744073709551616) % 18446744073709551616 = x := ⟨_, rfl⟩
    obtain ⟨lo, hlo⟩ : ∃ x, sumL l % 18446744073709551616 = x := ⟨_, rfl⟩
    rw [hn'] at hn
    rw [hhi, hlo]
    rw [hlo] at hn'
    rw [ha] at hn hhi hbd hlo ⊢
    generalize l.length = len at *
    cases hsm : small a with
    | true =>
      rw [small_iff] at hsm
      have hna : n = a := by omega
      rw [if_pos rfl]
      have d3 : decide (n < -4000000000000000000) = false := decide_eq_false (by omega)
      have d4 : decide (n > 4000000000000000000) = false := decide_eq_false (by omega)
      by_cases h0 : n < 0
      · have d1 : decide (n < 0) = true := decide_eq_true h0
        have d2 : decide (n ≥ 0) = false := decide_eq_false (by omega)
        have c1 : (hw != 18446744073709551615) = false := by simp; omega
        repeat' first
          | refine awp_seq ?_
          | refine awp_block ?_
          | refine awp_skip ?_
          | (refine reg _ (by (simp only [List.map_cons, List.map_nil]; rfl)) rfl ?_; intro K hK)
          | (refine awp_cond _ (by rfl) ?_ ?_ <;> (intro hb; first | (cases hb; done) | (have ht : true = true := hb; clear ht hb) | (have ht : false = false := hb; clear ht hb) | (simp only [hb]) | skip))
          | (refine awp_exit ?_; simp only [thenA, blockA, scopeA, reduceIte, RetQ, Nat.reduceEqDiff])
          | (refine awp_ret ?_; simp only [thenA, blockA, scopeA, RetQ])
          | (refine ev_nil (hK _ ?_); clear hK K)
          | (apply ev_guardU; (case hj | hu | hσ => (simp only [go_sem, hdec, hn', d1, d2, d3, d4, c1]; try rfl)))
          | (refine ev_guardT _ _ (by (simp only [go_sem, hdec, hn', d1, d2, d3, d4, c1]; rfl)) (by (simp only [go_sem, hdec, hn', d1, d2, d3, d4, c1]; rfl)) ?_ ?_ <;> (intro hb; first | (cases hb; done) | (have ht : true = true := hb; clear ht hb) | (have ht : false = false := hb; clear ht hb) | (simp only [hb]) | skip))
          | (refine ev_guardF _ _ (by (simp only [go_sem, hdec, hn', d1, d2, d3, d4, c1]; rfl)) (by (simp only [go_sem, hdec, hn', d1, d2, d3, d4, c1]; rfl)) ?_ ?_ <;> (intro hb; first | (cases hb; done) | (have ht : true = true := hb; clear ht hb) | (have ht : false = false := hb; clear ht hb) | (simp only [hb]) | skip))
          | (apply ev_step0; (case hr | hσ => (simp only [go_sem, hdec, hn', d1, d2, d3, d4, c1]; try rfl)); (case hc => (first | trivial | exact look_ok (by kernel_rfl) (by kernel_rfl) | decide | (simp only [inB, sliceOk, appendOk, rowsOk]; omega) | (simp [inB, sliceOk, appendOk, rowsOk]; omega))))
          | (apply ev_step; (case hr => (simp only [go_sem, hdec, hn', d1, d2, d3, d4, c1]; try rfl)); (case hσ => (intro g u; simp only [go_sem, hdec, hn', d1, d2, d3, d4, c1]; try rfl)); (case hc => (first | trivial | exact look_ok (by kernel_rfl) (by kernel_rfl) | decide | (simp only [inB, sliceOk, appendOk, rowsOk]; omega) | (simp [inB, sliceOk, appendOk, rowsOk]; omega))); intro g u; (try clear u); (try clear g))
          | fail
        all_goals (refine resR_more T_ok rfl (by decide) _ (by (simp only [go_sem, resA]; rfl)) (by (intro rv hrv; simp only [List.mem_cons, List.not_mem_nil, or_false] at hrv; rcases hrv with rfl | rfl <;> first | trivial | simp only [go_sem, resA])) (by first | trivial | (simp only [go_sem])) ?_; simp only [go_sem])
        refine ⟨LeA.i hna, LeA.refl _, trivial⟩
      · have d1 : decide (n < 0) = false := decide_eq_false h0
        have d2 : decide (n ≥ 0) = true := decide_eq_true (by omega)
        have c1 : (hw != 0) = false := by simp; omega
        repeat' first
          | refine awp_seq ?_
          | refine awp_block ?_
          | refine awp_skip ?_
          | (refine reg _ (by (simp only [List.map_cons, List.map_nil]; rfl)) rfl ?_; intro K hK)
          | (refine awp_cond _ (by rfl) ?_ ?_ <;> (intro hb; first | (cases hb; done) | (have ht : true = true := hb; clear ht hb) | (have ht : false = false := hb; clear ht hb) | (simp only [hb]) | skip))
          | (refine awp_exit ?_; simp only [thenA, blockA, scopeA, reduceIte, RetQ, Nat.reduceEqDiff])
          | (refine awp_ret ?_; simp only [thenA, blockA, scopeA, RetQ])
          | (refine ev_nil (hK _ ?_); clear hK K)
          | (apply ev_guardU; (case hj | hu | hσ => (simp only [go_sem, hdec, hn', d1, d2, d3, d4, c1]; try rfl)))
          | (refine ev_guardT _ _ (by (simp only [go_sem, hdec, hn', d1, d2, d3, d4, c1]; rfl)) (by (simp only [go_sem, hdec, hn', d1, d2, d3, d4, c1]; rfl)) ?_ ?_ <;> (intro hb; first | (cases hb; done) | (have ht : true = true := hb; clear ht hb) | (have ht : false = false := hb; clear ht hb) | (simp only [hb]) | skip))
          | (refine ev_guardF _ _ (by (simp only [go_sem, hdec, hn', d1, d2, d3, d4, c1]; rfl)) (by (simp only [go_sem, hdec, hn', d1, d2, d3, d4, c1]; rfl)) ?_ ?_ <;> (intro hb; first | (cases hb; done) | (have ht : true = true := hb; clear ht hb) | (have ht : false = false := hb; clear ht hb) | (simp only [hb]) | skip))
          | (apply ev_step0; (case hr | hσ => (simp only [go_sem, hdec, hn', d1, d2, d3, d4, c1]; try rfl)); (case hc => (first | trivial | exact look_ok (by kernel_rfl) (by kernel_rfl) | decide | (simp only [inB, sliceOk, appendOk, rowsOk]; omega) | (simp [inB, sliceOk, appendOk, rowsOk]; omega))))
          | (apply ev_step; (case hr => (simp only [go_sem, hdec, hn', d1, d2, d3, d4, c1]; try rfl)); (case hσ => (intro g u; simp only [go_sem, hdec, hn', d1, d2, d3, d4, c1]; try rfl)); (case hc => (first | trivial | exact look_ok (by kernel_rfl) (by kernel_rfl) | decide | (simp only [inB, sliceOk, appendOk, rowsOk]; omega) | (simp [inB, sliceOk, appendOk, rowsOk]; omega))); intro g u; (try clear u); (try clear g))
          | fail
        all_goals (refine resR_more T_ok rfl (by decide) _ (by (simp only [go_sem, resA]; rfl)) (by (intro rv hrv; simp only [List.mem_cons, List.not_mem_nil, or_false] at hrv; rcases hrv with rfl | rfl <;> first | trivial | simp only [go_sem, resA])) (by first | trivial | (simp only [go_sem])) ?_; simp only [go_sem])
        refine ⟨LeA.i hna, LeA.refl _, trivial⟩
    | false =>
      rw [small_not] at hsm
      rw [if_neg Bool.false_ne_true]
      by_cases h0 : n < 0
      · have d1 : decide (n < 0) = true := decide_eq_true h0
        have d2 : decide (n ≥ 0) = false := decide_eq_false (by omega)
        cases c1 : (hw != 18446744073709551615) with
        | true =>
          repeat' first
            | refine awp_seq ?_
            | refine awp_block ?_
            | refine awp_skip ?_
            | (refine reg _ (by (simp only [List.map_cons, List.map_nil]; rfl)) rfl ?_; intro K hK)
            | (refine awp_cond _ (by rfl) ?_ ?_ <;> (intro hb; first | (cases hb; done) | (have ht : true = true := hb; clear ht hb) | (have ht : false = false := hb; clear ht hb) | (simp only [hb]) | skip))
            | (refine awp_exit ?_; simp only [thenA, blockA, scopeA, reduceIte, RetQ, Nat.reduceEqDiff])
            | (refine awp_ret ?_; simp only [thenA, blockA, scopeA, RetQ])
            | (refine ev_nil (hK _ ?_); clear hK K)
            | (apply ev_guardU; (case hj | hu | hσ => (simp only [go_sem, hdec, hn', d1, d2, c1]; try rfl)))
            | (refine ev_guardT _ _ (by (simp only [go_sem, hdec, hn', d1, d2, c1]; rfl)) (by (simp only [go_sem, hdec, hn', d1, d2, c1]; rfl)) ?_ ?_ <;> (intro hb; first | (cases hb; done) | (have ht : true = true := hb; clear ht hb) | (have ht : false = false := hb; clear ht hb) | (simp only [hb]) | skip))
            | (refine ev_guardF _ _ (by (simp only [go_sem, hdec, hn', d1, d2, c1]; rfl)) (by (simp only [go_sem, hdec, hn', d1, d2, c1]; rfl)) ?_ ?_ <;> (intro hb; first | (cases hb; done) | (have ht : true = true := hb; clear ht hb) | (have ht : false = false := hb; clear ht hb) | (simp only [hb]) | skip))
            | (apply ev_step0; (case hr | hσ => (simp only [go_sem, hdec, hn', d1, d2, c1]; try rfl)); (case hc => (first | trivial | exact look_ok (by kernel_rfl) (by kernel_rfl) | decide | (simp only [inB, sliceOk, appendOk, rowsOk]; omega) | (simp [inB, sliceOk, appendOk, rowsOk]; omega))))
            | (apply ev_step; (case hr => (simp only [go_sem, hdec, hn', d1, d2, c1]; try rfl)); (case hσ => (intro g u; simp only [go_sem, hdec, hn', d1, d2, c1]; try rfl)); (case hc => (first | trivial | exact look_ok (by kernel_rfl) (by kernel_rfl) | decide | (simp only [inB, sliceOk, appendOk, rowsOk]; omega) | (simp [inB, sliceOk, appendOk, rowsOk]; omega))); intro g u; (try clear u); (try clear g))
            | fail
          all_goals (refine resR_more T_ok rfl (by decide) _ (by (simp only [go_sem, resA]; rfl)) (by (intro rv hrv; simp only [List.mem_cons, List.not_mem_nil, or_false] at hrv; rcases hrv with rfl | rfl <;> first | trivial | simp only [go_sem, resA])) (by first | trivial | (simp only [go_sem])) ?_; simp only [go_sem])
          refine ⟨LeA.refl _, LeA.refl _, trivial⟩
        | false =>
          have c1' : hw = 18446744073709551615 := by simpa using c1
          have d3 : decide (n < -4000000000000000000) = true := decide_eq_true (by omega)
          repeat' first
            | refine awp_seq ?_
            | refine awp_block ?_
            | refine awp_skip ?_
            | (refine reg _ (by (simp only [List.map_cons, List.map_nil]; rfl)) rfl ?_; intro K hK)
            | (refine awp_cond _ (by rfl) ?_ ?_ <;> (intro hb; first | (cases hb; done) | (have ht : true = true := hb; clear ht hb) | (have ht : false = false := hb; clear ht hb) | (simp only [hb]) | skip))
            | (refine awp_exit ?_; simp only [thenA, blockA, scopeA, reduceIte, RetQ, Nat.reduceEqDiff])
            | (refine awp_ret ?_; simp only [thenA, blockA, scopeA, RetQ])
            | (refine ev_nil (hK _ ?_); clear hK K)
            | (apply ev_guardU; (case hj | hu | hσ => (simp only [go_sem, hdec, hn', d1, d2, c1, d3]; try rfl)))
            | (refine ev_guardT _ _ (by (simp only [go_sem, hdec, hn', d1, d2, c1, d3]; rfl)) (by (simp only [go_sem, hdec, hn', d1, d2, c1, d3]; rfl)) ?_ ?_ <;> (intro hb; first | (cases hb; done) | (have ht : true = true := hb; clear ht hb) | (have ht : false = false := hb; clear ht hb) | (simp only [hb]) | skip))
            | (refine ev_guardF _ _ (by (simp only [go_sem, hdec, hn', d1, d2, c1, d3]; rfl)) (by (simp only [go_sem, hdec, hn', d1, d2, c1, d3]; rfl)) ?_ ?_ <;> (intro hb; first | (cases hb; done) | (have ht : true = true := hb; clear ht hb) | (have ht : false = false := hb; clear ht hb) | (simp only [hb]) | skip))
            | (apply ev_step0; (case hr | hσ => (simp only [go_sem, hdec, hn', d1, d2, c1, d3]; try rfl)); (case hc => (first | trivial | exact look_ok (by kernel_rfl) (by kernel_rfl) | decide | (simp only [inB, sliceOk, appendOk, rowsOk]; omega) | (simp [inB, sliceOk, appendOk, rowsOk]; omega))))
            | (apply ev_step; (case hr => (simp only [go_sem, hdec, hn', d1, d2, c1, d3]; try rfl)); (case hσ => (intro g u; simp only [go_sem, hdec, hn', d1, d2, c1, d3]; try rfl)); (case hc => (first | trivial | exact look_ok (by kernel_rfl) (by kernel_rfl) | decide | (simp only [inB, sliceOk, appendOk, rowsOk]; omega) | (simp [inB, sliceOk, appendOk, rowsOk]; omega))); intro g u; (try clear u); (try clear g))
            | fail
          all_goals (refine resR_more T_ok rfl (by decide) _ (by (simp only [go_sem, resA]; rfl)) (by (intro rv hrv; simp only [List.mem_cons, List.not_mem_nil, or_false] at hrv; rcases hrv with rfl | rfl <;> first | trivial | simp only [go_sem, resA])) (by first | trivial | (simp only [go_sem])) ?_; simp only [go_sem])
          refine ⟨LeA.refl _, LeA.refl _, trivial⟩
      · have d1 : decide (n < 0) = false := decide_eq_false h0
        have d2 : decide (n ≥ 0) = true := decide_eq_true (by omega)
        cases c1 : (hw != 0) with
        | true =>
          repeat' first
            | refine awp_seq ?_
            | refine awp_block ?_
            | refine awp_skip ?_
            | (refine reg _ (by (simp only [List.map_cons, List.map_nil]; rfl)) rfl ?_; intro K hK)
            | (refine awp_cond _ (by rfl) ?_ ?_ <;> (intro hb; first | (cases hb; done) | (have ht : true = true := hb; clear ht hb) | (have ht : false = false := hb; clear ht hb) | (simp only [hb]) | skip))
            | (refine awp_exit ?_; simp only [thenA, blockA, scopeA, reduceIte, RetQ, Nat.reduceEqDiff])
            | (refine awp_ret ?_; simp only [thenA, blockA, scopeA, RetQ])
            | (refine ev_nil (hK _ ?_); clear hK K)
            | (apply ev_guardU; (case hj | hu | hσ => (simp only [go_sem, hdec, hn', d1, d2, c1]; try rfl)))
            | (refine ev_guardT _ _ (by (simp only [go_sem, hdec, hn', d1, d2, c1]; rfl)) (by (simp only [go_sem, hdec, hn', d1, d2, c1]; rfl)) ?_ ?_ <;> (intro hb; first | (cases hb; done) | (have ht : true = true := hb; clear ht hb) | (have ht : false = false := hb; clear ht hb) | (simp only [hb]) | skip))
            | (refine ev_guardF _ _ (by (simp only [go_sem, hdec, hn', d1, d2, c1]; rfl)) (by (simp only [go_sem, hdec, hn', d1, d2, c1]; rfl)) ?_ ?_ <;> (intro hb; first | (cases hb; done) | (have ht : true = true := hb; clear ht hb) | (have ht : false = false := hb; clear ht hb) | (simp only [hb]) | skip))
            | (apply ev_step0; (case hr | hσ => (simp only [go_sem, hdec, hn', d1, d2, c1]; try rfl)); (case hc => (first | trivial | exact look_ok (by kernel_rfl) (by kernel_rfl) | decide | (simp only [inB, sliceOk, appendOk, rowsOk]; omega) | (simp [inB, sliceOk, appendOk, rowsOk]; omega))))
            | (apply ev_step; (case hr => (simp only [go_sem, hdec, hn', d1, d2, c1]; try rfl)); (case hσ => (intro g u; simp only [go_sem, hdec, hn', d1, d2, c1]; try rfl)); (case hc => (first | trivial | exact look_ok (by kernel_rfl) (by kernel_rfl) | decide | (simp only [inB, sliceOk, appendOk, rowsOk]; omega) | (simp [inB, sliceOk, appendOk, rowsOk]; omega))); intro g u; (try clear u); (try clear g))
            | fail
          all_goals (refine resR_more T_ok rfl (by decide) _ (by (simp only [go_sem, resA]; rfl)) (by (intro rv hrv; simp only [List.mem_cons, List.not_mem_nil, or_false] at hrv; rcases hrv with rfl | rfl <;> first | trivial | simp only [go_sem, resA])) (by first | trivial | (simp only [go_sem])) ?_; simp only [go_sem])
          refine ⟨LeA.refl _, LeA.refl _, trivial⟩
        | false =>
          have c1' : hw = 0 := by simpa using c1
          have d3 : decide (n < -4000000000000000000) = false := decide_eq_false (by omega)
          have d4 : decide (n > 4000000000000000000) = true := decide_eq_true (by omega)
          repeat' first
            | refine awp_seq ?_
            | refine awp_block ?_
            | refine awp_skip ?_
            | (refine reg _ (by (simp only [List.map_cons, List.map_nil]; rfl)) rfl ?_; intro K hK)
            | (refine awp_cond _ (by rfl) ?_ ?_ <;> (intro hb; first | (cases hb; done) | (have ht : true = true := hb; clear ht hb) | (have ht : false = false := hb; clear ht hb) | (simp only [hb]) | skip))
            | (refine awp_exit ?_; simp only [thenA, blockA, scopeA, reduceIte, RetQ, Nat.reduceEqDiff])
            | (refine awp_ret ?_; simp only [thenA, blockA, scopeA, RetQ])
            | (refine ev_nil (hK _ ?_); clear hK K)
            | (apply ev_guardU; (case hj | hu | hσ => (simp only [go_sem, hdec, hn', d1, d2, c1, d3, d4]; try rfl)))
            | (refine ev_guardT _ _ (by (simp only [go_sem, hdec, hn', d1, d2, c1, d3, d4]; rfl)) (by (simp only [go_sem, hdec, hn', d1, d2, c1, d3, d4]; rfl)) ?_ ?_ <;> (intro hb; first | (cases hb; done) | (have ht : true = true := hb; clear ht hb) | (have ht : false = false := hb; clear ht hb) | (simp only [hb]) | skip))
            | (refine ev_guardF _ _ (by (simp only [go_sem, hdec, hn', d1, d2, c1, d3, d4]; rfl)) (by (simp only [go_sem, hdec, hn', d1, d2, c1, d3, d4]; rfl)) ?_ ?_ <;> (intro hb; first | (cases hb; done) | (have ht : true = true := hb; clear ht hb) | (have ht : false = false := hb; clear ht hb) | (simp only [hb]) | skip))
            | (apply ev_step0; (case hr | hσ => (simp only [go_sem, hdec, hn', d1, d2, c1, d3, d4]; try rfl)); (case hc => (first | trivial | exact look_ok (by kernel_rfl) (by kernel_rfl) | decide | (simp only [inB, sliceOk, appendOk, rowsOk]; omega) | (simp [inB, sliceOk, appendOk, rowsOk]; omega))))
            | (apply ev_step; (case hr => (simp only [go_sem, hdec, hn', d1, d2, c1, d3, d4]; try rfl)); (case hσ => (intro g u; simp only [go_sem, hdec, hn', d1, d2, c1, d3, d4]; try rfl)); (case hc => (first | trivial | exact look_ok (by kernel_rfl) (by kernel_rfl) | decide | (simp only [inB, sliceOk, appendOk, rowsOk]; omega) | (simp [inB, sliceOk, appendOk, rowsOk]; omega))); intro g u; (try clear u); (try clear g))
            | fail
          all_goals (refine resR_more T_ok rfl (by decide) _ (by (simp only [go_sem, resA]; rfl)) (by (intro rv hrv; simp only [List.mem_cons, List.not_mem_nil, or_false] at hrv; rcases hrv with rfl | rfl <;> first | trivial | simp only [go_sem, resA])) (by first | trivial | (simp only [go_sem])) ?_; simp only [go_sem])
          refine ⟨LeA.refl _, LeA.refl _, trivial⟩
  have hdec : decide ((i : Int) < (l.length : Int)) = true := by simp; omega
  have hx := ints_at l hlt
  have hm : l.getD i 0 ∈ l := by rw [List.getD_eq_getElem?_getD, List.getElem?_eq_getElem hlt]; exact List.getElem_mem hlt
  have hxb := hb _ hm
  have hta := take_all l hlt
  have hst := sumL_take l hlt
  have hbd := sumL_bd hal
  have htl : (l.take i).length = i := by rw [List.length_take]; omega
  rw [htl] at hbd
  have hna := not_all hlt
  generalize l.getD i 0 = x at *
  cases hsm : small x with
  | false =>
    have hno := hna hsm
    rw [small_not] at hsm
    unfold sumD
    rw [hno, Bool.false_and, if_neg Bool.false_ne_true]
    by_cases h1 : x < -4000000000000000000
    · have d1 : decide (x < -4000000000000000000) = true := decide_eq_true h1
      repeat' first
        | refine awp_seq ?_
        | refine awp_block ?_
        | refine awp_skip ?_
        | (refine reg _ (by (simp only [List.map_cons, List.map_nil]; rfl)) rfl ?_; intro K hK)
        | (refine awp_cond _ (by rfl) ?_ ?_ <;> (intro hb; first | (cases hb; done) | (have ht : true = true := hb; clear ht hb) | (have ht : false = false := hb; clear ht hb) | (simp only [hb]) | skip))
        | (refine awp_exit ?_; simp only [thenA, blockA, scopeA, reduceIte, RetQ, Nat.reduceEqDiff])
        | (refine awp_ret ?_; simp only [thenA, blockA, scopeA, RetQ])
        | (refine ev_nil (hK _ ?_); clear hK K)
        | (apply ev_guardU; (case hj | hu | hσ => (simp only [go_sem, hdec, hx, d1]; try rfl)))
        | (refine ev_guardT _ _ (by (simp only [go_sem, hdec, hx, d1]; rfl)) (by (simp only [go_sem, hdec, hx, d1]; rfl)) ?_ ?_ <;> (intro hb; first | (cases hb; done) | (have ht : true = true := hb; clear ht hb) | (have ht : false = false := hb; clear ht hb) | (simp only [hb]) | skip))
        | (refine ev_guardF _ _ (by (simp only [go_sem, hdec, hx, d1]; rfl)) (by (simp only [go_sem, hdec, hx, d1]; rfl)) ?_ ?_ <;> (intro hb; first | (cases hb; done) | (have ht : true = true := hb; clear ht hb) | (have ht : false = false := hb; clear ht hb) | (simp only [hb]) | skip))
        | (apply ev_step0; (case hr | hσ => (simp only [go_sem, hdec, hx, d1]; try rfl)); (case hc => (first | trivial | exact look_ok (by kernel_rfl) (by kernel_rfl) | decide | (simp only [inB, sliceOk, appendOk, rowsOk]; omega) | (simp [inB, sliceOk, appendOk, rowsOk]; omega))))
        | (apply ev_step; (case hr => (simp only [go_sem, hdec, hx, d1]; try rfl)); (case hσ => (intro g u; simp only [go_sem, hdec, hx, d1]; try rfl)); (case hc => (first | trivial | exact look_ok (by kernel_rfl) (by kernel_rfl) | decide | (simp only [inB, sliceOk, appendOk, rowsOk]; omega) | (simp [inB, sliceOk, appendOk, rowsOk]; omega))); intro g u; (try clear u); (try clear g))
        | fail
      all_goals (refine resR_more T_ok rfl (by decide) _ (by (simp only [go_sem, resA]; rfl)) (by (intro rv hrv; simp only [List.mem_cons, List.not_mem_nil, or_false] at hrv; rcases hrv with rfl | rfl <;> first | trivial | simp only [go_sem, resA])) (by first | trivial | (simp only [go_sem])) ?_; simp only [go_sem])
      refine ⟨LeA.refl _, LeA.refl _, trivial⟩
    · have d1 : decide (x < -4000000000000000000) = false := decide_eq_false h1
      have d2 : decide (x > 4000000000000000000) = true := decide_eq_true (by omega)
      repeat' first
        | refine awp_seq ?_
        | refine awp_block ?_
        | refine awp_skip ?_
        | (refine reg _ (by (simp only [List.map_cons, List.map_nil]; rfl)) rfl ?_; intro K hK)
        | (refine awp_cond _ (by rfl) ?_ ?_ <;> (intro hb; first | (cases hb; done) | (have ht : true = true := hb; clear ht hb) | (have ht : false = false := hb; clear ht hb) | (simp only [hb]) | skip))
        | (refine awp_exit ?_; simp only [thenA, blockA, scopeA, reduceIte, RetQ, Nat.reduceEqDiff])
        | (refine awp_ret ?_; simp only [thenA, blockA, scopeA, RetQ])
        | (refine ev_nil (hK _ ?_); clear hK K)
        | (apply ev_guardU; (case hj | hu | hσ => (simp only [go_sem, hdec, hx, d1, d2]; try rfl)))
        | (refine ev_guardT _ _ (by (simp only [go_sem, hdec, hx, d1, d2]; rfl)) (by (simp only [go_sem, hdec, hx, d1, d2]; rfl)) ?_ ?_ <;> (intro hb; first | (cases hb; done) | (have ht : true = true := hb; clear ht hb) | (have ht : false = false := hb; clear ht hb) | (simp only [hb]) | skip))
        | (refine ev_guardF _ _ (by (simp only [go_sem, hdec, hx, d1, d2]; rfl)) (by (simp only [go_sem, hdec, hx, d1, d2]; rfl)) ?_ ?_ <;> (intro hb; first | (cases hb; done) | (have ht : true = true := hb; clear ht hb) | (have ht : false = false := hb; clear ht hb) | (simp only [hb]) | skip))
        | (apply ev_step0; (case hr | hσ => (simp only [go_sem, hdec, hx, d1, d2]; try rfl)); (case hc => (first | trivial | exact look_ok (by kernel_rfl) (by kernel_rfl) | decide | (simp only [inB, sliceOk, appendOk, rowsOk]; omega) | (simp [inB, sliceOk, appendOk, rowsOk]; omega))))
        | (apply ev_step; (case hr => (simp only [go_sem, hdec, hx, d1, d2]; try rfl)); (case hσ => (intro g u; simp only [go_sem, hdec, hx, d1, d2]; try rfl)); (case hc => (first | trivial | exact look_ok (by kernel_rfl) (by kernel_rfl) | decide | (simp only [inB, sliceOk, appendOk, rowsOk]; omega) | (simp [inB, sliceOk, appendOk, rowsOk]; omega))); intro g u; (try clear u); (try clear g))
        | fail
      all_goals (refine resR_more T_ok rfl (by decide) _ (by (simp only [go_sem, resA]; rfl)) (by (intro rv hrv; simp only [List.mem_cons, List.not_mem_nil, or_false] at hrv; rcases hrv with rfl | rfl <;> first | trivial | simp only [go_sem, resA])) (by first | trivial | (simp only [go_sem])) ?_; simp only [go_sem])
      refine ⟨LeA.refl _, LeA.refl _, trivial⟩
  | true =>
    rw [hal, hsm] at hta
    rw [small_iff] at hsm
    have d1 : decide (x < -4000000000000000000) = false := decide_eq_false (by omega)
    have d2 : decide (x > 4000000000000000000) = false := decide_eq_false (by omega)
    obtain ⟨lo, hlo⟩ : ∃ y, sumL (l.take i) % 18446744073709551616 = y := ⟨_, rfl⟩
    obtain ⟨hi', hhi⟩ : ∃ y, (sumL (l.take i) / 18446744073709551616) % 18446744073709551616 = y := ⟨_, rfl⟩
    obtain ⟨un, hun⟩ : ∃ y, x % 18446744073709551616 = y := ⟨_, rfl⟩
    obtain ⟨us, hus⟩ : ∃ y, (if x < 0 then (18446744073709551615 : Int) else 0) = y := ⟨_, rfl⟩
    obtain ⟨cr, hcr⟩ : ∃ y, (lo + un + 0) / 18446744073709551616 = y := ⟨_, rfl⟩
    have a1 := f82_spec lo un 0 (by omega) (by omega) (.inl rfl)
    have hc01 : cr = 0 ∨ cr = 1 := by omega
    have a2 := f82_spec hi' us cr (by omega) (by rw [← hus]; split <;> omega) hc01
    have w1 : IntKind.u64.wrap x = un := by rw [wrap_u64, hun]
    rw [hcr] at a1
    have e1 : (lo + un + 0) % 18446744073709551616 = sumL (l.take (i + 1)) % 18446744073709551616 := by rw [hst]; omega
    have e2 : (hi' + us + cr) % 18446744073709551616 = (sumL (l.take (i + 1)) / 18446744073709551616) % 18446744073709551616 := by
      rw [hst]
      by_cases hneg : x < 0
      · rw [if_pos hneg] at hus; omega
      · rw [if_neg hneg] at hus; omega
    rw [e1] at a1
    rw [e2] at a2
    rw [hlo, hhi]
    by_cases hneg : x < 0
    · have d3 : decide (x < 0) = true := decide_eq_true hneg
      rw [if_pos hneg] at hus
      subst hus
      repeat' first
        | refine awp_seq ?_
        | refine awp_block ?_
        | refine awp_skip ?_
        | (refine reg _ (by (simp only [List.map_cons, List.map_nil]; rfl)) rfl ?_; intro K hK)
        | (refine awp_cond _ (by rfl) ?_ ?_ <;> (intro hb; first | (cases hb; done) | (have ht : true = true := hb; clear ht hb) | (have ht : false = false := hb; clear ht hb) | (simp only [hb]) | skip))
        | (refine awp_exit ?_; simp only [thenA, blockA, scopeA, reduceIte, RetQ, Nat.reduceEqDiff])
        | (refine awp_ret ?_; simp only [thenA, blockA, scopeA, RetQ])
        | (refine ev_nil (hK _ ?_); clear hK K)
        | (apply ev_guardU; (case hj | hu | hσ => (simp only [go_sem, hdec, hx, d1, d2, d3, w1]; try rfl)))
        | (refine ev_guardT _ _ (by (simp only [go_sem, hdec, hx, d1, d2, d3, w1]; rfl)) (by (simp only [go_sem, hdec, hx, d1, d2, d3, w1]; rfl)) ?_ ?_ <;> (intro hb; first | (cases hb; done) | (have ht : true = true := hb; clear ht hb) | (have ht : false = false := hb; clear ht hb) | (simp only [hb]) | skip))
        | (refine ev_guardF _ _ (by (simp only [go_sem, hdec, hx, d1, d2, d3, w1]; rfl)) (by (simp only [go_sem, hdec, hx, d1, d2, d3, w1]; rfl)) ?_ ?_ <;> (intro hb; first | (cases hb; done) | (have ht : true = true := hb; clear ht hb) | (have ht : false = false := hb; clear ht hb) | (simp only [hb]) | skip))
        | (apply ev_callE0; (case hys => (simp only [go_sem, hdec, hx, d1, d2, d3, w1]; try rfl)); (case hs => first | exact a1 | exact a2); (case hσ => (simp only [go_sem, hdec, hx, d1, d2, d3, w1]; try rfl)))
        | (apply ev_step0; (case hr | hσ => (simp only [go_sem, hdec, hx, d1, d2, d3, w1]; try rfl)); (case hc => (first | trivial | exact look_ok (by kernel_rfl) (by kernel_rfl) | decide | (simp only [inB, sliceOk, appendOk, rowsOk]; omega) | (simp [inB, sliceOk, appendOk, rowsOk]; omega))))
        | (apply ev_step; (case hr => (simp only [go_sem, hdec, hx, d1, d2, d3, w1]; try rfl)); (case hσ => (intro g u; simp only [go_sem, hdec, hx, d1, d2, d3, w1]; try rfl)); (case hc => (first | trivial | exact look_ok (by kernel_rfl) (by kernel_rfl) | decide | (simp only [inB, sliceOk, appendOk, rowsOk]; omega) | (simp [inB, sliceOk, appendOk, rowsOk]; omega))); intro g u; (try clear u); (try clear g))
        | fail
      refine Exists.intro (i + 1) ⟨⟨by omega, hta⟩, by omega, ?_⟩
      refine Wk.mk ?_ ?_
      all_goals (repeat' first | exact trivial | exact LeA.refl _ | exact LeA.any _ | exact LeO.refl _ | exact LeO.no _ | exact LeA.nil _ | exact LeA.nilOwn _ | exact LeO.nil _ _ _ | refine LeO.box ?_ | (refine LeA.i ?_; (first | rfl | (push_cast; rfl) | (rw [wrap_id (by omega)]; push_cast; omega) | (simp [wrap_id]; omega))) | refine ⟨?_, ?_⟩)
    · have d3 : decide (x < 0) = false := decide_eq_false hneg
      rw [if_neg hneg] at hus
      subst hus
      repeat' first
        | refine awp_seq ?_
        | refine awp_block ?_
        | refine awp_skip ?_
        | (refine reg _ (by (simp only [List.map_cons, List.map_nil]; rfl)) rfl ?_; intro K hK)
        | (refine awp_cond _ (by rfl) ?_ ?_ <;> (intro hb; first | (cases hb; done) | (have ht : true = true := hb; clear ht hb) | (have ht : false = false := hb; clear ht hb) | (simp only [hb]) | skip))
        | (refine awp_exit ?_; simp only [thenA, blockA, scopeA, reduceIte, RetQ, Nat.reduceEqDiff])
        | (refine awp_ret ?_; simp only [thenA, blockA, scopeA, RetQ])
        | (refine ev_nil (hK _ ?_); clear hK K)
        | (apply ev_guardU; (case hj | hu | hσ => (simp only [go_sem, hdec, hx, d1, d2, d3, w1]; try rfl)))
        | (refine ev_guardT _ _ (by (simp only [go_sem, hdec, hx, d1, d2, d3, w1]; rfl)) (by (simp only [go_sem, hdec, hx, d1, d2, d3, w1]; rfl)) ?_ ?_ <;> (intro hb; first | (cases hb; done) | (have ht : true = true := hb; clear ht hb) | (have ht : false = false := hb; clear ht hb) | (simp only [hb]) | skip))
        | (refine ev_guardF _ _ (by (simp only [go_sem, hdec, hx, d1, d2, d3, w1]; rfl)) (by (simp only [go_sem, hdec, hx, d1, d2, d3, w1]; rfl)) ?_ ?_ <;> (intro hb; first | (cases hb; done) | (have ht : true = true := hb; clear ht hb) | (have ht : false = false := hb; clear ht hb) | (simp only [hb]) | skip))
        | (apply ev_callE0; (case hys => (simp only [go_sem, hdec, hx, d1, d2, d3, w1]; try rfl)); (case hs => first | exact a1 | exact a2); (case hσ => (simp only [go_sem, hdec, hx, d1, d2, d3, w1]; try rfl)))
        | (apply ev_step0; (case hr | hσ => (simp only [go_sem, hdec, hx, d1, d2, d3, w1]; try rfl)); (case hc => (first | trivial | exact look_ok (by kernel_rfl) (by kernel_rfl) | decide | (simp only [inB, sliceOk, appendOk, rowsOk]; omega) | (simp [inB, sliceOk, appendOk, rowsOk]; omega))))
        | (apply ev_step; (case hr => (simp only [go_sem, hdec, hx, d1, d2, d3, w1]; try rfl)); (case hσ => (intro g u; simp only [go_sem, hdec, hx, d1, d2, d3, w1]; try rfl)); (case hc => (first | trivial | exact look_ok (by kernel_rfl) (by kernel_rfl) | decide | (simp only [inB, sliceOk, appendOk, rowsOk]; omega) | (simp [inB, sliceOk, appendOk, rowsOk]; omega))); intro g u; (try clear u); (try clear g))
        | fail
      refine Exists.intro (i + 1) ⟨⟨by omega, hta⟩, by omega, ?_⟩
      refine Wk.mk ?_ ?_
      all_goals (repeat' first | exact trivial | exact LeA.refl _ | exact LeA.any _ | exact LeO.refl _ | exact LeO.no _ | exact LeA.nil _ | exact LeA.nilOwn _ | exact LeO.nil _ _ _ | refine LeO.box ?_ | (refine LeA.i ?_; (first | rfl | (push_cast; rfl) | (rw [wrap_id (by omega)]; push_cast; omega) | (simp [wrap_id]; omega))) | refine ⟨?_, ?_⟩)
theorem f55_spec (l : List Int) (hb : ∀ x ∈ l, -9223372036854775808 ≤ x ∧ x ≤ 9223372036854775807) (hl : l.length ≤ 4611686018427387904) : Spec Tryd.prog 55 [.d (ints l)] (.tup [litI .i64 (sumD l).1, litI .i64 (sumD l).2]) := by
  have h75 := f75_spec l hb hl
  rcases hs : (l.all small && small (sumL l)) with _ | _
  · have e : sumD l = (0, 2) := by unfold sumD; rw [hs, if_neg Bool.false_ne_true]
    rw [e] at h75 ⊢
    refine spec_of_awp (fn := Tryd.f55) Tryd.func55 (by kernel_rfl) rfl ?_
    intro w0 C0
    simp only [Tryd.ntmps55, litI, litB, litS, List.length_cons, List.length_nil, Nat.reduceAdd, Nat.reduceSub, List.replicate_succ, List.replicate_zero, List.cons_append, List.nil_append]
    repeat' first
      | refine awp_seq ?_
      | refine awp_block ?_
      | refine awp_skip ?_
      | (refine reg _ (by (simp only [List.map_cons, List.map_nil]; rfl)) rfl ?_; intro K hK)
      | (refine awp_cond _ (by rfl) ?_ ?_ <;> (intro hb; first | (cases hb; done) | (have ht : true = true := hb; clear ht hb) | (have ht : false = false := hb; clear ht hb) | (simp only [hb]) | skip))
      | (refine awp_exit ?_; simp only [thenA, blockA, scopeA, reduceIte, RetQ, Nat.reduceEqDiff])
      | (refine awp_ret ?_; simp only [thenA, blockA, scopeA, RetQ])
      | (refine ev_nil (hK _ ?_); clear hK K)
      | (apply ev_call0; (case hys => (simp only [go_sem]; try rfl)); (case hs => first | exact h75 ..); (case hok | hσ => (simp only [go_sem]; try rfl)))
      | (apply ev_step0; (case hr | hσ => (simp only [go_sem]; try rfl)); (case hc => (first | trivial | exact look_ok (by kernel_rfl) (by kernel_rfl) | decide | (simp only [inB, sliceOk, appendOk, rowsOk]; omega) | (simp [inB, sliceOk, appendOk, rowsOk]; omega))))
      | (apply ev_step; (case hr => (simp only [go_sem]; try rfl)); (case hσ => (intro g u; simp only [go_sem]; try rfl)); (case hc => (first | trivial | exact look_ok (by kernel_rfl) (by kernel_rfl) | decide | (simp only [inB, sliceOk, appendOk, rowsOk]; omega) | (simp [inB, sliceOk, appendOk, rowsOk]; omega))); intro g u; (try clear u); (try clear g))
      | fail
    all_goals (refine resR_more T_ok rfl (by decide) _ (by (simp only [go_sem, resA]; rfl)) (by (intro rv hrv; simp only [List.mem_cons, List.not_mem_nil, or_false] at hrv; rcases hrv with rfl | rfl <;> first | trivial | simp only [go_sem, resA])) (by first | trivial | (simp only [go_sem])) ?_; simp only [go_sem])
    exact ⟨LeA.refl _, LeA.refl _, trivial⟩
  · have e : sumD l = (sumL l, 0) := by unfold sumD; rw [hs, if_pos rfl]
    rw [e] at h75 ⊢
    refine spec_of_awp (fn := Tryd.f55) Tryd.func55 (by kernel_rfl) rfl ?_
    intro w0 C0
    simp only [Tryd.ntmps55, litI, litB, litS, List.length_cons, List.length_nil, Nat.reduceAdd, Nat.reduceSub, List.replicate_succ, List.replicate_zero, List.cons_append, List.nil_append]
    repeat' first
      | refine awp_seq ?_
      | refine awp_block ?_
      | refine awp_skip ?_
      | (refine reg _ (by (simp only [List.map_cons, List.map_nil]; rfl)) rfl ?_; intro K hK)
      | (refine awp_cond _ (by rfl) ?_ ?_ <;> (intro hb; first | (cases hb; done) | (have ht : true = true := hb; clear ht hb) | (have ht : false = false := hb; clear ht hb) | (simp only [hb]) | skip))
      | (refine awp_exit ?_; simp only [thenA, blockA, scopeA, reduceIte, RetQ, Nat.reduceEqDiff])
      | (refine awp_ret ?_; simp only [thenA, blockA, scopeA, RetQ])
      | (refine ev_nil (hK _ ?_); clear hK K)
      | (apply ev_call0; (case hys => (simp only [go_sem]; try rfl)); (case hs => first | exact h75 ..); (case hok | hσ => (simp only [go_sem]; try rfl)))
      | (apply ev_step0; (case hr | hσ => (simp only [go_sem]; try rfl)); (case hc => (first | trivial | exact look_ok (by kernel_rfl) (by kernel_rfl) | decide | (simp only [inB, sliceOk, appendOk, rowsOk]; omega) | (simp [inB, sliceOk, appendOk, rowsOk]; omega))))
      | (apply ev_step; (case hr => (simp only [go_sem]; try rfl)); (case hσ => (intro g u; simp only [go_sem]; try rfl)); (case hc => (first | trivial | exact look_ok (by kernel_rfl) (by kernel_rfl) | decide | (simp only [inB, sliceOk, appendOk, rowsOk]; omega) | (simp [inB, sliceOk, appendOk, rowsOk]; omega))); intro g u; (try clear u); (try clear g))
      | fail
    all_goals (refine resR_more T_ok rfl (by decide) _ (by (simp only [go_sem, resA]; rfl)) (by (intro rv hrv; simp only [List.mem_cons, List.not_mem_nil, or_false] at hrv; rcases hrv with rfl | rfl <;> first | trivial | simp only [go_sem, resA])) (by first | trivial | (simp only [go_sem])) ?_; simp only [go_sem])
    exact ⟨LeA.refl _, LeA.refl _, trivial⟩
end
section
set_option linter.unusedVariables false
set_option linter.unusedSimpArgs false
open Go.RowKit
attribute [local irreducible] Spec SpecF SpecN
attribute [local irreducible] AWp evOps evD
/-- Bounds. -/
structure Bd where
  nulls : Int
  has : Bool
  lo : Vl
  hi : Vl
  sum : Int
abbrev bd (b : Bd) : List AV := [litI .i64 b.nulls, litB b.has, litI .i64 b.lo.k, litI .i64 b.lo.i, litS b.lo.s, litI .i64 b.hi.k, litI .i64 b.hi.i, litS b.hi.s, litI .i64 b.sum]
abbrev bdD (b : Bd) : List Dat := [.lit (.int .i64 b.nulls), .lit (.bool b.has), .lit (.int .i64 b.lo.k), .lit (.int .i64 b.lo.i), .lit (.string b.lo.s), .lit (.int .i64 b.hi.k), .lit (.int .i64 b.hi.i), .lit (.string b.hi.s), .lit (.int .i64 b.sum)]
abbrev zeroBd : Bd := ⟨0, false, nullV, nullV, 0⟩
def isNull (v : Vl) : Bool := (v.k == 0) && ((v.i == 0) && noS v.s)
def badV (b : Bd) (v : Vl) : Bool := !wideV v || (!isNull v && b.has && (v.k != b.lo.k))
def startV (b : Bd) (v : Vl) : Bd := if b.has = true then b else ⟨b.nulls, true, v, v, b.sum⟩
def lowV (b : Bd) (v : Vl) : Bd := if cmpV v b.lo < 0 then ⟨b.nulls, b.has, v, b.hi, b.sum⟩ else b
def highV (b : Bd) (v : Vl) : Bd := if cmpV v b.hi > 0 then ⟨b.nulls, b.has, b.lo, v, b.sum⟩ else b
def ofIn (b : Bd) (v : Vl) : Bd := highV (lowV (startV b v) v) v
def ofS (b : Bd) : List Vl → Option Bd
  | [] => some b
  | v :: l => if badV b v = true then none else if isNull v = true then ofS ⟨b.nulls + 1, b.has, b.lo, b.hi, b.sum⟩ l else ofS (ofIn b v) l
def numsV (l : List Vl) : List Int := (l.filter fun v => v.k == 2).map (·.i)
def ofM (l : List Vl) : Bd × Int := match ofS zeroBd l with
  | none => (zeroBd, 6)
  | some b => if (sumD (numsV l)).2 = 0 then (⟨b.nulls, b.has, b.lo, b.hi, (sumD (numsV l)).1⟩, 0) else (zeroBd, (sumD (numsV l)).2)
structure VlOk (v : Vl) : Prop where
  i : -9223372036854775808 ≤ v.i ∧ v.i ≤ 9223372036854775807
  s : v.s.size ≤ 4611686018427387904
abbrev dV : Vl := nullV
theorem vls_at (l : List Vl) {i : Nat} (h : i < l.length) : (l.map vlD).getD i [] = vlD (l.getD i dV) := by
  simp [List.getD_eq_getElem?_getD, h]
theorem mem_at {α : Type} (l : List α) (d : α) {i : Nat} (h : i < l.length) : l.getD i d ∈ l := by
  rw [List.getD_eq_getElem?_getD, List.getElem?_eq_getElem h]; exact List.getElem_mem h
theorem take_at {α : Type} (l : List α) (d : α) {i : Nat} (h : i < l.length) : l.take (i + 1) = l.take i ++ [l.getD i d] := by
  rw [List.take_succ_eq_append_getElem h]; simp [List.getD_eq_getElem?_getD, h]
theorem numsV_step (l : List Vl) {i : Nat} (h : i < l.length) : numsV (l.take (i + 1)) = if ((l.getD i dV).k == 2) = true then numsV (l.take i) ++ [(l.getD i dV).i] else numsV (l.take i) := by
  rw [take_at l dV h]
  unfold numsV
  rw [List.filter_append, List.map_append]
  generalize l.getD i dV = v
  split
  · rename_i h1; simp only [List.filter_cons, List.filter_nil, h1, if_true, List.map_cons, List.map_nil]
  · rename_i h1; simp only [List.filter_cons, List.filter_nil, h1, if_false, Bool.false_eq_true, List.map_nil, List.append_nil]
theorem cmpI_self (a : Int) : cmpI a a = 0 := cmpI_zero.2 rfl
theorem cmpB_self (a : ByteArray) : cmpB a a = 0 := by
  have h : ∀ l : List UInt8, Op.bytesLess l l = false := by
    intro l
    induction l with
    | nil => rfl
    | cons x l ih => simp [Op.bytesLess, ih]
  unfold cmpB
  rw [h]; simp
theorem cmpV_self (v : Vl) : cmpV v v = 0 := by
  simp [cmpV, firstNZ, cmpI_self, cmpB_self]
theorem numsV_len (l : List Vl) : (numsV l).length ≤ l.length := by
  unfold numsV
  rw [List.length_map]
  exact List.length_filter_le _ _
set_option maxHeartbeats 8000000 in
theorem f35_spec (l : List Vl) (hb : ∀ v ∈ l, VlOk v) (hl : l.length ≤ 16777216) : Spec Tryd.prog 35 [.d (vls l)] (.tup [.agg (bd (ofM l).1), litI .i64 (ofM l).2]) := by
  have h55 := f55_spec (numsV l) (by
    intro x hx
    simp only [numsV, List.mem_map, List.mem_filter] at hx
    obtain ⟨v, ⟨hv, _⟩, rfl⟩ := hx
    exact (hb v hv).i) (by have := numsV_len l; omega)
  have hnl := numsV_len l
  refine spec_of_awp (fn := Tryd.f35) Tryd.func35 (by kernel_rfl) rfl ?_
  intro w0 C0
  simp only [Tryd.ntmps35, litI, litB, litS, List.length_cons, List.length_nil, Nat.reduceAdd, Nat.reduceSub, List.replicate_succ, List.replicate_zero, List.cons_append, List.nil_append]
  repeat' first
    | refine awp_seq ?_
    | refine awp_block ?_
    | refine awp_skip ?_
    | (refine reg _ (by (simp only [List.map_cons, List.map_nil]; rfl)) rfl ?_; intro K hK)
    | (refine awp_cond _ (by rfl) ?_ ?_ <;> (intro hb; first | (cases hb; done) | (have ht : true = true := hb; clear ht hb) | (have ht : false = false := hb; clear ht hb) | (simp only [hb]) | skip))
    | (refine awp_exit ?_; simp only [thenA, blockA, scopeA, reduceIte, RetQ, Nat.reduceEqDiff])
    | (refine awp_ret ?_; simp only [thenA, blockA, scopeA, RetQ])
    | (refine ev_nil (hK _ ?_); clear hK K)
    | (apply ev_guardU; (case hj | hu | hσ => (simp only [go_sem]; try rfl)))
    | (refine ev_guardT _ _ (by (simp only [go_sem]; rfl)) (by (simp only [go_sem]; rfl)) ?_ ?_ <;> (intro hb; first | (cases hb; done) | (have ht : true = true := hb; clear ht hb) | (have ht : false = false := hb; clear ht hb) | (simp only [hb]) | skip))
    | (refine ev_guardF _ _ (by (simp only [go_sem]; rfl)) (by (simp only [go_sem]; rfl)) ?_ ?_ <;> (intro hb; first | (cases hb; done) | (have ht : true = true := hb; clear ht hb) | (have ht : false = false := hb; clear ht hb) | (simp only [hb]) | skip))
    | (apply ev_step0; (case hr | hσ => (simp only [go_sem]; try rfl)); (case hc => (first | trivial | exact look_ok (by kernel_rfl) (by kernel_rfl) | decide | (simp only [inB, sliceOk, appendOk, rowsOk]; omega) | (simp [inB, sliceOk, appendOk, rowsOk]; omega))))
    | (apply ev_step; (case hr => (simp only [go_sem]; try rfl)); (case hσ => (intro g u; simp only [go_sem]; try rfl)); (case hc => (first | trivial | exact look_ok (by kernel_rfl) (by kernel_rfl) | decide | (simp only [inB, sliceOk, appendOk, rowsOk]; omega) | (simp [inB, sliceOk, appendOk, rowsOk]; omega))); intro g u; (try clear u); (try clear g))
    | fail
  rename_i g2
  revert g; intro g4
  refine awp_loopI (fun j : Nat × (Bd × Value) => j.1 ≤ l.length ∧ ofS j.2.1 (l.drop j.1) = ofS zeroBd l ∧ (0 ≤ j.2.1.nulls ∧ j.2.1.nulls ≤ j.1) ∧ j.2.1.sum = 0) (fun j => l.length - j.1) (fun j => ⟨[.any, .any, .ptr 2 g2 0, litI .i64 0, .ptr 4 g4 0, .own 73 j.2.2, .any, .any, .any, .any, .d (vls l), litI .i64 l.length, litI .i64 j.1, .any, .any, .any, .any, .any, .any, .any, .any, .any, .any, .any, .any, .any, .any, .any, .any, .any, .any, .any, .any, .any, .any, .any, .any, .any, .any, .any, .any, .any, .any, .any, .any, .any, .any, .any, .any, .any, .any, .any, .any, .any, .any, .any, .any, .any, .any, .any, .any, .any, .any, .any, .any, .any, .any, .any, .any, .any, .any, .any, .any, .any, .any, .any, .any, .any, .any, .any, .any, .any, .any, .any, .any, .any, .any], [.no, .no, .box g2 (bd zeroBd), .no, .box g4 (bd j.2.1), .no, .no, .no, .no, .no, .no, .no, .no, .no, .no, .no, .no, .no, .no, .no, .no, .no, .no, .no, .no, .no, .no, .no, .no, .no, .no, .no, .no, .no, .no, .no, .no, .no, .no, .no, .no, .no, .no, .no, .no, .no, .no, .no, .no, .no, .no, .no, .no, .no, .no, .no, .no, .no, .no, .no, .no, .no, .no, .no, .no, .no, .no, .no, .no, .no, .no, .no, .no, .row j.2.2 3 1 ((numsV (l.take j.1)).map fun n => [.lit (.int .i64 n)]), .no, .no, .no, .no, .no, .no, .no, .no, .no, .no, .no, .no, .no]⟩) (0, zeroBd, .slice none 0 0) ⟨by simp, rfl, by simp, rfl⟩ ?_ ?_
  · refine Wk.mk ?_ ?_
    all_goals (repeat' first | exact trivial | exact LeA.refl _ | exact LeA.any _ | exact LeO.refl _ | exact LeO.no _ | exact LeA.nil _ | exact LeA.nilOwn _ | exact LeO.nil _ _ _ | refine LeO.box ?_ | (refine LeA.i ?_; (first | rfl | (push_cast; rfl) | (rw [wrap_id (by omega)]; push_cast; omega) | (simp [wrap_id]; omega))) | refine ⟨?_, ?_⟩)
  rintro ⟨i, b, u0⟩ ⟨hi, hof, ⟨hn0, hn1⟩, hsum⟩
  simp only [litI, litB, litS] at hi hof hn0 hn1 hsum ⊢
  by_cases hlt : i < l.length
  rotate_left
  have hdec : decide ((i : Int) < (l.length : Int)) = false := by simp; omega
  · have hil : i = l.length := by omega
    subst hil
    rw [List.drop_length, ofS] at hof
    rw [List.take_length]
    rcases hs : ((numsV l).all small && small (sumL (numsV l))) with _ | _
    · have e : sumD (numsV l) = (0, 2) := by unfold sumD; rw [hs, if_neg Bool.false_ne_true]
      have em : ofM l = (zeroBd, 2) := by unfold ofM; rw [← hof, e]; rfl
      rw [e] at h55
      rw [em]
      repeat' first
        | refine awp_seq ?_
        | refine awp_block ?_
        | refine awp_skip ?_
        | (refine reg _ (by (simp only [List.map_cons, List.map_nil]; rfl)) rfl ?_; intro K hK)
        | (refine awp_cond _ (by rfl) ?_ ?_ <;> (intro hb; first | (cases hb; done) | (have ht : true = true := hb; clear ht hb) | (have ht : false = false := hb; clear ht hb) | (simp only [hb]) | skip))
        | (refine awp_exit ?_; simp only [thenA, blockA, scopeA, reduceIte, RetQ, Nat.reduceEqDiff])
        | (refine awp_ret ?_; simp only [thenA, blockA, scopeA, RetQ])
        | (refine ev_nil (hK _ ?_); clear hK K)
        | (apply ev_guardU; (case hj | hu | hσ => (simp only [go_sem, hdec]; try rfl)))
        | (refine ev_guardT _ _ (by (simp only [go_sem, hdec]; rfl)) (by (simp only [go_sem, hdec]; rfl)) ?_ ?_ <;> (intro hb; first | (cases hb; done) | (have ht : true = true := hb; clear ht hb) | (have ht : false = false := hb; clear ht hb) | (simp only [hb]) | skip))
        | (refine ev_guardF _ _ (by (simp only [go_sem, hdec]; rfl)) (by (simp only [go_sem, hdec]; rfl)) ?_ ?_ <;> (intro hb; first | (cases hb; done) | (have ht : true = true := hb; clear ht hb) | (have ht : false = false := hb; clear ht hb) | (simp only [hb]) | skip))
        | (apply ev_call0; (case hys => (simp only [go_sem, hdec]; try rfl)); (case hs => first | exact h55 ..); (case hok | hσ => (simp only [go_sem, hdec]; try rfl)))
        | (apply ev_step0; (case hr | hσ => (simp only [go_sem, hdec]; try rfl)); (case hc => (first | trivial | exact look_ok (by kernel_rfl) (by kernel_rfl) | decide | (simp only [inB, sliceOk, appendOk, rowsOk]; omega) | (simp [inB, sliceOk, appendOk, rowsOk]; omega))))
        | (apply ev_step; (case hr => (simp only [go_sem, hdec]; try rfl)); (case hσ => (intro g u; simp only [go_sem, hdec]; try rfl)); (case hc => (first | trivial | exact look_ok (by kernel_rfl) (by kernel_rfl) | decide | (simp only [inB, sliceOk, appendOk, rowsOk]; omega) | (simp [inB, sliceOk, appendOk, rowsOk]; omega))); intro g u; (try clear u); (try clear g))
        | fail
      all_goals (refine resR_more T_ok rfl (by decide) _ (by (simp only [go_sem, resA]; rfl)) (by (intro rv hrv; simp only [List.mem_cons, List.not_mem_nil, or_false] at hrv; rcases hrv with rfl | rfl <;> first | trivial | simp only [go_sem, resA])) (by first | trivial | (simp only [go_sem])) ?_; simp only [go_sem])
      refine ⟨LeA.refl _, LeA.refl _, trivial⟩
    · have e : sumD (numsV l) = (sumL (numsV l), 0) := by unfold sumD; rw [hs, if_pos rfl]
      have em : ofM l = (⟨b.nulls, b.has, b.lo, b.hi, sumL (numsV l)⟩, 0) := by unfold ofM; rw [← hof, e]; rfl
      rw [e] at h55
      rw [em]
      repeat' first
        | refine awp_seq ?_
        | refine awp_block ?_
        | refine awp_skip ?_
        | (refine reg _ (by (simp only [List.map_cons, List.map_nil]; rfl)) rfl ?_; intro K hK)
        | (refine awp_cond _ (by rfl) ?_ ?_ <;> (intro hb; first | (cases hb; done) | (have ht : true = true := hb; clear ht hb) | (have ht : false = false := hb; clear ht hb) | (simp only [hb]) | skip))
        | (refine awp_exit ?_; simp only [thenA, blockA, scopeA, reduceIte, RetQ, Nat.reduceEqDiff])
        | (refine awp_ret ?_; simp only [thenA, blockA, scopeA, RetQ])
        | (refine ev_nil (hK _ ?_); clear hK K)
        | (apply ev_guardU; (case hj | hu | hσ => (simp only [go_sem, hdec]; try rfl)))
        | (refine ev_guardT _ _ (by (simp only [go_sem, hdec]; rfl)) (by (simp only [go_sem, hdec]; rfl)) ?_ ?_ <;> (intro hb; first | (cases hb; done) | (have ht : true = true := hb; clear ht hb) | (have ht : false = false := hb; clear ht hb) | (simp only [hb]) | skip))
        | (refine ev_guardF _ _ (by (simp only [go_sem, hdec]; rfl)) (by (simp only [go_sem, hdec]; rfl)) ?_ ?_ <;> (intro hb; first | (cases hb; done) | (have ht : true = true := hb; clear ht hb) | (have ht : false = false := hb; clear ht hb) | (simp only [hb]) | skip))
        | (apply ev_call0; (case hys => (simp only [go_sem, hdec]; try rfl)); (case hs => first | exact h55 ..); (case hok | hσ => (simp only [go_sem, hdec]; try rfl)))
        | (apply ev_step0; (case hr | hσ => (simp only [go_sem, hdec]; try rfl)); (case hc => (first | trivial | exact look_ok (by kernel_rfl) (by kernel_rfl) | decide | (simp only [inB, sliceOk, appendOk, rowsOk]; omega) | (simp [inB, sliceOk, appendOk, rowsOk]; omega))))
        | (apply ev_step; (case hr => (simp only [go_sem, hdec]; try rfl)); (case hσ => (intro g u; simp only [go_sem, hdec]; try rfl)); (case hc => (first | trivial | exact look_ok (by kernel_rfl) (by kernel_rfl) | decide | (simp only [inB, sliceOk, appendOk, rowsOk]; omega) | (simp [inB, sliceOk, appendOk, rowsOk]; omega))); intro g u; (try clear u); (try clear g))
        | fail
      all_goals (refine resR_more T_ok rfl (by decide) _ (by (simp only [go_sem, resA]; rfl)) (by (intro rv hrv; simp only [List.mem_cons, List.not_mem_nil, or_false] at hrv; rcases hrv with rfl | rfl <;> first | trivial | simp only [go_sem, resA])) (by first | trivial | (simp only [go_sem])) ?_; simp only [go_sem])
      refine ⟨LeA.refl _, LeA.refl _, trivial⟩
  have hdec : decide ((i : Int) < (l.length : Int)) = true := by simp; omega
  have hx := vls_at l hlt
  have hm := hb _ (mem_at l dV hlt)
  have hns := numsV_step l hlt
  rw [drop_at l dV hlt, ofS] at hof
  generalize l.getD i dV = v at *
  have h40 := f40_spec v hm.s
  have hq : ((v.k == 0) && ((v.i == 0) && (v.s.toList == (⟨#[]⟩ : ByteArray).toList))) = isNull v := rfl
  obtain ⟨N, hN⟩ : ∃ N, isNull v = N := ⟨_, rfl⟩
  rw [hN] at hq
  cases hw : wideV v with
  | false =>
    rw [hw] at h40
    have : badV b v = true := by simp [badV, hw]
    rw [if_pos this] at hof
    have e : ofM l = (zeroBd, 6) := by unfold ofM; rw [← hof]
    rw [e]
    repeat' first
      | refine awp_seq ?_
      | refine awp_block ?_
      | refine awp_skip ?_
      | (refine reg _ (by (simp only [List.map_cons, List.map_nil]; rfl)) rfl ?_; intro K hK)
      | (refine awp_cond _ (by rfl) ?_ ?_ <;> (intro hb; first | (cases hb; done) | (have ht : true = true := hb; clear ht hb) | (have ht : false = false := hb; clear ht hb) | (simp only [hb]) | skip))
      | (refine awp_exit ?_; simp only [thenA, blockA, scopeA, reduceIte, RetQ, Nat.reduceEqDiff])
      | (refine awp_ret ?_; simp only [thenA, blockA, scopeA, RetQ])
      | (refine ev_nil (hK _ ?_); clear hK K)
      | (apply ev_guardU; (case hj | hu | hσ => (simp only [go_sem, hdec, hx]; try rfl)))
      | (refine ev_guardT _ _ (by (simp only [go_sem, hdec, hx]; rfl)) (by (simp only [go_sem, hdec, hx]; rfl)) ?_ ?_ <;> (intro hb; first | (cases hb; done) | (have ht : true = true := hb; clear ht hb) | (have ht : false = false := hb; clear ht hb) | (simp only [hb]) | skip))
      | (refine ev_guardF _ _ (by (simp only [go_sem, hdec, hx]; rfl)) (by (simp only [go_sem, hdec, hx]; rfl)) ?_ ?_ <;> (intro hb; first | (cases hb; done) | (have ht : true = true := hb; clear ht hb) | (have ht : false = false := hb; clear ht hb) | (simp only [hb]) | skip))
      | (apply ev_call0; (case hys => (simp only [go_sem, hdec, hx]; try rfl)); (case hs => first | exact h40 ..); (case hok | hσ => (simp only [go_sem, hdec, hx]; try rfl)))
      | (apply ev_step0; (case hr | hσ => (simp only [go_sem, hdec, hx]; try rfl)); (case hc => (first | trivial | exact look_ok (by kernel_rfl) (by kernel_rfl) | decide | (simp only [inB, sliceOk, appendOk, rowsOk]; omega) | (simp [inB, sliceOk, appendOk, rowsOk]; omega))))
      | (apply ev_step; (case hr => (simp only [go_sem, hdec, hx]; try rfl)); (case hσ => (intro g u; simp only [go_sem, hdec, hx]; try rfl)); (case hc => (first | trivial | exact look_ok (by kernel_rfl) (by kernel_rfl) | decide | (simp only [inB, sliceOk, appendOk, rowsOk]; omega) | (simp [inB, sliceOk, appendOk, rowsOk]; omega))); intro g u; (try clear u); (try clear g))
      | fail
    all_goals (refine resR_more T_ok rfl (by decide) _ (by (simp only [go_sem, resA]; rfl)) (by (intro rv hrv; simp only [List.mem_cons, List.not_mem_nil, or_false] at hrv; rcases hrv with rfl | rfl <;> first | trivial | simp only [go_sem, resA])) (by first | trivial | (simp only [go_sem])) ?_; simp only [go_sem])
    refine ⟨LeA.refl _, LeA.refl _, trivial⟩
  | true =>
  rw [hw] at h40
  have hbad : badV b v = (!N && b.has && (v.k != b.lo.k)) := by simp [badV, hw, hN]
  cases N with
  | true =>
    rw [hbad] at hof
    rw [if_neg (by simp), if_pos hN] at hof
    have w1 : IntKind.i64.wrap (b.nulls + 1) = b.nulls + 1 := wrap_id (by omega)
    have hk : (v.k == 2) = false := by
      unfold isNull at hN
      simp only [Bool.and_eq_true, beq_iff_eq] at hN
      rw [hN.1]; rfl
    rw [hk, if_neg Bool.false_ne_true] at hns
    repeat' first
      | refine awp_seq ?_
      | refine awp_block ?_
      | refine awp_skip ?_
      | (refine reg _ (by (simp only [List.map_cons, List.map_nil]; rfl)) rfl ?_; intro K hK)
      | (refine awp_cond _ (by rfl) ?_ ?_ <;> (intro hb; first | (cases hb; done) | (have ht : true = true := hb; clear ht hb) | (have ht : false = false := hb; clear ht hb) | (simp only [hb]) | skip))
      | (refine awp_exit ?_; simp only [thenA, blockA, scopeA, reduceIte, RetQ, Nat.reduceEqDiff])
      | (refine awp_ret ?_; simp only [thenA, blockA, scopeA, RetQ])
      | (refine ev_nil (hK _ ?_); clear hK K)
      | (apply ev_guardU; (case hj | hu | hσ => (simp only [go_sem, hdec, hx, hq, w1]; try rfl)))
      | (refine ev_guardT _ _ (by (simp only [go_sem, hdec, hx, hq, w1]; rfl)) (by (simp only [go_sem, hdec, hx, hq, w1]; rfl)) ?_ ?_ <;> (intro hb; first | (cases hb; done) | (have ht : true = true := hb; clear ht hb) | (have ht : false = false := hb; clear ht hb) | (simp only [hb]) | skip))
      | (refine ev_guardF _ _ (by (simp only [go_sem, hdec, hx, hq, w1]; rfl)) (by (simp only [go_sem, hdec, hx, hq, w1]; rfl)) ?_ ?_ <;> (intro hb; first | (cases hb; done) | (have ht : true = true := hb; clear ht hb) | (have ht : false = false := hb; clear ht hb) | (simp only [hb]) | skip))
      | (apply ev_call0; (case hys => (simp only [go_sem, hdec, hx, hq, w1]; try rfl)); (case hs => first | exact h40 ..); (case hok | hσ => (simp only [go_sem, hdec, hx, hq, w1]; try rfl)))
      | (apply ev_step0; (case hr | hσ => (simp only [go_sem, hdec, hx, hq, w1]; try rfl)); (case hc => (first | trivial | exact look_ok (by kernel_rfl) (by kernel_rfl) | decide | (simp only [inB, sliceOk, appendOk, rowsOk]; omega) | (simp [inB, sliceOk, appendOk, rowsOk]; omega))))
      | (apply ev_step; (case hr => (simp only [go_sem, hdec, hx, hq, w1]; try rfl)); (case hσ => (intro g u; simp only [go_sem, hdec, hx, hq, w1]; try rfl)); (case hc => (first | trivial | exact look_ok (by kernel_rfl) (by kernel_rfl) | decide | (simp only [inB, sliceOk, appendOk, rowsOk]; omega) | (simp [inB, sliceOk, appendOk, rowsOk]; omega))); intro g u; (try clear u); (try clear g))
      | fail
    refine Exists.intro (i + 1, (⟨b.nulls + 1, b.has, b.lo, b.hi, b.sum⟩, u0)) ⟨⟨by simp only; omega, hof, by simp only; omega, hsum⟩, by simp only; omega, ?_⟩
    simp only [hns]
    refine Wk.mk ?_ ?_
    all_goals (repeat' first | exact trivial | exact LeA.refl _ | exact LeA.any _ | exact LeO.refl _ | exact LeO.no _ | exact LeA.nil _ | exact LeA.nilOwn _ | exact LeO.nil _ _ _ | refine LeO.box ?_ | (refine LeA.i ?_; (first | rfl | (push_cast; rfl) | (rw [wrap_id (by omega)]; push_cast; omega) | (simp [wrap_id]; omega))) | refine ⟨?_, ?_⟩)
  | false =>
  rw [hbad, Bool.not_false, Bool.true_and] at hof
  simp only [hN, Bool.false_eq_true, if_false] at hof
  have hnt : (numsV (l.take i)).length ≤ 16777216 := by
    have := numsV_len (l.take i)
    rw [List.length_take] at this
    omega
  have hap : ∀ x : Int, ((numsV (l.take i)) ++ [x]).map (fun n => [Dat.lit (.int .i64 n)]) = (numsV (l.take i)).map (fun n => [Dat.lit (.int .i64 n)]) ++ [[.lit (.int .i64 x)]] := fun x => by simp
  obtain ⟨bn, bh, bl, bi, bsm⟩ := b
  simp only at hof hn0 hn1 hsum
  subst hsum
  cases bh with
  | true =>
    rw [Bool.true_and] at hof
    cases hk : (v.k != bl.k) with
    | true =>
      rw [hk, if_pos rfl] at hof
      have e : ofM l = (zeroBd, 6) := by unfold ofM; rw [← hof]
      rw [e]
      repeat' first
        | refine awp_seq ?_
        | refine awp_block ?_
        | refine awp_skip ?_
        | (refine reg _ (by (simp only [List.map_cons, List.map_nil]; rfl)) rfl ?_; intro K hK)
        | (refine awp_cond _ (by rfl) ?_ ?_ <;> (intro hb; first | (cases hb; done) | (have ht : true = true := hb; clear ht hb) | (have ht : false = false := hb; clear ht hb) | (simp only [hb]) | skip))
        | (refine awp_exit ?_; simp only [thenA, blockA, scopeA, reduceIte, RetQ, Nat.reduceEqDiff])
        | (refine awp_ret ?_; simp only [thenA, blockA, scopeA, RetQ])
        | (refine ev_nil (hK _ ?_); clear hK K)
        | (apply ev_guardU; (case hj | hu | hσ => (simp only [go_sem, hdec, hx, hq, hk]; try rfl)))
        | (refine ev_guardT _ _ (by (simp only [go_sem, hdec, hx, hq, hk]; rfl)) (by (simp only [go_sem, hdec, hx, hq, hk]; rfl)) ?_ ?_ <;> (intro hb; first | (cases hb; done) | (have ht : true = true := hb; clear ht hb) | (have ht : false = false := hb; clear ht hb) | (simp only [hb]) | skip))
        | (refine ev_guardF _ _ (by (simp only [go_sem, hdec, hx, hq, hk]; rfl)) (by (simp only [go_sem, hdec, hx, hq, hk]; rfl)) ?_ ?_ <;> (intro hb; first | (cases hb; done) | (have ht : true = true := hb; clear ht hb) | (have ht : false = false := hb; clear ht hb) | (simp only [hb]) | skip))
        | (apply ev_call0; (case hys => (simp only [go_sem, hdec, hx, hq, hk]; try rfl)); (case hs => first | exact h40 ..); (case hok | hσ => (simp only [go_sem, hdec, hx, hq, hk]; try rfl)))
        | (apply ev_step0; (case hr | hσ => (simp only [go_sem, hdec, hx, hq, hk]; try rfl)); (case hc => (first | trivial | exact look_ok (by kernel_rfl) (by kernel_rfl) | decide | (simp only [inB, sliceOk, appendOk, rowsOk]; omega) | (simp [inB, sliceOk, appendOk, rowsOk]; omega))))
        | (apply ev_step; (case hr => (simp only [go_sem, hdec, hx, hq, hk]; try rfl)); (case hσ => (intro g u; simp only [go_sem, hdec, hx, hq, hk]; try rfl)); (case hc => (first | trivial | exact look_ok (by kernel_rfl) (by kernel_rfl) | decide | (simp only [inB, sliceOk, appendOk, rowsOk]; omega) | (simp [inB, sliceOk, appendOk, rowsOk]; omega))); intro g u; (try clear u); (try clear g))
        | fail
      all_goals (refine resR_more T_ok rfl (by decide) _ (by (simp only [go_sem, resA]; rfl)) (by (intro rv hrv; simp only [List.mem_cons, List.not_mem_nil, or_false] at hrv; rcases hrv with rfl | rfl <;> first | trivial | simp only [go_sem, resA])) (by first | trivial | (simp only [go_sem])) ?_; simp only [go_sem])
      refine ⟨LeA.refl _, LeA.refl _, trivial⟩
    | false =>
      rw [hk, if_neg Bool.false_ne_true] at hof
      have a1 := f41_spec v bl
      have a2 := f41_spec v bi
      have hofI : ofIn ⟨bn, true, bl, bi, 0⟩ v = ⟨bn, true, if cmpV v bl < 0 then v else bl, if cmpV v bi > 0 then v else bi, 0⟩ := by
        simp only [ofIn, startV, if_true, lowV, highV]
        split <;> simp only <;> split <;> rfl
      rw [hofI] at hof
      generalize cmpV v bl = c1 at *
      generalize cmpV v bi = c2 at *
      cases hk2 : (v.k == 2) with
      | false =>
        rw [hk2, if_neg Bool.false_ne_true] at hns
        by_cases h1 : c1 < 0 <;> by_cases h2 : c2 > 0 <;> simp only [h1, h2, if_true, if_false] at hof
        all_goals (first | have d1 : decide (c1 < 0) = true := decide_eq_true h1 | have d1 : decide (c1 < 0) = false := decide_eq_false h1)
        all_goals (first | have d2 : decide (c2 > 0) = true := decide_eq_true h2 | have d2 : decide (c2 > 0) = false := decide_eq_false h2)
        all_goals
          repeat' first
            | refine awp_seq ?_
            | refine awp_block ?_
            | refine awp_skip ?_
            | (refine reg _ (by (simp only [List.map_cons, List.map_nil]; rfl)) rfl ?_; intro K hK)
            | (refine awp_cond _ (by rfl) ?_ ?_ <;> (intro hb; first | (cases hb; done) | (have ht : true = true := hb; clear ht hb) | (have ht : false = false := hb; clear ht hb) | (simp only [hb]) | skip))
            | (refine awp_exit ?_; simp only [thenA, blockA, scopeA, reduceIte, RetQ, Nat.reduceEqDiff])
            | (refine awp_ret ?_; simp only [thenA, blockA, scopeA, RetQ])
            | (refine ev_nil (hK _ ?_); clear hK K)
            | (apply ev_guardU; (case hj | hu | hσ => (simp only [go_sem, hdec, hx, hq, hk, hk2, d1, d2]; try rfl)))
            | (refine ev_guardT _ _ (by (simp only [go_sem, hdec, hx, hq, hk, hk2, d1, d2]; rfl)) (by (simp only [go_sem, hdec, hx, hq, hk, hk2, d1, d2]; rfl)) ?_ ?_ <;> (intro hb; first | (cases hb; done) | (have ht : true = true := hb; clear ht hb) | (have ht : false = false := hb; clear ht hb) | (simp only [hb]) | skip))
            | (refine ev_guardF _ _ (by (simp only [go_sem, hdec, hx, hq, hk, hk2, d1, d2]; rfl)) (by (simp only [go_sem, hdec, hx, hq, hk, hk2, d1, d2]; rfl)) ?_ ?_ <;> (intro hb; first | (cases hb; done) | (have ht : true = true := hb; clear ht hb) | (have ht : false = false := hb; clear ht hb) | (simp only [hb]) | skip))
            | (apply ev_call0; (case hys => (simp only [go_sem, hdec, hx, hq, hk, hk2, d1, d2]; try rfl)); (case hs => first | exact h40 .. | exact a1 .. | exact a2 ..); (case hok | hσ => (simp only [go_sem, hdec, hx, hq, hk, hk2, d1, d2]; try rfl)))
            | (apply ev_step0; (case hr | hσ => (simp only [go_sem, hdec, hx, hq, hk, hk2, d1, d2]; try rfl)); (case hc => (first | trivial | exact look_ok (by kernel_rfl) (by kernel_rfl) | decide | (simp only [inB, sliceOk, appendOk, rowsOk]; omega) | (simp [inB, sliceOk, appendOk, rowsOk]; omega))))
            | (apply ev_step; (case hr => (simp only [go_sem, hdec, hx, hq, hk, hk2, d1, d2]; try rfl)); (case hσ => (intro g u; simp only [go_sem, hdec, hx, hq, hk, hk2, d1, d2]; try rfl)); (case hc => (first | trivial | exact look_ok (by kernel_rfl) (by kernel_rfl) | decide | (simp only [inB, sliceOk, appendOk, rowsOk]; omega) | (simp [inB, sliceOk, appendOk, rowsOk]; omega))); intro g u; (try clear u); (try clear g))
            | fail
          refine Exists.intro (i + 1, (_, u0)) ⟨⟨by simp only; omega, hof, by simp only; omega, rfl⟩, by simp only; omega, ?_⟩
          simp only [hns, hap]
          refine Wk.mk ?_ ?_
          all_goals (repeat' first | exact trivial | exact LeA.refl _ | exact LeA.any _ | exact LeO.refl _ | exact LeO.no _ | exact LeA.nil _ | exact LeA.nilOwn _ | exact LeO.nil _ _ _ | refine LeO.box ?_ | (refine LeA.i ?_; (first | rfl | (push_cast; rfl) | (rw [wrap_id (by omega)]; push_cast; omega) | (simp [wrap_id]; omega))) | refine ⟨?_, ?_⟩)
      | true =>
        rw [hk2, if_pos rfl] at hns
        by_cases h1 : c1 < 0 <;> by_cases h2 : c2 > 0 <;> simp only [h1, h2, if_true, if_false] at hof
        all_goals (first | have d1 : decide (c1 < 0) = true := decide_eq_true h1 | have d1 : decide (c1 < 0) = false := decide_eq_false h1)
        all_goals (first | have d2 : decide (c2 > 0) = true := decide_eq_true h2 | have d2 : decide (c2 > 0) = false := decide_eq_false h2)
        all_goals
          repeat' first
            | refine awp_seq ?_
            | refine awp_block ?_
            | refine awp_skip ?_
            | (refine reg _ (by (simp only [List.map_cons, List.map_nil]; rfl)) rfl ?_; intro K hK)
            | (refine awp_cond _ (by rfl) ?_ ?_ <;> (intro hb; first | (cases hb; done) | (have ht : true = true := hb; clear ht hb) | (have ht : false = false := hb; clear ht hb) | (simp only [hb]) | skip))
            | (refine awp_exit ?_; simp only [thenA, blockA, scopeA, reduceIte, RetQ, Nat.reduceEqDiff])
            | (refine awp_ret ?_; simp only [thenA, blockA, scopeA, RetQ])
            | (refine ev_nil (hK _ ?_); clear hK K)
            | (apply ev_guardU; (case hj | hu | hσ => (simp only [go_sem, hdec, hx, hq, hk, hk2, d1, d2]; try rfl)))
            | (refine ev_guardT _ _ (by (simp only [go_sem, hdec, hx, hq, hk, hk2, d1, d2]; rfl)) (by (simp only [go_sem, hdec, hx, hq, hk, hk2, d1, d2]; rfl)) ?_ ?_ <;> (intro hb; first | (cases hb; done) | (have ht : true = true := hb; clear ht hb) | (have ht : false = false := hb; clear ht hb) | (simp only [hb]) | skip))
            | (refine ev_guardF _ _ (by (simp only [go_sem, hdec, hx, hq, hk, hk2, d1, d2]; rfl)) (by (simp only [go_sem, hdec, hx, hq, hk, hk2, d1, d2]; rfl)) ?_ ?_ <;> (intro hb; first | (cases hb; done) | (have ht : true = true := hb; clear ht hb) | (have ht : false = false := hb; clear ht hb) | (simp only [hb]) | skip))
            | (apply ev_call0; (case hys => (simp only [go_sem, hdec, hx, hq, hk, hk2, d1, d2]; try rfl)); (case hs => first | exact h40 .. | exact a1 .. | exact a2 ..); (case hok | hσ => (simp only [go_sem, hdec, hx, hq, hk, hk2, d1, d2]; try rfl)))
            | (apply ev_step0; (case hr | hσ => (simp only [go_sem, hdec, hx, hq, hk, hk2, d1, d2]; try rfl)); (case hc => (first | trivial | exact look_ok (by kernel_rfl) (by kernel_rfl) | decide | (simp only [inB, sliceOk, appendOk, rowsOk]; omega) | (simp [inB, sliceOk, appendOk, rowsOk]; omega))))
            | (apply ev_step; (case hr => (simp only [go_sem, hdec, hx, hq, hk, hk2, d1, d2]; try rfl)); (case hσ => (intro g u; simp only [go_sem, hdec, hx, hq, hk, hk2, d1, d2]; try rfl)); (case hc => (first | trivial | exact look_ok (by kernel_rfl) (by kernel_rfl) | decide | (simp only [inB, sliceOk, appendOk, rowsOk]; omega) | (simp [inB, sliceOk, appendOk, rowsOk]; omega))); intro g u; (try clear u); (try clear g))
            | fail
          refine Exists.intro (i + 1, (_, u)) ⟨⟨by simp only; omega, hof, by simp only; omega, rfl⟩, by simp only; omega, ?_⟩
          simp only [hns, hap]
          refine Wk.mk ?_ ?_
          all_goals (repeat' first | exact trivial | exact LeA.refl _ | exact LeA.any _ | exact LeO.refl _ | exact LeO.no _ | exact LeA.nil _ | exact LeA.nilOwn _ | exact LeO.nil _ _ _ | refine LeO.box ?_ | (refine LeA.i ?_; (first | rfl | (push_cast; rfl) | (rw [wrap_id (by omega)]; push_cast; omega) | (simp [wrap_id]; omega))) | refine ⟨?_, ?_⟩)
  | false =>
    have a1 := f41_spec v v
    rw [cmpV_self] at a1
    have hofI : ofIn ⟨bn, false, bl, bi, 0⟩ v = ⟨bn, true, v, v, 0⟩ := by
      simp [ofIn, startV, lowV, highV, cmpV_self]
    rw [Bool.false_and, if_neg Bool.false_ne_true, hofI] at hof
    cases hk2 : (v.k == 2) with
    | false =>
      rw [hk2, if_neg Bool.false_ne_true] at hns
      repeat' first
        | refine awp_seq ?_
        | refine awp_block ?_
        | refine awp_skip ?_
        | (refine reg _ (by (simp only [List.map_cons, List.map_nil]; rfl)) rfl ?_; intro K hK)
        | (refine awp_cond _ (by rfl) ?_ ?_ <;> (intro hb; first | (cases hb; done) | (have ht : true = true := hb; clear ht hb) | (have ht : false = false := hb; clear ht hb) | (simp only [hb]) | skip))
        | (refine awp_exit ?_; simp only [thenA, blockA, scopeA, reduceIte, RetQ, Nat.reduceEqDiff])
        | (refine awp_ret ?_; simp only [thenA, blockA, scopeA, RetQ])
        | (refine ev_nil (hK _ ?_); clear hK K)
        | (apply ev_guardU; (case hj | hu | hσ => (simp only [go_sem, hdec, hx, hq, hk2]; try rfl)))
        | (refine ev_guardT _ _ (by (simp only [go_sem, hdec, hx, hq, hk2]; rfl)) (by (simp only [go_sem, hdec, hx, hq, hk2]; rfl)) ?_ ?_ <;> (intro hb; first | (cases hb; done) | (have ht : true = true := hb; clear ht hb) | (have ht : false = false := hb; clear ht hb) | (simp only [hb]) | skip))
        | (refine ev_guardF _ _ (by (simp only [go_sem, hdec, hx, hq, hk2]; rfl)) (by (simp only [go_sem, hdec, hx, hq, hk2]; rfl)) ?_ ?_ <;> (intro hb; first | (cases hb; done) | (have ht : true = true := hb; clear ht hb) | (have ht : false = false := hb; clear ht hb) | (simp only [hb]) | skip))
        | (apply ev_call0; (case hys => (simp only [go_sem, hdec, hx, hq, hk2]; try rfl)); (case hs => first | exact h40 .. | exact a1 ..); (case hok | hσ => (simp only [go_sem, hdec, hx, hq, hk2]; try rfl)))
        | (apply regD; (case hd => (simp only [List.map_cons, List.map_nil]; rfl)); (case hok => rfl); (case' h => (intro K hK; (repeat' first
        | (apply evd_nil; refine (hK _ ?_); clear hK K)
        | (apply evd_step0; (case hr | hi | hσ => (simp only [go_sem, hdec, hx, hq, hk2]; try rfl)); (case hc => (first | trivial | exact look_ok (by kernel_rfl) (by kernel_rfl) | decide | (simp only [inB, sliceOk, appendOk, rowsOk]; omega) | (simp [inB, sliceOk, appendOk, rowsOk]; omega))))
        | (apply evd_step; (case hr | hi => (simp only [go_sem, hdec, hx, hq, hk2]; try rfl)); (case hc => (first | trivial | exact look_ok (by kernel_rfl) (by kernel_rfl) | decide | (simp only [inB, sliceOk, appendOk, rowsOk]; omega) | (simp [inB, sliceOk, appendOk, rowsOk]; omega))); (case hw | hσ => (intro g u; simp only [go_sem, hdec, hx, hq, hk2]; try rfl)); (case' hk => (intro g u; (try clear u); (try clear g))))
        | fail))); (case hB => kernel_rfl))
        | (apply ev_step0; (case hr | hσ => (simp only [go_sem, hdec, hx, hq, hk2]; try rfl)); (case hc => (first | trivial | exact look_ok (by kernel_rfl) (by kernel_rfl) | decide | (simp only [inB, sliceOk, appendOk, rowsOk]; omega) | (simp [inB, sliceOk, appendOk, rowsOk]; omega))))
        | (apply ev_step; (case hr => (simp only [go_sem, hdec, hx, hq, hk2]; try rfl)); (case hσ => (intro g u; simp only [go_sem, hdec, hx, hq, hk2]; try rfl)); (case hc => (first | trivial | exact look_ok (by kernel_rfl) (by kernel_rfl) | decide | (simp only [inB, sliceOk, appendOk, rowsOk]; omega) | (simp [inB, sliceOk, appendOk, rowsOk]; omega))); intro g u; (try clear u); (try clear g))
        | fail
      refine Exists.intro (i + 1, (_, u0)) ⟨⟨by simp only; omega, hof, by simp only; omega, rfl⟩, by simp only; omega, ?_⟩
      simp only [hns, hap]
      refine Wk.mk ?_ ?_
      all_goals (repeat' first | exact trivial | exact LeA.refl _ | exact LeA.any _ | exact LeO.refl _ | exact LeO.no _ | exact LeA.nil _ | exact LeA.nilOwn _ | exact LeO.nil _ _ _ | refine LeO.box ?_ | (refine LeA.i ?_; (first | rfl | (push_cast; rfl) | (rw [wrap_id (by omega)]; push_cast; omega) | (simp [wrap_id]; omega))) | refine ⟨?_, ?_⟩)
    | true =>
      rw [hk2, if_pos rfl] at hns
      repeat' first
        | refine awp_seq ?_
        | refine awp_block ?_
        | refine awp_skip ?_
        | (refine reg _ (by (simp only [List.map_cons, List.map_nil]; rfl)) rfl ?_; intro K hK)
        | (refine awp_cond _ (by rfl) ?_ ?_ <;> (intro hb; first | (cases hb; done) | (have ht : true = true := hb; clear ht hb) | (have ht : false = false := hb; clear ht hb) | (simp only [hb]) | skip))
        | (refine awp_exit ?_; simp only [thenA, blockA, scopeA, reduceIte, RetQ, Nat.reduceEqDiff])
        | (refine awp_ret ?_; simp only [thenA, blockA, scopeA, RetQ])
        | (refine ev_nil (hK _ ?_); clear hK K)
        | (apply ev_guardU; (case hj | hu | hσ => (simp only [go_sem, hdec, hx, hq, hk2]; try rfl)))
        | (refine ev_guardT _ _ (by (simp only [go_sem, hdec, hx, hq, hk2]; rfl)) (by (simp only [go_sem, hdec, hx, hq, hk2]; rfl)) ?_ ?_ <;> (intro hb; first | (cases hb; done) | (have ht : true = true := hb; clear ht hb) | (have ht : false = false := hb; clear ht hb) | (simp only [hb]) | skip))
        | (refine ev_guardF _ _ (by (simp only [go_sem, hdec, hx, hq, hk2]; rfl)) (by (simp only [go_sem, hdec, hx, hq, hk2]; rfl)) ?_ ?_ <;> (intro hb; first | (cases hb; done) | (have ht : true = true := hb; clear ht hb) | (have ht : false = false := hb; clear ht hb) | (simp only [hb]) | skip))
        | (apply ev_call0; (case hys => (simp only [go_sem, hdec, hx, hq, hk2]; try rfl)); (case hs => first | exact h40 .. | exact a1 ..); (case hok | hσ => (simp only [go_sem, hdec, hx, hq, hk2]; try rfl)))
        | (apply regD; (case hd => (simp only [List.map_cons, List.map_nil]; rfl)); (case hok => rfl); (case' h => (intro K hK; (repeat' first
        | (apply evd_nil; refine (hK _ ?_); clear hK K)
        | (apply evd_step0; (case hr | hi | hσ => (simp only [go_sem, hdec, hx, hq, hk2]; try rfl)); (case hc => (first | trivial | exact look_ok (by kernel_rfl) (by kernel_rfl) | decide | (simp only [inB, sliceOk, appendOk, rowsOk]; omega) | (simp [inB, sliceOk, appendOk, rowsOk]; omega))))
        | (apply evd_step; (case hr | hi => (simp only [go_sem, hdec, hx, hq, hk2]; try rfl)); (case hc => (first | trivial | exact look_ok (by kernel_rfl) (by kernel_rfl) | decide | (simp only [inB, sliceOk, appendOk, rowsOk]; omega) | (simp [inB, sliceOk, appendOk, rowsOk]; omega))); (case hw | hσ => (intro g u; simp only [go_sem, hdec, hx, hq, hk2]; try rfl)); (case' hk => (intro g u; (try clear u); (try clear g))))
        | fail))); (case hB => kernel_rfl))
        | (apply ev_step0; (case hr | hσ => (simp only [go_sem, hdec, hx, hq, hk2]; try rfl)); (case hc => (first | trivial | exact look_ok (by kernel_rfl) (by kernel_rfl) | decide | (simp only [inB, sliceOk, appendOk, rowsOk]; omega) | (simp [inB, sliceOk, appendOk, rowsOk]; omega))))
        | (apply ev_step; (case hr => (simp only [go_sem, hdec, hx, hq, hk2]; try rfl)); (case hσ => (intro g u; simp only [go_sem, hdec, hx, hq, hk2]; try rfl)); (case hc => (first | trivial | exact look_ok (by kernel_rfl) (by kernel_rfl) | decide | (simp only [inB, sliceOk, appendOk, rowsOk]; omega) | (simp [inB, sliceOk, appendOk, rowsOk]; omega))); intro g u; (try clear u); (try clear g))
        | fail
      refine Exists.intro (i + 1, (_, u)) ⟨⟨by simp only; omega, hof, by simp only; omega, rfl⟩, by simp only; omega, ?_⟩
      simp only [hns, hap]
      refine Wk.mk ?_ ?_
      all_goals (repeat' first | exact trivial | exact LeA.refl _ | exact LeA.any _ | exact LeO.refl _ | exact LeO.no _ | exact LeA.nil _ | exact LeA.nilOwn _ | exact LeO.nil _ _ _ | refine LeO.box ?_ | (refine LeA.i ?_; (first | rfl | (push_cast; rfl) | (rw [wrap_id (by omega)]; push_cast; omega) | (simp [wrap_id]; omega))) | refine ⟨?_, ?_⟩)
end
section
set_option linter.unusedVariables false
set_option linter.unusedSimpArgs false
open Go.RowKit
attribute [local irreducible] Spec SpecF SpecN
attribute [local irreducible] AWp evOps evD
abbrev got (x : Bd × Int) : List AV := [litI .i64 x.1.nulls, litB x.1.has, litI .i64 x.1.lo.k, litI .i64 x.1.lo.i, litS x.1.lo.s, litI .i64 x.1.hi.k, litI .i64 x.1.hi.i, litS x.1.hi.s, litI .i64 x.1.sum, litI .i64 x.2]
theorem f12_spec (l : List Vl) (hb : ∀ v ∈ l, VlOk v) (hl : l.length ≤ 16777216) : Spec Tryd.prog 12 [.d (vls l)] (.agg (got (ofM l))) := by
  have h35 := f35_spec l hb hl
  refine spec_of_awp (fn := Tryd.f12) Tryd.func12 (by kernel_rfl) rfl ?_
  intro w0 C0
  simp only [Tryd.ntmps12, litI, litB, litS, List.length_cons, List.length_nil, Nat.reduceAdd, Nat.reduceSub, List.replicate_succ, List.replicate_zero, List.cons_append, List.nil_append]
  repeat' first
    | refine awp_seq ?_
    | refine awp_block ?_
    | refine awp_skip ?_
    | (refine reg _ (by (simp only [List.map_cons, List.map_nil]; rfl)) rfl ?_; intro K hK)
    | (refine awp_cond _ (by rfl) ?_ ?_ <;> (intro hb; first | (cases hb; done) | (have ht : true = true := hb; clear ht hb) | (have ht : false = false := hb; clear ht hb) | (simp only [hb]) | skip))
    | (refine awp_exit ?_; simp only [thenA, blockA, scopeA, reduceIte, RetQ, Nat.reduceEqDiff])
    | (refine awp_ret ?_; simp only [thenA, blockA, scopeA, RetQ])
    | (refine ev_nil (hK _ ?_); clear hK K)
    | (apply ev_call0; (case hys => (simp only [go_sem]; try rfl)); (case hs => first | exact h35 ..); (case hok | hσ => (simp only [go_sem]; try rfl)))
    | (apply ev_step0; (case hr | hσ => (simp only [go_sem]; try rfl)); (case hc => (first | trivial | exact look_ok (by kernel_rfl) (by kernel_rfl) | decide | (simp only [inB, sliceOk, appendOk, rowsOk]; omega) | (simp [inB, sliceOk, appendOk, rowsOk]; omega))))
    | (apply ev_step; (case hr => (simp only [go_sem]; try rfl)); (case hσ => (intro g u; simp only [go_sem]; try rfl)); (case hc => (first | trivial | exact look_ok (by kernel_rfl) (by kernel_rfl) | decide | (simp only [inB, sliceOk, appendOk, rowsOk]; omega) | (simp [inB, sliceOk, appendOk, rowsOk]; omega))); intro g u; (try clear u); (try clear g))
    | fail
  all_goals (refine resR_one T_ok rfl _ (by (simp only [go_sem, resA]; rfl)) (by first | trivial | (simp only [go_sem, resA])) (by first | trivial | (simp only [go_sem])) ?_; simp only [go_sem])
  exact LeA.refl _
/-- Whether bounds are of no values. -/
def bareB (b : Bd) : Bool := ((b.lo.k == 0) && ((b.lo.i == 0) && noS b.lo.s)) && (((b.hi.k == 0) && ((b.hi.i == 0) && noS b.hi.s)) && (b.sum == 0))
def validB (b : Bd) : Bool :=
  if decide (b.nulls < 0) = true then false else if decide (b.nulls > 4000000000000000000) = true then false else if decide (b.sum > 4000000000000000000) = true then false else if decide (b.sum < -4000000000000000000) = true then false
  else if b.has = false then bareB b
  else if wideV b.lo = false then false else if wideV b.hi = false then false else if isNull b.lo = true then false else if (b.lo.k == b.hi.k) = false then false else if decide (cmpV b.lo b.hi ≤ 0) = false then false
  else if (b.lo.k == 2) = true then true else (b.sum == 0)
set_option maxHeartbeats 8000000 in
theorem f16_spec (b : Bd) (hlo : b.lo.s.size ≤ 4611686018427387904) (hhi : b.hi.s.size ≤ 4611686018427387904) : Spec Tryd.prog 16 [.agg (bd b)] (litB (validB b)) := by
  have a1 := f40_spec b.lo hlo
  have a2 := f40_spec b.hi hhi
  have a3 := f41_spec b.lo b.hi
  have hq : ((b.lo.k == 0) && ((b.lo.i == 0) && (b.lo.s.toList == (⟨#[]⟩ : ByteArray).toList))) = isNull b.lo := rfl
  unfold validB bareB
  cases d1 : (decide (b.nulls < 0)) with
  | true =>
    simp only [d1, if_true, if_false, Bool.false_eq_true, reduceCtorEq]
    refine spec_of_awp (fn := Tryd.f16) Tryd.func16 (by kernel_rfl) rfl ?_
    intro w0 C0
    simp only [Tryd.ntmps16, litI, litB, litS, List.length_cons, List.length_nil, Nat.reduceAdd, Nat.reduceSub, List.replicate_succ, List.replicate_zero, List.cons_append, List.nil_append]
    repeat' first
      | refine awp_seq ?_
      | refine awp_block ?_
      | refine awp_skip ?_
      | (refine reg _ (by (simp only [List.map_cons, List.map_nil]; rfl)) rfl ?_; intro K hK)
      | (refine awp_cond _ (by rfl) ?_ ?_ <;> (intro hb; first | (cases hb; done) | (have ht : true = true := hb; clear ht hb) | (have ht : false = false := hb; clear ht hb) | (simp only [hb]) | skip))
      | (refine awp_exit ?_; simp only [thenA, blockA, scopeA, reduceIte, RetQ, Nat.reduceEqDiff])
      | (refine awp_ret ?_; simp only [thenA, blockA, scopeA, RetQ])
      | (refine ev_nil (hK _ ?_); clear hK K)
      | (apply ev_guardU; (case hj | hu | hσ => (simp only [go_sem, d1, beq_self_eq_true]; try rfl)))
      | (refine ev_guardT _ _ (by (simp only [go_sem, d1, beq_self_eq_true]; rfl)) (by (simp only [go_sem, d1, beq_self_eq_true]; rfl)) ?_ ?_ <;> (intro hb; first | (cases hb; done) | (have ht : true = true := hb; clear ht hb) | (have ht : false = false := hb; clear ht hb) | (simp only [hb]) | skip))
      | (refine ev_guardF _ _ (by (simp only [go_sem, d1, beq_self_eq_true]; rfl)) (by (simp only [go_sem, d1, beq_self_eq_true]; rfl)) ?_ ?_ <;> (intro hb; first | (cases hb; done) | (have ht : true = true := hb; clear ht hb) | (have ht : false = false := hb; clear ht hb) | (simp only [hb]) | skip))
      | (apply ev_step0; (case hr | hσ => (simp only [go_sem, d1, beq_self_eq_true]; try rfl)); (case hc => (first | trivial | exact look_ok (by kernel_rfl) (by kernel_rfl) | decide | (simp only [inB, sliceOk, appendOk, rowsOk]; omega) | (simp [inB, sliceOk, appendOk, rowsOk]; omega))))
      | (apply ev_step; (case hr => (simp only [go_sem, d1, beq_self_eq_true]; try rfl)); (case hσ => (intro g u; simp only [go_sem, d1, beq_self_eq_true]; try rfl)); (case hc => (first | trivial | exact look_ok (by kernel_rfl) (by kernel_rfl) | decide | (simp only [inB, sliceOk, appendOk, rowsOk]; omega) | (simp [inB, sliceOk, appendOk, rowsOk]; omega))); intro g u; (try clear u); (try clear g))
      | fail
    all_goals (refine resR_one T_ok rfl _ (by (simp only [go_sem, resA]; rfl)) (by first | trivial | (simp only [go_sem, resA])) (by first | trivial | (simp only [go_sem])) ?_; simp only [go_sem])
    first | exact LeA.refl _ | (refine LeA.b ?_; simp)
  | false =>
  cases d2 : (decide (b.nulls > 4000000000000000000)) with
  | true =>
    simp only [d1, d2, if_true, if_false, Bool.false_eq_true, reduceCtorEq]
    refine spec_of_awp (fn := Tryd.f16) Tryd.func16 (by kernel_rfl) rfl ?_
    intro w0 C0
    simp only [Tryd.ntmps16, litI, litB, litS, List.length_cons, List.length_nil, Nat.reduceAdd, Nat.reduceSub, List.replicate_succ, List.replicate_zero, List.cons_append, List.nil_append]
    repeat' first
      | refine awp_seq ?_
      | refine awp_block ?_
      | refine awp_skip ?_
      | (refine reg _ (by (simp only [List.map_cons, List.map_nil]; rfl)) rfl ?_; intro K hK)
      | (refine awp_cond _ (by rfl) ?_ ?_ <;> (intro hb; first | (cases hb; done) | (have ht : true = true := hb; clear ht hb) | (have ht : false = false := hb; clear ht hb) | (simp only [hb]) | skip))
      | (refine awp_exit ?_; simp only [thenA, blockA, scopeA, reduceIte, RetQ, Nat.reduceEqDiff])
      | (refine awp_ret ?_; simp only [thenA, blockA, scopeA, RetQ])
      | (refine ev_nil (hK _ ?_); clear hK K)
      | (apply ev_guardU; (case hj | hu | hσ => (simp only [go_sem, d1, d2, beq_self_eq_true]; try rfl)))
      | (refine ev_guardT _ _ (by (simp only [go_sem, d1, d2, beq_self_eq_true]; rfl)) (by (simp only [go_sem, d1, d2, beq_self_eq_true]; rfl)) ?_ ?_ <;> (intro hb; first | (cases hb; done) | (have ht : true = true := hb; clear ht hb) | (have ht : false = false := hb; clear ht hb) | (simp only [hb]) | skip))
      | (refine ev_guardF _ _ (by (simp only [go_sem, d1, d2, beq_self_eq_true]; rfl)) (by (simp only [go_sem, d1, d2, beq_self_eq_true]; rfl)) ?_ ?_ <;> (intro hb; first | (cases hb; done) | (have ht : true = true := hb; clear ht hb) | (have ht : false = false := hb; clear ht hb) | (simp only [hb]) | skip))
      | (apply ev_step0; (case hr | hσ => (simp only [go_sem, d1, d2, beq_self_eq_true]; try rfl)); (case hc => (first | trivial | exact look_ok (by kernel_rfl) (by kernel_rfl) | decide | (simp only [inB, sliceOk, appendOk, rowsOk]; omega) | (simp [inB, sliceOk, appendOk, rowsOk]; omega))))
      | (apply ev_step; (case hr => (simp only [go_sem, d1, d2, beq_self_eq_true]; try rfl)); (case hσ => (intro g u; simp only [go_sem, d1, d2, beq_self_eq_true]; try rfl)); (case hc => (first | trivial | exact look_ok (by kernel_rfl) (by kernel_rfl) | decide | (simp only [inB, sliceOk, appendOk, rowsOk]; omega) | (simp [inB, sliceOk, appendOk, rowsOk]; omega))); intro g u; (try clear u); (try clear g))
      | fail
    all_goals (refine resR_one T_ok rfl _ (by (simp only [go_sem, resA]; rfl)) (by first | trivial | (simp only [go_sem, resA])) (by first | trivial | (simp only [go_sem])) ?_; simp only [go_sem])
    first | exact LeA.refl _ | (refine LeA.b ?_; simp)
  | false =>
  cases d3 : (decide (b.sum > 4000000000000000000)) with
  | true =>
    simp only [d1, d2, d3, if_true, if_false, Bool.false_eq_true, reduceCtorEq]
    refine spec_of_awp (fn := Tryd.f16) Tryd.func16 (by kernel_rfl) rfl ?_
    intro w0 C0
    simp only [Tryd.ntmps16, litI, litB, litS, List.length_cons, List.length_nil, Nat.reduceAdd, Nat.reduceSub, List.replicate_succ, List.replicate_zero, List.cons_append, List.nil_append]
    repeat' first
      | refine awp_seq ?_
      | refine awp_block ?_
      | refine awp_skip ?_
      | (refine reg _ (by (simp only [List.map_cons, List.map_nil]; rfl)) rfl ?_; intro K hK)
      | (refine awp_cond _ (by rfl) ?_ ?_ <;> (intro hb; first | (cases hb; done) | (have ht : true = true := hb; clear ht hb) | (have ht : false = false := hb; clear ht hb) | (simp only [hb]) | skip))
      | (refine awp_exit ?_; simp only [thenA, blockA, scopeA, reduceIte, RetQ, Nat.reduceEqDiff])
      | (refine awp_ret ?_; simp only [thenA, blockA, scopeA, RetQ])
      | (refine ev_nil (hK _ ?_); clear hK K)
      | (apply ev_guardU; (case hj | hu | hσ => (simp only [go_sem, d1, d2, d3, beq_self_eq_true]; try rfl)))
      | (refine ev_guardT _ _ (by (simp only [go_sem, d1, d2, d3, beq_self_eq_true]; rfl)) (by (simp only [go_sem, d1, d2, d3, beq_self_eq_true]; rfl)) ?_ ?_ <;> (intro hb; first | (cases hb; done) | (have ht : true = true := hb; clear ht hb) | (have ht : false = false := hb; clear ht hb) | (simp only [hb]) | skip))
      | (refine ev_guardF _ _ (by (simp only [go_sem, d1, d2, d3, beq_self_eq_true]; rfl)) (by (simp only [go_sem, d1, d2, d3, beq_self_eq_true]; rfl)) ?_ ?_ <;> (intro hb; first | (cases hb; done) | (have ht : true = true := hb; clear ht hb) | (have ht : false = false := hb; clear ht hb) | (simp only [hb]) | skip))
      | (apply ev_step0; (case hr | hσ => (simp only [go_sem, d1, d2, d3, beq_self_eq_true]; try rfl)); (case hc => (first | trivial | exact look_ok (by kernel_rfl) (by kernel_rfl) | decide | (simp only [inB, sliceOk, appendOk, rowsOk]; omega) | (simp [inB, sliceOk, appendOk, rowsOk]; omega))))
      | (apply ev_step; (case hr => (simp only [go_sem, d1, d2, d3, beq_self_eq_true]; try rfl)); (case hσ => (intro g u; simp only [go_sem, d1, d2, d3, beq_self_eq_true]; try rfl)); (case hc => (first | trivial | exact look_ok (by kernel_rfl) (by kernel_rfl) | decide | (simp only [inB, sliceOk, appendOk, rowsOk]; omega) | (simp [inB, sliceOk, appendOk, rowsOk]; omega))); intro g u; (try clear u); (try clear g))
      | fail
    all_goals (refine resR_one T_ok rfl _ (by (simp only [go_sem, resA]; rfl)) (by first | trivial | (simp only [go_sem, resA])) (by first | trivial | (simp only [go_sem])) ?_; simp only [go_sem])
    first | exact LeA.refl _ | (refine LeA.b ?_; simp)
  | false =>
  cases d4 : (decide (b.sum < -4000000000000000000)) with
  | true =>
    simp only [d1, d2, d3, d4, if_true, if_false, Bool.false_eq_true, reduceCtorEq]
    refine spec_of_awp (fn := Tryd.f16) Tryd.func16 (by kernel_rfl) rfl ?_
    intro w0 C0
    simp only [Tryd.ntmps16, litI, litB, litS, List.length_cons, List.length_nil, Nat.reduceAdd, Nat.reduceSub, List.replicate_succ, List.replicate_zero, List.cons_append, List.nil_append]
    repeat' first
      | refine awp_seq ?_
      | refine awp_block ?_
      | refine awp_skip ?_
      | (refine reg _ (by (simp only [List.map_cons, List.map_nil]; rfl)) rfl ?_; intro K hK)
      | (refine awp_cond _ (by rfl) ?_ ?_ <;> (intro hb; first | (cases hb; done) | (have ht : true = true := hb; clear ht hb) | (have ht : false = false := hb; clear ht hb) | (simp only [hb]) | skip))
      | (refine awp_exit ?_; simp only [thenA, blockA, scopeA, reduceIte, RetQ, Nat.reduceEqDiff])
      | (refine awp_ret ?_; simp only [thenA, blockA, scopeA, RetQ])
      | (refine ev_nil (hK _ ?_); clear hK K)
      | (apply ev_guardU; (case hj | hu | hσ => (simp only [go_sem, d1, d2, d3, d4, beq_self_eq_true]; try rfl)))
      | (refine ev_guardT _ _ (by (simp only [go_sem, d1, d2, d3, d4, beq_self_eq_true]; rfl)) (by (simp only [go_sem, d1, d2, d3, d4, beq_self_eq_true]; rfl)) ?_ ?_ <;> (intro hb; first | (cases hb; done) | (have ht : true = true := hb; clear ht hb) | (have ht : false = false := hb; clear ht hb) | (simp only [hb]) | skip))
      | (refine ev_guardF _ _ (by (simp only [go_sem, d1, d2, d3, d4, beq_self_eq_true]; rfl)) (by (simp only [go_sem, d1, d2, d3, d4, beq_self_eq_true]; rfl)) ?_ ?_ <;> (intro hb; first | (cases hb; done) | (have ht : true = true := hb; clear ht hb) | (have ht : false = false := hb; clear ht hb) | (simp only [hb]) | skip))
      | (apply ev_step0; (case hr | hσ => (simp only [go_sem, d1, d2, d3, d4, beq_self_eq_true]; try rfl)); (case hc => (first | trivial | exact look_ok (by kernel_rfl) (by kernel_rfl) | decide | (simp only [inB, sliceOk, appendOk, rowsOk]; omega) | (simp [inB, sliceOk, appendOk, rowsOk]; omega))))
      | (apply ev_step; (case hr => (simp only [go_sem, d1, d2, d3, d4, beq_self_eq_true]; try rfl)); (case hσ => (intro g u; simp only [go_sem, d1, d2, d3, d4, beq_self_eq_true]; try rfl)); (case hc => (first | trivial | exact look_ok (by kernel_rfl) (by kernel_rfl) | decide | (simp only [inB, sliceOk, appendOk, rowsOk]; omega) | (simp [inB, sliceOk, appendOk, rowsOk]; omega))); intro g u; (try clear u); (try clear g))
      | fail
    all_goals (refine resR_one T_ok rfl _ (by (simp only [go_sem, resA]; rfl)) (by first | trivial | (simp only [go_sem, resA])) (by first | trivial | (simp only [go_sem])) ?_; simp only [go_sem])
    first | exact LeA.refl _ | (refine LeA.b ?_; simp)
  | false =>
  cases hh : (b.has) with
  | false =>
    simp only [d1, d2, d3, d4, hh, if_true, if_false, Bool.false_eq_true, reduceCtorEq]
    refine spec_of_awp (fn := Tryd.f16) Tryd.func16 (by kernel_rfl) rfl ?_
    intro w0 C0
    simp only [Tryd.ntmps16, litI, litB, litS, List.length_cons, List.length_nil, Nat.reduceAdd, Nat.reduceSub, List.replicate_succ, List.replicate_zero, List.cons_append, List.nil_append]
    repeat' first
      | refine awp_seq ?_
      | refine awp_block ?_
      | refine awp_skip ?_
      | (refine reg _ (by (simp only [List.map_cons, List.map_nil]; rfl)) rfl ?_; intro K hK)
      | (refine awp_cond _ (by rfl) ?_ ?_ <;> (intro hb; first | (cases hb; done) | (have ht : true = true := hb; clear ht hb) | (have ht : false = false := hb; clear ht hb) | (simp only [hb]) | skip))
      | (refine awp_exit ?_; simp only [thenA, blockA, scopeA, reduceIte, RetQ, Nat.reduceEqDiff])
      | (refine awp_ret ?_; simp only [thenA, blockA, scopeA, RetQ])
      | (refine ev_nil (hK _ ?_); clear hK K)
      | (apply ev_guardU; (case hj | hu | hσ => (simp only [go_sem, d1, d2, d3, d4, hh, beq_self_eq_true]; try rfl)))
      | (refine ev_guardT _ _ (by (simp only [go_sem, d1, d2, d3, d4, hh, beq_self_eq_true]; rfl)) (by (simp only [go_sem, d1, d2, d3, d4, hh, beq_self_eq_true]; rfl)) ?_ ?_ <;> (intro hb; first | (cases hb; done) | (have ht : true = true := hb; clear ht hb) | (have ht : false = false := hb; clear ht hb) | (simp only [hb]) | skip))
      | (refine ev_guardF _ _ (by (simp only [go_sem, d1, d2, d3, d4, hh, beq_self_eq_true]; rfl)) (by (simp only [go_sem, d1, d2, d3, d4, hh, beq_self_eq_true]; rfl)) ?_ ?_ <;> (intro hb; first | (cases hb; done) | (have ht : true = true := hb; clear ht hb) | (have ht : false = false := hb; clear ht hb) | (simp only [hb]) | skip))
      | (apply ev_step0; (case hr | hσ => (simp only [go_sem, d1, d2, d3, d4, hh, beq_self_eq_true]; try rfl)); (case hc => (first | trivial | exact look_ok (by kernel_rfl) (by kernel_rfl) | decide | (simp only [inB, sliceOk, appendOk, rowsOk]; omega) | (simp [inB, sliceOk, appendOk, rowsOk]; omega))))
      | (apply ev_step; (case hr => (simp only [go_sem, d1, d2, d3, d4, hh, beq_self_eq_true]; try rfl)); (case hσ => (intro g u; simp only [go_sem, d1, d2, d3, d4, hh, beq_self_eq_true]; try rfl)); (case hc => (first | trivial | exact look_ok (by kernel_rfl) (by kernel_rfl) | decide | (simp only [inB, sliceOk, appendOk, rowsOk]; omega) | (simp [inB, sliceOk, appendOk, rowsOk]; omega))); intro g u; (try clear u); (try clear g))
      | fail
    all_goals (refine resR_one T_ok rfl _ (by (simp only [go_sem, resA]; rfl)) (by first | trivial | (simp only [go_sem, resA])) (by first | trivial | (simp only [go_sem])) ?_; simp only [go_sem])
    refine LeA.b ?_
    first | rfl | (simp only [Bool.and_assoc]; done)
  | true =>
  cases w1 : (wideV b.lo) with
  | false =>
    rw [w1] at a1
    simp only [d1, d2, d3, d4, hh, w1, if_true, if_false, Bool.false_eq_true, reduceCtorEq]
    refine spec_of_awp (fn := Tryd.f16) Tryd.func16 (by kernel_rfl) rfl ?_
    intro w0 C0
    simp only [Tryd.ntmps16, litI, litB, litS, List.length_cons, List.length_nil, Nat.reduceAdd, Nat.reduceSub, List.replicate_succ, List.replicate_zero, List.cons_append, List.nil_append]
    repeat' first
      | refine awp_seq ?_
      | refine awp_block ?_
      | refine awp_skip ?_
      | (refine reg _ (by (simp only [List.map_cons, List.map_nil]; rfl)) rfl ?_; intro K hK)
      | (refine awp_cond _ (by rfl) ?_ ?_ <;> (intro hb; first | (cases hb; done) | (have ht : true = true := hb; clear ht hb) | (have ht : false = false := hb; clear ht hb) | (simp only [hb]) | skip))
      | (refine awp_exit ?_; simp only [thenA, blockA, scopeA, reduceIte, RetQ, Nat.reduceEqDiff])
      | (refine awp_ret ?_; simp only [thenA, blockA, scopeA, RetQ])
      | (refine ev_nil (hK _ ?_); clear hK K)
      | (apply ev_guardU; (case hj | hu | hσ => (simp only [go_sem, d1, d2, d3, d4, hh, beq_self_eq_true]; try rfl)))
      | (refine ev_guardT _ _ (by (simp only [go_sem, d1, d2, d3, d4, hh, beq_self_eq_true]; rfl)) (by (simp only [go_sem, d1, d2, d3, d4, hh, beq_self_eq_true]; rfl)) ?_ ?_ <;> (intro hb; first | (cases hb; done) | (have ht : true = true := hb; clear ht hb) | (have ht : false = false := hb; clear ht hb) | (simp only [hb]) | skip))
      | (refine ev_guardF _ _ (by (simp only [go_sem, d1, d2, d3, d4, hh, beq_self_eq_true]; rfl)) (by (simp only [go_sem, d1, d2, d3, d4, hh, beq_self_eq_true]; rfl)) ?_ ?_ <;> (intro hb; first | (cases hb; done) | (have ht : true = true := hb; clear ht hb) | (have ht : false = false := hb; clear ht hb) | (simp only [hb]) | skip))
      | (apply ev_call0; (case hys => (simp only [go_sem, d1, d2, d3, d4, hh, beq_self_eq_true]; try rfl)); (case hs => first | exact a1 ..); (case hok | hσ => (simp only [go_sem, d1, d2, d3, d4, hh, beq_self_eq_true]; try rfl)))
      | (apply ev_step0; (case hr | hσ => (simp only [go_sem, d1, d2, d3, d4, hh, beq_self_eq_true]; try rfl)); (case hc => (first | trivial | exact look_ok (by kernel_rfl) (by kernel_rfl) | decide | (simp only [inB, sliceOk, appendOk, rowsOk]; omega) | (simp [inB, sliceOk, appendOk, rowsOk]; omega))))
      | (apply ev_step; (case hr => (simp only [go_sem, d1, d2, d3, d4, hh, beq_self_eq_true]; try rfl)); (case hσ => (intro g u; simp only [go_sem, d1, d2, d3, d4, hh, beq_self_eq_true]; try rfl)); (case hc => (first | trivial | exact look_ok (by kernel_rfl) (by kernel_rfl) | decide | (simp only [inB, sliceOk, appendOk, rowsOk]; omega) | (simp [inB, sliceOk, appendOk, rowsOk]; omega))); intro g u; (try clear u); (try clear g))
      | fail
    all_goals (refine resR_one T_ok rfl _ (by (simp only [go_sem, resA]; rfl)) (by first | trivial | (simp only [go_sem, resA])) (by first | trivial | (simp only [go_sem])) ?_; simp only [go_sem])
    first | exact LeA.refl _ | (refine LeA.b ?_; simp)
  | true =>
  cases w2 : (wideV b.hi) with
  | false =>
    rw [w1] at a1
    rw [w2] at a2
    simp only [d1, d2, d3, d4, hh, w1, w2, if_true, if_false, Bool.false_eq_true, reduceCtorEq]
    refine spec_of_awp (fn := Tryd.f16) Tryd.func16 (by kernel_rfl) rfl ?_
    intro w0 C0
    simp only [Tryd.ntmps16, litI, litB, litS, List.length_cons, List.length_nil, Nat.reduceAdd, Nat.reduceSub, List.replicate_succ, List.replicate_zero, List.cons_append, List.nil_append]
    repeat' first
      | refine awp_seq ?_
      | refine awp_block ?_
      | refine awp_skip ?_
      | (refine reg _ (by (simp only [List.map_cons, List.map_nil]; rfl)) rfl ?_; intro K hK)
      | (refine awp_cond _ (by rfl) ?_ ?_ <;> (intro hb; first | (cases hb; done) | (have ht : true = true := hb; clear ht hb) | (have ht : false = false := hb; clear ht hb) | (simp only [hb]) | skip))
      | (refine awp_exit ?_; simp only [thenA, blockA, scopeA, reduceIte, RetQ, Nat.reduceEqDiff])
      | (refine awp_ret ?_; simp only [thenA, blockA, scopeA, RetQ])
      | (refine ev_nil (hK _ ?_); clear hK K)
      | (apply ev_guardU; (case hj | hu | hσ => (simp only [go_sem, d1, d2, d3, d4, hh, beq_self_eq_true]; try rfl)))
      | (refine ev_guardT _ _ (by (simp only [go_sem, d1, d2, d3, d4, hh, beq_self_eq_true]; rfl)) (by (simp only [go_sem, d1, d2, d3, d4, hh, beq_self_eq_true]; rfl)) ?_ ?_ <;> (intro hb; first | (cases hb; done) | (have ht : true = true := hb; clear ht hb) | (have ht : false = false := hb; clear ht hb) | (simp only [hb]) | skip))
      | (refine ev_guardF _ _ (by (simp only [go_sem, d1, d2, d3, d4, hh, beq_self_eq_true]; rfl)) (by (simp only [go_sem, d1, d2, d3, d4, hh, beq_self_eq_true]; rfl)) ?_ ?_ <;> (intro hb; first | (cases hb; done) | (have ht : true = true := hb; clear ht hb) | (have ht : false = false := hb; clear ht hb) | (simp only [hb]) | skip))
      | (apply ev_call0; (case hys => (simp only [go_sem, d1, d2, d3, d4, hh, beq_self_eq_true]; try rfl)); (case hs => first | exact a1 .. | exact a2 ..); (case hok | hσ => (simp only [go_sem, d1, d2, d3, d4, hh, beq_self_eq_true]; try rfl)))
      | (apply ev_step0; (case hr | hσ => (simp only [go_sem, d1, d2, d3, d4, hh, beq_self_eq_true]; try rfl)); (case hc => (first | trivial | exact look_ok (by kernel_rfl) (by kernel_rfl) | decide | (simp only [inB, sliceOk, appendOk, rowsOk]; omega) | (simp [inB, sliceOk, appendOk, rowsOk]; omega))))
      | (apply ev_step; (case hr => (simp only [go_sem, d1, d2, d3, d4, hh, beq_self_eq_true]; try rfl)); (case hσ => (intro g u; simp only [go_sem, d1, d2, d3, d4, hh, beq_self_eq_true]; try rfl)); (case hc => (first | trivial | exact look_ok (by kernel_rfl) (by kernel_rfl) | decide | (simp only [inB, sliceOk, appendOk, rowsOk]; omega) | (simp [inB, sliceOk, appendOk, rowsOk]; omega))); intro g u; (try clear u); (try clear g))
      | fail
    all_goals (refine resR_one T_ok rfl _ (by (simp only [go_sem, resA]; rfl)) (by first | trivial | (simp only [go_sem, resA])) (by first | trivial | (simp only [go_sem])) ?_; simp only [go_sem])
    first | exact LeA.refl _ | (refine LeA.b ?_; simp)
  | true =>
  cases nl : (isNull b.lo) with
  | true =>
    rw [w1] at a1
    rw [w2] at a2
    rw [nl] at hq
    simp only [d1, d2, d3, d4, hh, w1, w2, nl, if_true, if_false, Bool.false_eq_true, reduceCtorEq]
    refine spec_of_awp (fn := Tryd.f16) Tryd.func16 (by kernel_rfl) rfl ?_
    intro w0 C0
    simp only [Tryd.ntmps16, litI, litB, litS, List.length_cons, List.length_nil, Nat.reduceAdd, Nat.reduceSub, List.replicate_succ, List.replicate_zero, List.cons_append, List.nil_append]
    repeat' first
      | refine awp_seq ?_
      | refine awp_block ?_
      | refine awp_skip ?_
      | (refine reg _ (by (simp only [List.map_cons, List.map_nil]; rfl)) rfl ?_; intro K hK)
      | (refine awp_cond _ (by rfl) ?_ ?_ <;> (intro hb; first | (cases hb; done) | (have ht : true = true := hb; clear ht hb) | (have ht : false = false := hb; clear ht hb) | (simp only [hb]) | skip))
      | (refine awp_exit ?_; simp only [thenA, blockA, scopeA, reduceIte, RetQ, Nat.reduceEqDiff])
      | (refine awp_ret ?_; simp only [thenA, blockA, scopeA, RetQ])
      | (refine ev_nil (hK _ ?_); clear hK K)
      | (apply ev_guardU; (case hj | hu | hσ => (simp only [go_sem, d1, d2, d3, d4, hh, hq, beq_self_eq_true]; try rfl)))
      | (refine ev_guardT _ _ (by (simp only [go_sem, d1, d2, d3, d4, hh, hq, beq_self_eq_true]; rfl)) (by (simp only [go_sem, d1, d2, d3, d4, hh, hq, beq_self_eq_true]; rfl)) ?_ ?_ <;> (intro hb; first | (cases hb; done) | (have ht : true = true := hb; clear ht hb) | (have ht : false = false := hb; clear ht hb) | (simp only [hb]) | skip))
      | (refine ev_guardF _ _ (by (simp only [go_sem, d1, d2, d3, d4, hh, hq, beq_self_eq_true]; rfl)) (by (simp only [go_sem, d1, d2, d3, d4, hh, hq, beq_self_eq_true]; rfl)) ?_ ?_ <;> (intro hb; first | (cases hb; done) | (have ht : true = true := hb; clear ht hb) | (have ht : false = false := hb; clear ht hb) | (simp only [hb]) | skip))
      | (apply ev_call0; (case hys => (simp only [go_sem, d1, d2, d3, d4, hh, hq, beq_self_eq_true]; try rfl)); (case hs => first | exact a1 .. | exact a2 ..); (case hok | hσ => (simp only [go_sem, d1, d2, d3, d4, hh, hq, beq_self_eq_true]; try rfl)))
      | (apply ev_step0; (case hr | hσ => (simp only [go_sem, d1, d2, d3, d4, hh, hq, beq_self_eq_true]; try rfl)); (case hc => (first | trivial | exact look_ok (by kernel_rfl) (by kernel_rfl) | decide | (simp only [inB, sliceOk, appendOk, rowsOk]; omega) | (simp [inB, sliceOk, appendOk, rowsOk]; omega))))
      | (apply ev_step; (case hr => (simp only [go_sem, d1, d2, d3, d4, hh, hq, beq_self_eq_true]; try rfl)); (case hσ => (intro g u; simp only [go_sem, d1, d2, d3, d4, hh, hq, beq_self_eq_true]; try rfl)); (case hc => (first | trivial | exact look_ok (by kernel_rfl) (by kernel_rfl) | decide | (simp only [inB, sliceOk, appendOk, rowsOk]; omega) | (simp [inB, sliceOk, appendOk, rowsOk]; omega))); intro g u; (try clear u); (try clear g))
      | fail
    all_goals (refine resR_one T_ok rfl _ (by (simp only [go_sem, resA]; rfl)) (by first | trivial | (simp only [go_sem, resA])) (by first | trivial | (simp only [go_sem])) ?_; simp only [go_sem])
    first | exact LeA.refl _ | (refine LeA.b ?_; simp)
  | false =>
  cases kk : (b.lo.k == b.hi.k) with
  | false =>
    rw [w1] at a1
    rw [w2] at a2
    rw [nl] at hq
    simp only [d1, d2, d3, d4, hh, w1, w2, nl, kk, if_true, if_false, Bool.false_eq_true, reduceCtorEq]
    refine spec_of_awp (fn := Tryd.f16) Tryd.func16 (by kernel_rfl) rfl ?_
    intro w0 C0
    simp only [Tryd.ntmps16, litI, litB, litS, List.length_cons, List.length_nil, Nat.reduceAdd, Nat.reduceSub, List.replicate_succ, List.replicate_zero, List.cons_append, List.nil_append]
    repeat' first
      | refine awp_seq ?_
      | refine awp_block ?_
      | refine awp_skip ?_
      | (refine reg _ (by (simp only [List.map_cons, List.map_nil]; rfl)) rfl ?_; intro K hK)
      | (refine awp_cond _ (by rfl) ?_ ?_ <;> (intro hb; first | (cases hb; done) | (have ht : true = true := hb; clear ht hb) | (have ht : false = false := hb; clear ht hb) | (simp only [hb]) | skip))
      | (refine awp_exit ?_; simp only [thenA, blockA, scopeA, reduceIte, RetQ, Nat.reduceEqDiff])
      | (refine awp_ret ?_; simp only [thenA, blockA, scopeA, RetQ])
      | (refine ev_nil (hK _ ?_); clear hK K)
      | (apply ev_guardU; (case hj | hu | hσ => (simp only [go_sem, d1, d2, d3, d4, hh, kk, hq, beq_self_eq_true]; try rfl)))
      | (refine ev_guardT _ _ (by (simp only [go_sem, d1, d2, d3, d4, hh, kk, hq, beq_self_eq_true]; rfl)) (by (simp only [go_sem, d1, d2, d3, d4, hh, kk, hq, beq_self_eq_true]; rfl)) ?_ ?_ <;> (intro hb; first | (cases hb; done) | (have ht : true = true := hb; clear ht hb) | (have ht : false = false := hb; clear ht hb) | (simp only [hb]) | skip))
      | (refine ev_guardF _ _ (by (simp only [go_sem, d1, d2, d3, d4, hh, kk, hq, beq_self_eq_true]; rfl)) (by (simp only [go_sem, d1, d2, d3, d4, hh, kk, hq, beq_self_eq_true]; rfl)) ?_ ?_ <;> (intro hb; first | (cases hb; done) | (have ht : true = true := hb; clear ht hb) | (have ht : false = false := hb; clear ht hb) | (simp only [hb]) | skip))
      | (apply ev_call0; (case hys => (simp only [go_sem, d1, d2, d3, d4, hh, kk, hq, beq_self_eq_true]; try rfl)); (case hs => first | exact a1 .. | exact a2 ..); (case hok | hσ => (simp only [go_sem, d1, d2, d3, d4, hh, kk, hq, beq_self_eq_true]; try rfl)))
      | (apply ev_step0; (case hr | hσ => (simp only [go_sem, d1, d2, d3, d4, hh, kk, hq, beq_self_eq_true]; try rfl)); (case hc => (first | trivial | exact look_ok (by kernel_rfl) (by kernel_rfl) | decide | (simp only [inB, sliceOk, appendOk, rowsOk]; omega) | (simp [inB, sliceOk, appendOk, rowsOk]; omega))))
      | (apply ev_step; (case hr => (simp only [go_sem, d1, d2, d3, d4, hh, kk, hq, beq_self_eq_true]; try rfl)); (case hσ => (intro g u; simp only [go_sem, d1, d2, d3, d4, hh, kk, hq, beq_self_eq_true]; try rfl)); (case hc => (first | trivial | exact look_ok (by kernel_rfl) (by kernel_rfl) | decide | (simp only [inB, sliceOk, appendOk, rowsOk]; omega) | (simp [inB, sliceOk, appendOk, rowsOk]; omega))); intro g u; (try clear u); (try clear g))
      | fail
    all_goals (refine resR_one T_ok rfl _ (by (simp only [go_sem, resA]; rfl)) (by first | trivial | (simp only [go_sem, resA])) (by first | trivial | (simp only [go_sem])) ?_; simp only [go_sem])
    first | exact LeA.refl _ | (refine LeA.b ?_; simp)
  | true =>
  cases cc : (decide (cmpV b.lo b.hi ≤ 0)) with
  | false =>
    rw [w1] at a1
    rw [w2] at a2
    rw [nl] at hq
    simp only [d1, d2, d3, d4, hh, w1, w2, nl, kk, cc, if_true, if_false, Bool.false_eq_true, reduceCtorEq]
    refine spec_of_awp (fn := Tryd.f16) Tryd.func16 (by kernel_rfl) rfl ?_
    intro w0 C0
    simp only [Tryd.ntmps16, litI, litB, litS, List.length_cons, List.length_nil, Nat.reduceAdd, Nat.reduceSub, List.replicate_succ, List.replicate_zero, List.cons_append, List.nil_append]
    repeat' first
      | refine awp_seq ?_
      | refine awp_block ?_
      | refine awp_skip ?_
      | (refine reg _ (by (simp only [List.map_cons, List.map_nil]; rfl)) rfl ?_; intro K hK)
      | (refine awp_cond _ (by rfl) ?_ ?_ <;> (intro hb; first | (cases hb; done) | (have ht : true = true := hb; clear ht hb) | (have ht : false = false := hb; clear ht hb) | (simp only [hb]) | skip))
      | (refine awp_exit ?_; simp only [thenA, blockA, scopeA, reduceIte, RetQ, Nat.reduceEqDiff])
      | (refine awp_ret ?_; simp only [thenA, blockA, scopeA, RetQ])
      | (refine ev_nil (hK _ ?_); clear hK K)
      | (apply ev_guardU; (case hj | hu | hσ => (simp only [go_sem, d1, d2, d3, d4, hh, kk, cc, hq, beq_self_eq_true]; try rfl)))
      | (refine ev_guardT _ _ (by (simp only [go_sem, d1, d2, d3, d4, hh, kk, cc, hq, beq_self_eq_true]; rfl)) (by (simp only [go_sem, d1, d2, d3, d4, hh, kk, cc, hq, beq_self_eq_true]; rfl)) ?_ ?_ <;> (intro hb; first | (cases hb; done) | (have ht : true = true := hb; clear ht hb) | (have ht : false = false := hb; clear ht hb) | (simp only [hb]) | skip))
      | (refine ev_guardF _ _ (by (simp only [go_sem, d1, d2, d3, d4, hh, kk, cc, hq, beq_self_eq_true]; rfl)) (by (simp only [go_sem, d1, d2, d3, d4, hh, kk, cc, hq, beq_self_eq_true]; rfl)) ?_ ?_ <;> (intro hb; first | (cases hb; done) | (have ht : true = true := hb; clear ht hb) | (have ht : false = false := hb; clear ht hb) | (simp only [hb]) | skip))
      | (apply ev_call0; (case hys => (simp only [go_sem, d1, d2, d3, d4, hh, kk, cc, hq, beq_self_eq_true]; try rfl)); (case hs => first | exact a1 .. | exact a2 .. | exact a3 ..); (case hok | hσ => (simp only [go_sem, d1, d2, d3, d4, hh, kk, cc, hq, beq_self_eq_true]; try rfl)))
      | (apply ev_step0; (case hr | hσ => (simp only [go_sem, d1, d2, d3, d4, hh, kk, cc, hq, beq_self_eq_true]; try rfl)); (case hc => (first | trivial | exact look_ok (by kernel_rfl) (by kernel_rfl) | decide | (simp only [inB, sliceOk, appendOk, rowsOk]; omega) | (simp [inB, sliceOk, appendOk, rowsOk]; omega))))
      | (apply ev_step; (case hr => (simp only [go_sem, d1, d2, d3, d4, hh, kk, cc, hq, beq_self_eq_true]; try rfl)); (case hσ => (intro g u; simp only [go_sem, d1, d2, d3, d4, hh, kk, cc, hq, beq_self_eq_true]; try rfl)); (case hc => (first | trivial | exact look_ok (by kernel_rfl) (by kernel_rfl) | decide | (simp only [inB, sliceOk, appendOk, rowsOk]; omega) | (simp [inB, sliceOk, appendOk, rowsOk]; omega))); intro g u; (try clear u); (try clear g))
      | fail
    all_goals (refine resR_one T_ok rfl _ (by (simp only [go_sem, resA]; rfl)) (by first | trivial | (simp only [go_sem, resA])) (by first | trivial | (simp only [go_sem])) ?_; simp only [go_sem])
    first | exact LeA.refl _ | (refine LeA.b ?_; simp)
  | true =>
  cases k2 : (b.lo.k == 2) with
  | true =>
    cases s0 : (b.sum == 0) with
    | true =>
      rw [w1] at a1
      rw [w2] at a2
      rw [nl] at hq
      simp only [d1, d2, d3, d4, hh, w1, w2, nl, kk, cc, k2, s0, if_true, if_false, Bool.false_eq_true, reduceCtorEq]
      refine spec_of_awp (fn := Tryd.f16) Tryd.func16 (by kernel_rfl) rfl ?_
      intro w0 C0
      simp only [Tryd.ntmps16, litI, litB, litS, List.length_cons, List.length_nil, Nat.reduceAdd, Nat.reduceSub, List.replicate_succ, List.replicate_zero, List.cons_append, List.nil_append]
      repeat' first
        | refine awp_seq ?_
        | refine awp_block ?_
        | refine awp_skip ?_
        | (refine reg _ (by (simp only [List.map_cons, List.map_nil]; rfl)) rfl ?_; intro K hK)
        | (refine awp_cond _ (by rfl) ?_ ?_ <;> (intro hb; first | (cases hb; done) | (have ht : true = true := hb; clear ht hb) | (have ht : false = false := hb; clear ht hb) | (simp only [hb]) | skip))
        | (refine awp_exit ?_; simp only [thenA, blockA, scopeA, reduceIte, RetQ, Nat.reduceEqDiff])
        | (refine awp_ret ?_; simp only [thenA, blockA, scopeA, RetQ])
        | (refine ev_nil (hK _ ?_); clear hK K)
        | (apply ev_guardU; (case hj | hu | hσ => (simp only [go_sem, d1, d2, d3, d4, hh, kk, cc, k2, s0, hq, beq_self_eq_true]; try rfl)))
        | (refine ev_guardT _ _ (by (simp only [go_sem, d1, d2, d3, d4, hh, kk, cc, k2, s0, hq, beq_self_eq_true]; rfl)) (by (simp only [go_sem, d1, d2, d3, d4, hh, kk, cc, k2, s0, hq, beq_self_eq_true]; rfl)) ?_ ?_ <;> (intro hb; first | (cases hb; done) | (have ht : true = true := hb; clear ht hb) | (have ht : false = false := hb; clear ht hb) | (simp only [hb]) | skip))
        | (refine ev_guardF _ _ (by (simp only [go_sem, d1, d2, d3, d4, hh, kk, cc, k2, s0, hq, beq_self_eq_true]; rfl)) (by (simp only [go_sem, d1, d2, d3, d4, hh, kk, cc, k2, s0, hq, beq_self_eq_true]; rfl)) ?_ ?_ <;> (intro hb; first | (cases hb; done) | (have ht : true = true := hb; clear ht hb) | (have ht : false = false := hb; clear ht hb) | (simp only [hb]) | skip))
        | (apply ev_call0; (case hys => (simp only [go_sem, d1, d2, d3, d4, hh, kk, cc, k2, s0, hq, beq_self_eq_true]; try rfl)); (case hs => first | exact a1 .. | exact a2 .. | exact a3 ..); (case hok | hσ => (simp only [go_sem, d1, d2, d3, d4, hh, kk, cc, k2, s0, hq, beq_self_eq_true]; try rfl)))
        | (apply ev_step0; (case hr | hσ => (simp only [go_sem, d1, d2, d3, d4, hh, kk, cc, k2, s0, hq, beq_self_eq_true]; try rfl)); (case hc => (first | trivial | exact look_ok (by kernel_rfl) (by kernel_rfl) | decide | (simp only [inB, sliceOk, appendOk, rowsOk]; omega) | (simp [inB, sliceOk, appendOk, rowsOk]; omega))))
        | (apply ev_step; (case hr => (simp only [go_sem, d1, d2, d3, d4, hh, kk, cc, k2, s0, hq, beq_self_eq_true]; try rfl)); (case hσ => (intro g u; simp only [go_sem, d1, d2, d3, d4, hh, kk, cc, k2, s0, hq, beq_self_eq_true]; try rfl)); (case hc => (first | trivial | exact look_ok (by kernel_rfl) (by kernel_rfl) | decide | (simp only [inB, sliceOk, appendOk, rowsOk]; omega) | (simp [inB, sliceOk, appendOk, rowsOk]; omega))); intro g u; (try clear u); (try clear g))
        | fail
      all_goals (refine resR_one T_ok rfl _ (by (simp only [go_sem, resA]; rfl)) (by first | trivial | (simp only [go_sem, resA])) (by first | trivial | (simp only [go_sem])) ?_; simp only [go_sem])
      first | exact LeA.refl _ | (refine LeA.b ?_; simp)
    | false =>
      rw [w1] at a1
      rw [w2] at a2
      rw [nl] at hq
      simp only [d1, d2, d3, d4, hh, w1, w2, nl, kk, cc, k2, s0, if_true, if_false, Bool.false_eq_true, reduceCtorEq]
      refine spec_of_awp (fn := Tryd.f16) Tryd.func16 (by kernel_rfl) rfl ?_
      intro w0 C0
      simp only [Tryd.ntmps16, litI, litB, litS, List.length_cons, List.length_nil, Nat.reduceAdd, Nat.reduceSub, List.replicate_succ, List.replicate_zero, List.cons_append, List.nil_append]
      repeat' first
        | refine awp_seq ?_
        | refine awp_block ?_
        | refine awp_skip ?_
        | (refine reg _ (by (simp only [List.map_cons, List.map_nil]; rfl)) rfl ?_; intro K hK)
        | (refine awp_cond _ (by rfl) ?_ ?_ <;> (intro hb; first | (cases hb; done) | (have ht : true = true := hb; clear ht hb) | (have ht : false = false := hb; clear ht hb) | (simp only [hb]) | skip))
        | (refine awp_exit ?_; simp only [thenA, blockA, scopeA, reduceIte, RetQ, Nat.reduceEqDiff])
        | (refine awp_ret ?_; simp only [thenA, blockA, scopeA, RetQ])
        | (refine ev_nil (hK _ ?_); clear hK K)
        | (apply ev_guardU; (case hj | hu | hσ => (simp only [go_sem, d1, d2, d3, d4, hh, kk, cc, k2, s0, hq, beq_self_eq_true]; try rfl)))
        | (refine ev_guardT _ _ (by (simp only [go_sem, d1, d2, d3, d4, hh, kk, cc, k2, s0, hq, beq_self_eq_true]; rfl)) (by (simp only [go_sem, d1, d2, d3, d4, hh, kk, cc, k2, s0, hq, beq_self_eq_true]; rfl)) ?_ ?_ <;> (intro hb; first | (cases hb; done) | (have ht : true = true := hb; clear ht hb) | (have ht : false = false := hb; clear ht hb) | (simp only [hb]) | skip))
        | (refine ev_guardF _ _ (by (simp only [go_sem, d1, d2, d3, d4, hh, kk, cc, k2, s0, hq, beq_self_eq_true]; rfl)) (by (simp only [go_sem, d1, d2, d3, d4, hh, kk, cc, k2, s0, hq, beq_self_eq_true]; rfl)) ?_ ?_ <;> (intro hb; first | (cases hb; done) | (have ht : true = true := hb; clear ht hb) | (have ht : false = false := hb; clear ht hb) | (simp only [hb]) | skip))
        | (apply ev_call0; (case hys => (simp only [go_sem, d1, d2, d3, d4, hh, kk, cc, k2, s0, hq, beq_self_eq_true]; try rfl)); (case hs => first | exact a1 .. | exact a2 .. | exact a3 ..); (case hok | hσ => (simp only [go_sem, d1, d2, d3, d4, hh, kk, cc, k2, s0, hq, beq_self_eq_true]; try rfl)))
        | (apply ev_step0; (case hr | hσ => (simp only [go_sem, d1, d2, d3, d4, hh, kk, cc, k2, s0, hq, beq_self_eq_true]; try rfl)); (case hc => (first | trivial | exact look_ok (by kernel_rfl) (by kernel_rfl) | decide | (simp only [inB, sliceOk, appendOk, rowsOk]; omega) | (simp [inB, sliceOk, appendOk, rowsOk]; omega))))
        | (apply ev_step; (case hr => (simp only [go_sem, d1, d2, d3, d4, hh, kk, cc, k2, s0, hq, beq_self_eq_true]; try rfl)); (case hσ => (intro g u; simp only [go_sem, d1, d2, d3, d4, hh, kk, cc, k2, s0, hq, beq_self_eq_true]; try rfl)); (case hc => (first | trivial | exact look_ok (by kernel_rfl) (by kernel_rfl) | decide | (simp only [inB, sliceOk, appendOk, rowsOk]; omega) | (simp [inB, sliceOk, appendOk, rowsOk]; omega))); intro g u; (try clear u); (try clear g))
        | fail
      all_goals (refine resR_one T_ok rfl _ (by (simp only [go_sem, resA]; rfl)) (by first | trivial | (simp only [go_sem, resA])) (by first | trivial | (simp only [go_sem])) ?_; simp only [go_sem])
      first | exact LeA.refl _ | (refine LeA.b ?_; simp)
  | false =>
    cases s0 : (b.sum == 0) with
    | true =>
      rw [w1] at a1
      rw [w2] at a2
      rw [nl] at hq
      simp only [d1, d2, d3, d4, hh, w1, w2, nl, kk, cc, k2, s0, if_true, if_false, Bool.false_eq_true, reduceCtorEq]
      refine spec_of_awp (fn := Tryd.f16) Tryd.func16 (by kernel_rfl) rfl ?_
      intro w0 C0
      simp only [Tryd.ntmps16, litI, litB, litS, List.length_cons, List.length_nil, Nat.reduceAdd, Nat.reduceSub, List.replicate_succ, List.replicate_zero, List.cons_append, List.nil_append]
      repeat' first
        | refine awp_seq ?_
        | refine awp_block ?_
        | refine awp_skip ?_
        | (refine reg _ (by (simp only [List.map_cons, List.map_nil]; rfl)) rfl ?_; intro K hK)
        | (refine awp_cond _ (by rfl) ?_ ?_ <;> (intro hb; first | (cases hb; done) | (have ht : true = true := hb; clear ht hb) | (have ht : false = false := hb; clear ht hb) | (simp only [hb]) | skip))
        | (refine awp_exit ?_; simp only [thenA, blockA, scopeA, reduceIte, RetQ, Nat.reduceEqDiff])
        | (refine awp_ret ?_; simp only [thenA, blockA, scopeA, RetQ])
        | (refine ev_nil (hK _ ?_); clear hK K)
        | (apply ev_guardU; (case hj | hu | hσ => (simp only [go_sem, d1, d2, d3, d4, hh, kk, cc, k2, s0, hq, beq_self_eq_true]; try rfl)))
        | (refine ev_guardT _ _ (by (simp only [go_sem, d1, d2, d3, d4, hh, kk, cc, k2, s0, hq, beq_self_eq_true]; rfl)) (by (simp only [go_sem, d1, d2, d3, d4, hh, kk, cc, k2, s0, hq, beq_self_eq_true]; rfl)) ?_ ?_ <;> (intro hb; first | (cases hb; done) | (have ht : true = true := hb; clear ht hb) | (have ht : false = false := hb; clear ht hb) | (simp only [hb]) | skip))
        | (refine ev_guardF _ _ (by (simp only [go_sem, d1, d2, d3, d4, hh, kk, cc, k2, s0, hq, beq_self_eq_true]; rfl)) (by (simp only [go_sem, d1, d2, d3, d4, hh, kk, cc, k2, s0, hq, beq_self_eq_true]; rfl)) ?_ ?_ <;> (intro hb; first | (cases hb; done) | (have ht : true = true := hb; clear ht hb) | (have ht : false = false := hb; clear ht hb) | (simp only [hb]) | skip))
        | (apply ev_call0; (case hys => (simp only [go_sem, d1, d2, d3, d4, hh, kk, cc, k2, s0, hq, beq_self_eq_true]; try rfl)); (case hs => first | exact a1 .. | exact a2 .. | exact a3 ..); (case hok | hσ => (simp only [go_sem, d1, d2, d3, d4, hh, kk, cc, k2, s0, hq, beq_self_eq_true]; try rfl)))
        | (apply ev_step0; (case hr | hσ => (simp only [go_sem, d1, d2, d3, d4, hh, kk, cc, k2, s0, hq, beq_self_eq_true]; try rfl)); (case hc => (first | trivial | exact look_ok (by kernel_rfl) (by kernel_rfl) | decide | (simp only [inB, sliceOk, appendOk, rowsOk]; omega) | (simp [inB, sliceOk, appendOk, rowsOk]; omega))))
        | (apply ev_step; (case hr => (simp only [go_sem, d1, d2, d3, d4, hh, kk, cc, k2, s0, hq, beq_self_eq_true]; try rfl)); (case hσ => (intro g u; simp only [go_sem, d1, d2, d3, d4, hh, kk, cc, k2, s0, hq, beq_self_eq_true]; try rfl)); (case hc => (first | trivial | exact look_ok (by kernel_rfl) (by kernel_rfl) | decide | (simp only [inB, sliceOk, appendOk, rowsOk]; omega) | (simp [inB, sliceOk, appendOk, rowsOk]; omega))); intro g u; (try clear u); (try clear g))
        | fail
      all_goals (refine resR_one T_ok rfl _ (by (simp only [go_sem, resA]; rfl)) (by first | trivial | (simp only [go_sem, resA])) (by first | trivial | (simp only [go_sem])) ?_; simp only [go_sem])
      first | exact LeA.refl _ | (refine LeA.b ?_; simp)
    | false =>
      rw [w1] at a1
      rw [w2] at a2
      rw [nl] at hq
      simp only [d1, d2, d3, d4, hh, w1, w2, nl, kk, cc, k2, s0, if_true, if_false, Bool.false_eq_true, reduceCtorEq]
      refine spec_of_awp (fn := Tryd.f16) Tryd.func16 (by kernel_rfl) rfl ?_
      intro w0 C0
      simp only [Tryd.ntmps16, litI, litB, litS, List.length_cons, List.length_nil, Nat.reduceAdd, Nat.reduceSub, List.replicate_succ, List.replicate_zero, List.cons_append, List.nil_append]
      repeat' first
        | refine awp_seq ?_
        | refine awp_block ?_
        | refine awp_skip ?_
        | (refine reg _ (by (simp only [List.map_cons, List.map_nil]; rfl)) rfl ?_; intro K hK)
        | (refine awp_cond _ (by rfl) ?_ ?_ <;> (intro hb; first | (cases hb; done) | (have ht : true = true := hb; clear ht hb) | (have ht : false = false := hb; clear ht hb) | (simp only [hb]) | skip))
        | (refine awp_exit ?_; simp only [thenA, blockA, scopeA, reduceIte, RetQ, Nat.reduceEqDiff])
        | (refine awp_ret ?_; simp only [thenA, blockA, scopeA, RetQ])
        | (refine ev_nil (hK _ ?_); clear hK K)
        | (apply ev_guardU; (case hj | hu | hσ => (simp only [go_sem, d1, d2, d3, d4, hh, kk, cc, k2, s0, hq, beq_self_eq_true]; try rfl)))
        | (refine ev_guardT _ _ (by (simp only [go_sem, d1, d2, d3, d4, hh, kk, cc, k2, s0, hq, beq_self_eq_true]; rfl)) (by (simp only [go_sem, d1, d2, d3, d4, hh, kk, cc, k2, s0, hq, beq_self_eq_true]; rfl)) ?_ ?_ <;> (intro hb; first | (cases hb; done) | (have ht : true = true := hb; clear ht hb) | (have ht : false = false := hb; clear ht hb) | (simp only [hb]) | skip))
        | (refine ev_guardF _ _ (by (simp only [go_sem, d1, d2, d3, d4, hh, kk, cc, k2, s0, hq, beq_self_eq_true]; rfl)) (by (simp only [go_sem, d1, d2, d3, d4, hh, kk, cc, k2, s0, hq, beq_self_eq_true]; rfl)) ?_ ?_ <;> (intro hb; first | (cases hb; done) | (have ht : true = true := hb; clear ht hb) | (have ht : false = false := hb; clear ht hb) | (simp only [hb]) | skip))
        | (apply ev_call0; (case hys => (simp only [go_sem, d1, d2, d3, d4, hh, kk, cc, k2, s0, hq, beq_self_eq_true]; try rfl)); (case hs => first | exact a1 .. | exact a2 .. | exact a3 ..); (case hok | hσ => (simp only [go_sem, d1, d2, d3, d4, hh, kk, cc, k2, s0, hq, beq_self_eq_true]; try rfl)))
        | (apply ev_step0; (case hr | hσ => (simp only [go_sem, d1, d2, d3, d4, hh, kk, cc, k2, s0, hq, beq_self_eq_true]; try rfl)); (case hc => (first | trivial | exact look_ok (by kernel_rfl) (by kernel_rfl) | decide | (simp only [inB, sliceOk, appendOk, rowsOk]; omega) | (simp [inB, sliceOk, appendOk, rowsOk]; omega))))
        | (apply ev_step; (case hr => (simp only [go_sem, d1, d2, d3, d4, hh, kk, cc, k2, s0, hq, beq_self_eq_true]; try rfl)); (case hσ => (intro g u; simp only [go_sem, d1, d2, d3, d4, hh, kk, cc, k2, s0, hq, beq_self_eq_true]; try rfl)); (case hc => (first | trivial | exact look_ok (by kernel_rfl) (by kernel_rfl) | decide | (simp only [inB, sliceOk, appendOk, rowsOk]; omega) | (simp [inB, sliceOk, appendOk, rowsOk]; omega))); intro g u; (try clear u); (try clear g))
        | fail
      all_goals (refine resR_one T_ok rfl _ (by (simp only [go_sem, resA]; rfl)) (by first | trivial | (simp only [go_sem, resA])) (by first | trivial | (simp only [go_sem])) ?_; simp only [go_sem])
      first | exact LeA.refl _ | (refine LeA.b ?_; simp)
end
end Go.Proofs.YtopigomfhggkoaaDoor.A
