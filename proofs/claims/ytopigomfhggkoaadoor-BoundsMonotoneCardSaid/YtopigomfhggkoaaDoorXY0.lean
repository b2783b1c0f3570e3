/- The ground of the walks: regions of this program. Comparisons; small values. Comparisons of values. Values. Words, values of types. Which values are wide: the walks. Sums: the walks. Bounds of values: the walk of Of. -/
import Derived.Test.YtopigomfhggkoaaDoorXT
namespace Go.Proofs.YtopigomfhggkoaaDoor.A
section
set_option linter.unusedVariables false
set_option linter.unusedSimpArgs false
open Go.RowKit

theorem mixed : Tryd.prog.follows .mixedOrders = true := by kernel_rfl
theorem reg {w0 : World} {C0 M : Nat → Prop} {rd : Option Nat} {df : List Deferred} {σ : St} (ds : List (Option Nat)) {id : Nat} {Q : Exit → St → Prop} {l : List Oper} (hd : l.map (·.dst) = ds) (hok : (l.all opersOk = true)) (h : ∀ K : St → Prop, (∀ s, Q .normal s → K s) → evOps Tryd.prog T (gdL ds) l σ K) : AWp ⟨Tryd.prog, w0, C0, M, rd, df⟩ (.region id l.toArray false) Q σ :=
  awp_region (E := ⟨Tryd.prog, w0, C0, M, rd, df⟩) T T_ok hok (by rw [gdOf_L, hd]; exact h)
theorem regD {w0 : World} {C0 M : Nat → Prop} {rd : Option Nat} {df : List Deferred} {σ : St} (ds : List (Option Nat)) {id : Nat} {Q : Exit → St → Prop} {l : List Oper} (hd : l.map (·.dst) = ds) (hok : (l.all opersOk = true)) (A : List LogH) (h : ∀ K : St → Prop, (∀ s, Q .normal s → K s) → evD Tryd.prog T (gdL ds) l A σ K)
    (hB : lexD l.toArray A l.length 0 (Array.replicate l.length false) = true) : AWp ⟨Tryd.prog, w0, C0, M, rd, df⟩ (.region id l.toArray true) Q σ :=
  awp_draw (E := ⟨Tryd.prog, w0, C0, M, rd, df⟩) T T_ok mixed hok A (by rw [gdOf_L, hd]; exact h) hB
attribute [go_sem] Int.reduceBEq Nat.reduceAdd Nat.reduceSub Nat.reduceMul Nat.reduceLT Nat.reduceLeDiff Nat.reduceEqDiff Nat.reduceBEq reduceIte reduceCtorEq e_step_none e_slotU e_slotB e_move e_assign e_pick e_unOp e_binOp e_alloc e_box e_build e_buildSlice e_load e_store e_fieldAddr e_field e_indexAddr e_index e_slice e_sliceM e_makeSlice e_makeFunc e_convert e_extract e_nilCheck e_lookup e_look e_lookS1 e_lookS0 e_find0 e_find1 e_findT e_findF e_sameI e_sameTT e_sameTF e_sameFT e_sameFF e_commaT e_commaF e_valAgg e_valFn e_valI e_len e_append e_max e_min e_call e_callV e_fn e_cap_ptr e_cap_lit e_cap_sl e_cap_fn e_fnOf_lit e_fnOf_clo e_fnOf_fn e_flat_mp e_cap_mp e_ev_global e_flat_fn e_clo e_ev_tmp e_ev_int e_ev_bool e_ev_string e_ev_slice e_ev_nilFunc e_ev_nilIface e_ev_pointer e_ev_agg e_ev_func e_pickT e_pickF e_not e_neg e_add e_sub e_mul e_quo e_rem e_eql e_neq e_lss e_leq e_gtr e_geq e_shl e_shr e_and e_or e_xor e_andNot e_beq e_bne e_sadd e_seql e_sneq e_b2_d e_b2_nil e_b2_nnil e_b2_agg e_lits_nil e_lits_cons e_litC e_eqR e_eqArr e_eqOnes_nil e_eqOnes_cons e_eqO_e e_eqO_n e_eqV4 e_eqV3 e_eqV2 e_eqV1 e_eqFs_nil e_eqFs_cons e_and2 e_eq1 e_eqL_i e_eqL_s e_eqL_b e_allocR e_boxR e_box_agg e_box_d e_box_own e_box_clo e_one_nil e_one_d e_one_own e_one_clo e_one_ptr e_cells_agg e_cells_d e_cells_own e_cells_clo e_cells_ptr e_ob_own e_ob_ptr e_ob_elo e_ob_d e_ob_el e_ob_agg e_load_box e_load_fzb e_load_el e_load_elo e_storeX_ptr e_storeX_d e_storeX_own e_storeX_agg e_storeX_el e_storeC' e_notIn_nil e_notIn_cons e_store_box e_storeB e_store_elo e_store_elo_agg e_storeE e_fa_ptr e_fa_el e_fa_elo e_faR e_fd e_fdR e_ia_d e_ia_row e_ia_fz e_ia_ptr e_ia_el e_ix_s e_ix_a e_len_s e_len_nil e_len_d e_len_row e_len_fz e_conv_i e_conv_s e_conv_own e_conv_sl e_extr e_maxR e_minR e_nil_ptr e_nil_el e_nil_elo e_rows_nil e_rows_d e_rows_row e_rows_fz e_rok_nil e_rok_d e_rok_row e_rok_fz e_app_row e_appR e_app_nil e_appN e_make e_bnd_none e_bnd_some e_optmap_none e_optmap_some e_slR e_slRe e_sl_s e_sl_d e_slM_d e_sl_nil e_sl_row e_sl_fz e_fill_nil e_fill_cons e_fill1 e_placeS e_plS e_placeE e_buildO e_build1 e_build2 e_build3 e_bindD e_bs e_bsR e_allD_nil e_allD_cons e_allD_el e_allD_clo e_allD2 e_allD1 e_chunk0 e_chunkS e_clP_nil e_clP_cons e_cl_d e_cl_any e_cl_el e_cl_agg e_cl_tup e_cl_clo e_cl_own e_clOwn_row e_clOwn_fz e_cl_ptr e_clPtr_box e_clBox e_clPtr_fzb e_clL_nil e_clL_cons e_ok_d e_ok_any e_ok_el e_ok_agg e_ok_tup e_ok_clo e_ok_own e_okOwn_row e_okOwn_fz e_ok_ptr e_okPtr_box e_okPtr_fzb e_okL_nil e_okL_cons e_ids_d e_ids_any e_ids_el e_ids_own e_ids_ptr e_ids_agg e_ids_tup e_ids_clo e_idsL_nil e_idsL_cons e_frz_nil e_frz_cons e_frz_row e_frz_fz e_frz_fzb e_frz_box e_frzB e_flat_lit e_flat_sl e_flat_agg e_flat_tup e_flat_any e_flat_clo e_flatL_nil e_flatL_cons e_new_lit e_new_agg e_new_tup e_new_own e_newOwn_row e_newL_nil e_newL_cons e_objD e_setMany e_takeA e_zerosA e_gdL e_idsG e_idsOp e_callV' e_callN' e_callF' e_o_move e_o_assign e_o_pick e_o_unOp
attribute [go_sem] e_o_binOp e_o_alloc e_o_box e_o_build e_o_buildSlice e_o_load e_o_store e_o_fieldAddr e_o_field e_o_indexAddr e_o_index e_o_slice0 e_o_slice1 e_o_slice2 e_o_slice3 e_o_sliceM e_o_makeSlice e_o_makeFunc e_o_convert e_o_extract e_o_nilCheck e_o_lookup e_o_bcall e_o_vcall litI litB litS List.map_cons List.map_nil List.getD_cons_zero List.getD_cons_succ List.getD_nil List.getElem?_cons_zero List.getElem?_cons_succ List.getElem?_nil Option.getD_some Option.getD_none Option.map_some Option.map_none List.length_cons List.length_nil List.all_cons List.all_nil Bool.and_true Bool.true_and and_true true_and and_self List.take_zero List.take_succ_cons List.drop_zero List.drop_succ_cons List.nil_append List.cons_append List.append_nil List.replicate_succ List.replicate_zero List.flatten_cons List.flatten_nil Nat.zero_add Nat.add_zero Nat.mul_one Nat.zero_mul Nat.one_mul Nat.mul_zero List.set_cons_zero List.set_cons_succ List.foldl_cons List.foldl_nil appendOk rowsOk inB sliceOk cutRows mtake mdrop List.length_append List.length_take List.length_drop if_true if_false or_false or_true true_or Bool.not_true Bool.not_false Bool.false_eq_true List.length_map Int.toNat_natCast Int.toNat_zero Int.toNat_one eq_self St.after St.put applyEff R0 globA globF globs T1 T2 T3 T4 T5 T6 T7 T9 T10 T15 T22 T23 T24 T26 T28 T29 T31 T33 T35 T37 T39 T40 T42 T44 T49 T51 T58 T67 T69 T71 T76 T80 T84 T87 T90 T95 T100 T103 T108 T109 T111 T112 T113 T124 T128 T129 ti1 ti2 ti3 ti4 ti5 ti6 ti7 ti9 ti10 ti15 ti22 ti23 ti24 ti26 ti28 ti29 ti31 ti33 ti35 ti37 ti39 ti40 ti42 ti44 ti49 ti51 ti58 ti67 ti69 ti71 ti76 ti80 ti84 ti87 ti90 ti95 ti100 ti103 ti108 ti109 ti111 ti112 ti113 ti124 ti128 ti129

theorem hcA {c : Prop} (h : c := by first | trivial | exact look_ok (by kernel_rfl) (by kernel_rfl) | decide | (simp only [inB, sliceOk, appendOk, rowsOk]; omega) | (simp [inB, sliceOk, appendOk, rowsOk]; omega)) : c := h
theorem wkA {E : Env} {t t' : List AV} {o o' : List AObj} (h : LeL t t' := by (repeat' first | exact trivial | exact LeA.refl _ | exact LeA.any _ | exact LeO.refl _ | exact LeO.no _ | exact LeA.nil _ | exact LeA.nilOwn _ | exact LeO.nil _ _ _ | refine LeO.box ?_ | (refine LeA.i ?_; (first | rfl | (push_cast; rfl) | (rw [wrap_id (by omega)]; push_cast; omega) | (simp [wrap_id]; omega))) | refine ⟨?_, ?_⟩)) (ho : LeOL o o' := by (repeat' first | exact trivial | exact LeA.refl _ | exact LeA.any _ | exact LeO.refl _ | exact LeO.no _ | exact LeA.nil _ | exact LeA.nilOwn _ | exact LeO.nil _ _ _ | refine LeO.box ?_ | (refine LeA.i ?_; (first | rfl | (push_cast; rfl) | (rw [wrap_id (by omega)]; push_cast; omega) | (simp [wrap_id]; omega))) | refine ⟨?_, ?_⟩)) : Wk E ⟨t, o⟩ ⟨t', o'⟩ := Wk.mk h ho
theorem resR_oneA {P : Program} {fn : Func} {rv : ResultVar} {r y : AV} {σ : St} (hr : LeA (cl σ.o y) r) (hT : TabOk P T := by exact T_ok) (hl : fn.results = #[rv] := by rfl) (hy : (resA T σ rv).av 0 .nilFunc = y := by (simp only [go_sem, resA]; rfl))
    (hc : (resA T σ rv).cond := by first | trivial | (simp only [go_sem, resA])) (hk : clOk σ.o y := by first | trivial | (simp only [go_sem])) : resR P fn r σ := resR_one hT hl y hy hc hk hr
end
section
set_option linter.unusedVariables false
set_option linter.unusedSimpArgs false
open Go.RowKit
attribute [local irreducible] Spec SpecF SpecN
attribute [local irreducible] AWp evOps evD
def cmpI (a b : Int) : Int := if a < b then -1 else if b < a then 1 else 0
theorem f58_spec (a b : Int) : Spec Tryd.prog 58 [litI .i64 a, litI .i64 b] (litI .i64 (cmpI a b)) := by
  refine spec_of_awp (fn := Tryd.f58) Tryd.func58 (by kernel_rfl) rfl ?_
  intro w0 C0
  simp only [Tryd.ntmps58, litI, litB, litS, List.length_cons, List.length_nil, Nat.reduceAdd, Nat.reduceSub, List.replicate_succ, List.replicate_zero, List.cons_append, List.nil_append]
  repeat' first
    | refine awp_seq ?_
    | refine awp_block ?_
    | refine awp_skip ?_
    | (refine reg _ (by (simp only [List.map_cons, List.map_nil]; rfl)) rfl ?_; intro K hK)
    | ((refine awp_cond _ (by rfl) ?_ ?_) <;> (intro hb; first | (cases hb; done) | (have ht : true = true := hb; clear ht hb) | (have ht : false = false := hb; clear ht hb) | (simp only [hb]) | skip))
    | (refine awp_exit ?_; simp only [thenA, blockA, scopeA, reduceIte, RetQ, Nat.reduceEqDiff])
    | (refine awp_ret ?_; simp only [thenA, blockA, scopeA, RetQ])
    | (refine ev_nil (hK _ ?_); clear hK K)
    | (apply ev_step0; (case hr | hσ => (simp only [go_sem]; try rfl)); (case hc => exact hcA))
    | (apply ev_step; (case hr => (simp only [go_sem]; try rfl)); (case hσ => (intro g u; simp only [go_sem]; try rfl)); (case hc => exact hcA); intro g u; (try clear u); (try clear g))
    | fail
  all_goals (refine resR_oneA ?_; simp only [go_sem])
  all_goals (refine LeA.i ?_; simp_all [cmpI]; try omega)
theorem f77_spec (a : Int) : Spec Tryd.prog 77 [litI .i64 a] (litB false) := by
  refine spec_of_awp (fn := Tryd.f77) Tryd.func77 (by kernel_rfl) rfl ?_
  intro w0 C0
  simp only [Tryd.ntmps77, litI, litB, litS, List.length_cons, List.length_nil, Nat.reduceAdd, Nat.reduceSub, List.replicate_succ, List.replicate_zero, List.cons_append, List.nil_append]
  repeat' first
    | refine awp_seq ?_
    | (refine reg _ (by (simp only [List.map_cons, List.map_nil]; rfl)) rfl ?_; intro K hK)
    | (refine awp_ret ?_; simp only [thenA, blockA, scopeA, RetQ])
    | (refine ev_nil (hK _ ?_); clear hK K)
    | (apply ev_step0; (case hr | hσ => (simp only [go_sem]; try rfl)); (case hc => exact hcA))
    | (apply ev_step; (case hr => (simp only [go_sem]; try rfl)); (case hσ => (intro g u; simp only [go_sem]; try rfl)); (case hc => exact hcA); intro g u; (try clear u); (try clear g))
    | fail
  all_goals (refine resR_oneA ?_; simp only [go_sem])
  all_goals (refine LeA.b ?_; simp_all)
theorem f62_spec (a b : Int) : Spec Tryd.prog 62 [litI .i64 a, litI .i64 b] (litI .i64 (cmpI a b)) := by
  refine spec_of_awp (fn := Tryd.f62) Tryd.func62 (by kernel_rfl) rfl ?_
  intro w0 C0
  simp only [Tryd.ntmps62, litI, litB, litS, List.length_cons, List.length_nil, Nat.reduceAdd, Nat.reduceSub, List.replicate_succ, List.replicate_zero, List.cons_append, List.nil_append]
  repeat' first
    | refine awp_seq ?_
    | refine awp_block ?_
    | refine awp_skip ?_
    | (refine reg _ (by (simp only [List.map_cons, List.map_nil]; rfl)) rfl ?_; intro K hK)
    | ((refine awp_cond _ (by rfl) ?_ ?_) <;> (intro hb; first | (cases hb; done) | (have ht : true = true := hb; clear ht hb) | (have ht : false = false := hb; clear ht hb) | (simp only [hb]) | skip))
    | (refine awp_exit ?_; simp only [thenA, blockA, scopeA, reduceIte, RetQ, Nat.reduceEqDiff])
    | (refine awp_ret ?_; simp only [thenA, blockA, scopeA, RetQ])
    | (refine ev_nil (hK _ ?_); clear hK K)
    | (apply ev_call0; (case hys => (simp only [go_sem]; try rfl)); (case hs => first | exact f77_spec ..); (case hok | hσ => (simp only [go_sem]; try rfl)))
    | (apply ev_step0; (case hr | hσ => (simp only [go_sem]; try rfl)); (case hc => exact hcA))
    | (apply ev_step; (case hr => (simp only [go_sem]; try rfl)); (case hσ => (intro g u; simp only [go_sem]; try rfl)); (case hc => exact hcA); intro g u; (try clear u); (try clear g))
    | fail
  all_goals (refine resR_oneA ?_; simp only [go_sem])
  all_goals (refine LeA.i ?_; simp_all [cmpI]; try omega)
theorem f78_spec (a : ByteArray) : Spec Tryd.prog 78 [litS a] (litB false) := by
  refine spec_of_awp (fn := Tryd.f78) Tryd.func78 (by kernel_rfl) rfl ?_
  intro w0 C0
  simp only [Tryd.ntmps78, litI, litB, litS, List.length_cons, List.length_nil, Nat.reduceAdd, Nat.reduceSub, List.replicate_succ, List.replicate_zero, List.cons_append, List.nil_append]
  repeat' first
    | refine awp_seq ?_
    | (refine reg _ (by (simp only [List.map_cons, List.map_nil]; rfl)) rfl ?_; intro K hK)
    | (refine awp_ret ?_; simp only [thenA, blockA, scopeA, RetQ])
    | (refine ev_nil (hK _ ?_); clear hK K)
    | (apply ev_step0; (case hr | hσ => (simp only [go_sem]; try rfl)); (case hc => exact hcA))
    | (apply ev_step; (case hr => (simp only [go_sem]; try rfl)); (case hσ => (intro g u; simp only [go_sem]; try rfl)); (case hc => exact hcA); intro g u; (try clear u); (try clear g))
    | fail
  all_goals (refine resR_oneA ?_; simp only [go_sem])
  all_goals (refine LeA.b ?_; simp_all)
def cmpB (a b : ByteArray) : Int := if Op.bytesLess a.toList b.toList = true then -1 else if (a.toList == b.toList) = true then 0 else 1
theorem f63_spec (a b : ByteArray) : Spec Tryd.prog 63 [litS a, litS b] (litI .i64 (cmpB a b)) := by
  refine spec_of_awp (fn := Tryd.f63) Tryd.func63 (by kernel_rfl) rfl ?_
  intro w0 C0
  simp only [Tryd.ntmps63, litI, litB, litS, List.length_cons, List.length_nil, Nat.reduceAdd, Nat.reduceSub, List.replicate_succ, List.replicate_zero, List.cons_append, List.nil_append]
  repeat' first
    | refine awp_seq ?_
    | refine awp_block ?_
    | refine awp_skip ?_
    | (refine reg _ (by (simp only [List.map_cons, List.map_nil]; rfl)) rfl ?_; intro K hK)
    | ((refine awp_cond _ (by rfl) ?_ ?_) <;> (intro hb; first | (cases hb; done) | (have ht : true = true := hb; clear ht hb) | (have ht : false = false := hb; clear ht hb) | (simp only [hb]) | skip))
    | (refine awp_exit ?_; simp only [thenA, blockA, scopeA, reduceIte, RetQ, Nat.reduceEqDiff])
    | (refine awp_ret ?_; simp only [thenA, blockA, scopeA, RetQ])
    | (refine ev_nil (hK _ ?_); clear hK K)
    | (apply ev_call0; (case hys => (simp only [go_sem]; try rfl)); (case hs => first | exact f78_spec ..); (case hok | hσ => (simp only [go_sem]; try rfl)))
    | (apply ev_step0; (case hr | hσ => (simp only [go_sem]; try rfl)); (case hc => exact hcA))
    | (apply ev_step; (case hr => (simp only [go_sem]; try rfl)); (case hσ => (intro g u; simp only [go_sem]; try rfl)); (case hc => exact hcA); intro g u; (try clear u); (try clear g))
    | fail
  all_goals (refine resR_oneA ?_; simp only [go_sem])
  all_goals (refine LeA.i ?_; simp_all [cmpB])
/-- A value. -/
structure Vl where
  k : Int
  i : Int
  s : ByteArray
abbrev vl (v : Vl) : List AV := [litI .i64 v.k, litI .i64 v.i, litS v.s]
abbrev vlD (v : Vl) : List Dat := [.lit (.int .i64 v.k), .lit (.int .i64 v.i), .lit (.string v.s)]
abbrev vls (l : List Vl) : Dat := .sl 3 (l.map vlD)
abbrev nullV : Vl := ⟨0, 0, ⟨#[]⟩⟩
theorem f27_spec : Spec Tryd.prog 27 [] (.agg (vl nullV)) := by
  refine spec_of_awp (fn := Tryd.f27) Tryd.func27 (by kernel_rfl) rfl ?_
  intro w0 C0
  simp only [Tryd.ntmps27, litI, litB, litS, List.length_cons, List.length_nil, Nat.reduceAdd, Nat.reduceSub, List.replicate_succ, List.replicate_zero, List.cons_append, List.nil_append]
  repeat' first
    | refine awp_seq ?_
    | (refine reg _ (by (simp only [List.map_cons, List.map_nil]; rfl)) rfl ?_; intro K hK)
    | (refine awp_ret ?_; simp only [thenA, blockA, scopeA, RetQ])
    | (refine ev_nil (hK _ ?_); clear hK K)
    | (apply ev_step0; (case hr | hσ => (simp only [go_sem]; try rfl)); (case hc => exact hcA))
    | (apply ev_step; (case hr => (simp only [go_sem]; try rfl)); (case hσ => (intro g u; simp only [go_sem]; try rfl)); (case hc => exact hcA); intro g u; (try clear u); (try clear g))
    | fail
  all_goals (refine resR_oneA ?_; simp only [go_sem])
  exact LeA.refl _
theorem f28_spec (n : Int) : Spec Tryd.prog 28 [litI .i64 n] (.agg (vl ⟨2, n, ⟨#[]⟩⟩)) := by
  refine spec_of_awp (fn := Tryd.f28) Tryd.func28 (by kernel_rfl) rfl ?_
  intro w0 C0
  simp only [Tryd.ntmps28, litI, litB, litS, List.length_cons, List.length_nil, Nat.reduceAdd, Nat.reduceSub, List.replicate_succ, List.replicate_zero, List.cons_append, List.nil_append]
  repeat' first
    | refine awp_seq ?_
    | (refine reg _ (by (simp only [List.map_cons, List.map_nil]; rfl)) rfl ?_; intro K hK)
    | (refine awp_ret ?_; simp only [thenA, blockA, scopeA, RetQ])
    | (refine ev_nil (hK _ ?_); clear hK K)
    | (apply ev_step0; (case hr | hσ => (simp only [go_sem]; try rfl)); (case hc => exact hcA))
    | (apply ev_step; (case hr => (simp only [go_sem]; try rfl)); (case hσ => (intro g u; simp only [go_sem]; try rfl)); (case hc => exact hcA); intro g u; (try clear u); (try clear g))
    | fail
  all_goals (refine resR_oneA ?_; simp only [go_sem])
  exact LeA.refl _
theorem f29_spec (s : ByteArray) : Spec Tryd.prog 29 [litS s] (.agg (vl ⟨3, 0, s⟩)) := by
  refine spec_of_awp (fn := Tryd.f29) Tryd.func29 (by kernel_rfl) rfl ?_
  intro w0 C0
  simp only [Tryd.ntmps29, litI, litB, litS, List.length_cons, List.length_nil, Nat.reduceAdd, Nat.reduceSub, List.replicate_succ, List.replicate_zero, List.cons_append, List.nil_append]
  repeat' first
    | refine awp_seq ?_
    | (refine reg _ (by (simp only [List.map_cons, List.map_nil]; rfl)) rfl ?_; intro K hK)
    | (refine awp_ret ?_; simp only [thenA, blockA, scopeA, RetQ])
    | (refine ev_nil (hK _ ?_); clear hK K)
    | (apply ev_step0; (case hr | hσ => (simp only [go_sem]; try rfl)); (case hc => exact hcA))
    | (apply ev_step; (case hr => (simp only [go_sem]; try rfl)); (case hσ => (intro g u; simp only [go_sem]; try rfl)); (case hc => exact hcA); intro g u; (try clear u); (try clear g))
    | fail
  all_goals (refine resR_oneA ?_; simp only [go_sem])
  exact LeA.refl _
abbrev bytesD (b : List Int) : Dat := .sl 1 (b.map fun n => [.lit (.int .u8 n)])
theorem bytes_at (l : List Int) {i : Nat} (h : i < l.length) : (l.map fun n => [Dat.lit (.int .u8 n)]).getD i [] = [.lit (.int .u8 (l.getD i 0))] := by
  simp [List.getD_eq_getElem?_getD, h]
end
section
set_option linter.unusedVariables false
set_option linter.unusedSimpArgs false
open Go.RowKit
attribute [local irreducible] Spec SpecF SpecN
attribute [local irreducible] AWp evOps evD
abbrev ints (l : List Int) : Dat := .sl 1 (l.map fun n => [.lit (.int .i64 n)])
theorem ints_at (l : List Int) {i : Nat} (h : i < l.length) : (l.map fun n => [Dat.lit (.int .i64 n)]).getD i [] = [.lit (.int .i64 (l.getD i 0))] := by
  simp [List.getD_eq_getElem?_getD, h]
theorem drop_at {α : Type} (l : List α) (d : α) {i : Nat} (h : i < l.length) : l.drop i = l.getD i d :: l.drop (i + 1) := by
  rw [List.drop_eq_getElem_cons h]; simp [List.getD_eq_getElem?_getD, h]
def firstNZ : List Int → Int
  | [] => 0
  | a :: l => if a = 0 then firstNZ l else a
theorem f61_spec (l : List Int) : Spec Tryd.prog 61 [.d (ints l)] (litI .i64 (firstNZ l)) := by
  refine spec_of_awp (fn := Tryd.f61) Tryd.func61 (by kernel_rfl) rfl ?_
  intro w0 C0
  simp only [Tryd.ntmps61, litI, litB, litS, List.length_cons, List.length_nil, Nat.reduceAdd, Nat.reduceSub, List.replicate_succ, List.replicate_zero, List.cons_append, List.nil_append]
  refine awp_len 0 rfl fun hl => ?_
  simp only [List.length_map] at hl
  repeat' first
    | refine awp_seq ?_
    | refine awp_block ?_
    | refine awp_skip ?_
    | (refine reg _ (by (simp only [List.map_cons, List.map_nil]; rfl)) rfl ?_; intro K hK)
    | ((refine awp_cond _ (by rfl) ?_ ?_) <;> (intro hb; first | (cases hb; done) | (have ht : true = true := hb; clear ht hb) | (have ht : false = false := hb; clear ht hb) | (simp only [hb]) | skip))
    | (refine awp_exit ?_; simp only [thenA, blockA, scopeA, reduceIte, RetQ, Nat.reduceEqDiff])
    | (refine awp_ret ?_; simp only [thenA, blockA, scopeA, RetQ])
    | (refine ev_nil (hK _ ?_); clear hK K)
    | (apply ev_step0; (case hr | hσ => (simp only [go_sem]; try rfl)); (case hc => exact hcA))
    | (apply ev_step; (case hr => (simp only [go_sem]; try rfl)); (case hσ => (intro g u; simp only [go_sem]; try rfl)); (case hc => exact hcA); intro g u; (try clear u); (try clear g))
    | fail
  refine awp_loopI (fun i => i ≤ l.length ∧ firstNZ l = firstNZ (l.drop i)) (fun i => l.length - i) (fun i => ⟨[.any, .any, litI .i64 0, litI .i64 0, .any, .any, .d (ints l), litI .i64 l.length, litI .i64 i, .any, .any, .any, .any, .any, .any, .any, .any, .any], [.no, .no, .no, .no, .no, .no, .no, .no, .no, .no, .no, .no, .no, .no, .no, .no, .no, .no]⟩) 0 ⟨by omega, rfl⟩ ?_ ?_
  · exact wkA
  rintro i ⟨hi, hfi⟩
  simp only [litI, litB]
  by_cases hlt : i < l.length
  rotate_left
  have hdec : decide ((i : Int) < (l.length : Int)) = false := by simp; omega
  · repeat' first
      | refine awp_seq ?_
      | refine awp_block ?_
      | refine awp_skip ?_
      | (refine reg _ (by (simp only [List.map_cons, List.map_nil]; rfl)) rfl ?_; intro K hK)
      | ((refine awp_cond _ (by rfl) ?_ ?_) <;> (intro hb; first | (cases hb; done) | (have ht : true = true := hb; clear ht hb) | (have ht : false = false := hb; clear ht hb) | (simp only [hb]) | skip))
      | (refine awp_exit ?_; simp only [thenA, blockA, scopeA, reduceIte, RetQ, Nat.reduceEqDiff])
      | (refine awp_ret ?_; simp only [thenA, blockA, scopeA, RetQ])
      | (refine ev_nil (hK _ ?_); clear hK K)
      | (apply ev_step0; (case hr | hσ => (simp only [go_sem, hdec]; try rfl)); (case hc => exact hcA))
      | (apply ev_step; (case hr => (simp only [go_sem, hdec]; try rfl)); (case hσ => (intro g u; simp only [go_sem, hdec]; try rfl)); (case hc => exact hcA); intro g u; (try clear u); (try clear g))
      | fail
    all_goals (refine resR_oneA ?_; simp only [go_sem])
    refine LeA.i ?_
    rw [hfi, List.drop_eq_nil_of_le (by omega)]; rfl
  have hdec : decide ((i : Int) < (l.length : Int)) = true := by simp; omega
  have hx := ints_at l hlt
  rw [drop_at l 0 hlt] at hfi
  repeat' first
    | refine awp_seq ?_
    | refine awp_block ?_
    | refine awp_skip ?_
    | (refine reg _ (by (simp only [List.map_cons, List.map_nil]; rfl)) rfl ?_; intro K hK)
    | ((refine awp_cond _ (by rfl) ?_ ?_) <;> (intro hb; first | (cases hb; done) | (have ht : true = true := hb; clear ht hb) | (have ht : false = false := hb; clear ht hb) | (simp only [hb]) | skip))
    | (refine awp_exit ?_; simp only [thenA, blockA, scopeA, reduceIte, RetQ, Nat.reduceEqDiff])
    | (refine awp_ret ?_; simp only [thenA, blockA, scopeA, RetQ])
    | (refine ev_nil (hK _ ?_); clear hK K)
    | (apply ev_step0; (case hr | hσ => (simp only [go_sem, hdec, hx]; try rfl)); (case hc => exact hcA))
    | (apply ev_step; (case hr => (simp only [go_sem, hdec, hx]; try rfl)); (case hσ => (intro g u; simp only [go_sem, hdec, hx]; try rfl)); (case hc => exact hcA); intro g u; (try clear u); (try clear g))
    | fail
  · all_goals (refine resR_oneA ?_; simp only [go_sem])
    refine LeA.i ?_
    rw [hfi]; simp_all [firstNZ]
  · refine Exists.intro (i + 1) ⟨⟨by omega, ?_⟩, by omega, ?_⟩
    · rw [hfi]; simp_all [firstNZ]
    · exact wkA
/-- The program's comparison of values. -/
def cmpV (a b : Vl) : Int := firstNZ [cmpI a.k b.k, cmpI a.i b.i, cmpB a.s b.s]
theorem f41_spec (a b : Vl) : Spec Tryd.prog 41 [.agg (vl a), .agg (vl b)] (litI .i64 (cmpV a b)) := by
  have h86 : Spec Tryd.prog 61 [.d (.sl 1 [[.lit (.int .i64 (cmpI a.k b.k))], [.lit (.int .i64 (cmpI a.i b.i))], [.lit (.int .i64 (cmpB a.s b.s))]])] (litI .i64 (cmpV a b)) := f61_spec [cmpI a.k b.k, cmpI a.i b.i, cmpB a.s b.s]
  refine spec_of_awp (fn := Tryd.f41) Tryd.func41 (by kernel_rfl) rfl ?_
  intro w0 C0
  simp only [Tryd.ntmps41, litI, litB, litS, List.length_cons, List.length_nil, Nat.reduceAdd, Nat.reduceSub, List.replicate_succ, List.replicate_zero, List.cons_append, List.nil_append]
  repeat' first
    | refine awp_seq ?_
    | (refine reg _ (by (simp only [List.map_cons, List.map_nil]; rfl)) rfl ?_; intro K hK)
    | (refine awp_ret ?_; simp only [thenA, blockA, scopeA, RetQ])
    | (refine ev_nil (hK _ ?_); clear hK K)
    | (apply regD; (case hd => (simp only [List.map_cons, List.map_nil]; rfl)); (case hok => rfl); (case' h => (intro K hK; (repeat' first
        | (apply evd_nil; refine (hK _ ?_); clear hK K)
        | (apply evd_call0; (case hi | hys => (simp only [go_sem, Bool.and_false, Bool.false_and, Bool.and_self, Int.reduceToNat]; try rfl)); (case hs => first | exact f62_spec .. | exact f63_spec .. | exact h86 ..); (case hok | hw | hσ => (simp only [go_sem, Bool.and_false, Bool.false_and, Bool.and_self, Int.reduceToNat]; try rfl)))
        | (apply evd_step0; (case hr | hi | hσ => (simp only [go_sem, Bool.and_false, Bool.false_and, Bool.and_self, Int.reduceToNat]; try rfl)); (case hc => exact hcA))
        | (apply evd_step; (case hr | hi => (simp only [go_sem, Bool.and_false, Bool.false_and, Bool.and_self, Int.reduceToNat]; try rfl)); (case hc => exact hcA); (case hw | hσ => (intro g u; simp only [go_sem, Bool.and_false, Bool.false_and, Bool.and_self, Int.reduceToNat]; try rfl)); (case' hk => (intro g u; (try clear u); (try clear g))))
        | fail))); (case hB => kernel_rfl))
    | (apply ev_step0; (case hr | hσ => (simp only [go_sem, Bool.and_false, Bool.false_and, Bool.and_self, Int.reduceToNat]; try rfl)); (case hc => exact hcA))
    | (apply ev_step; (case hr => (simp only [go_sem, Bool.and_false, Bool.false_and, Bool.and_self, Int.reduceToNat]; try rfl)); (case hσ => (intro g u; simp only [go_sem, Bool.and_false, Bool.false_and, Bool.and_self, Int.reduceToNat]; try rfl)); (case hc => exact hcA); intro g u; (try clear u); (try clear g))
    | fail
  all_goals (refine resR_oneA ?_; simp only [go_sem])
  exact LeA.refl _
def cmpL : List UInt8 → List UInt8 → Int
  | [], [] => 0
  | [], _ :: _ => -1
  | _ :: _, [] => 1
  | a :: x, b :: y => if a < b then -1 else if b < a then 1 else cmpL x y
theorem cmpL_eq : ∀ (x y : List UInt8), cmpL x y = if Op.bytesLess x y = true then -1 else if (x == y) = true then 0 else 1
  | [], [] => by simp [cmpL, Op.bytesLess]
  | [], _ :: _ => by simp [cmpL, Op.bytesLess]
  | _ :: _, [] => by simp [cmpL, Op.bytesLess]
  | a :: x, b :: y => by
    have hab : a = b ↔ a.toNat = b.toNat := ⟨fun h => by rw [h], fun h => UInt8.toNat_inj.1 h⟩
    have ha : (a < b) ↔ a.toNat < b.toNat := UInt8.lt_iff_toNat_lt
    have hb : (b < a) ↔ b.toNat < a.toNat := UInt8.lt_iff_toNat_lt
    simp only [cmpL, Op.bytesLess, cmpL_eq x y]
    by_cases h1 : a < b
    · simp [h1]
    · by_cases h2 : b < a
      · have : ¬ a = b := by rw [hab]; rw [hb] at h2; omega
        simp [h1, h2, this]
      · have : a = b := by rw [hab]; rw [hb] at h2; rw [ha] at h1; omega
        subst this
        simp [h1]
/-- The reference's comparison of strings. -/
theorem f59_spec (a b : ByteArray) (hal : a.size ≤ 4611686018427387904) (hbl : b.size ≤ 4611686018427387904) : Spec Tryd.prog 59 [litS a, litS b] (litI .i64 (cmpL a.data.toList b.data.toList)) := by
  have ea : a.size = a.data.toList.length := by simp
  have eb : b.size = b.data.toList.length := by simp
  refine spec_of_awp (fn := Tryd.f59) Tryd.func59 (by kernel_rfl) rfl ?_
  intro w0 C0
  simp only [Tryd.ntmps59, litI, litB, litS, List.length_cons, List.length_nil, Nat.reduceAdd, Nat.reduceSub, List.replicate_succ, List.replicate_zero, List.cons_append, List.nil_append]
  repeat' first
    | refine awp_seq ?_
    | refine awp_block ?_
    | refine awp_skip ?_
    | (refine reg _ (by (simp only [List.map_cons, List.map_nil]; rfl)) rfl ?_; intro K hK)
    | (apply ev_guardU; (case hj | hu | hσ => (simp only [go_sem]; try rfl)))
    | ((first | refine awp_cond _ (by rfl) ?_ ?_ | refine ev_guardT _ _ (by (simp only [go_sem]; rfl)) (by (simp only [go_sem]; rfl)) ?_ ?_ | refine ev_guardF _ _ (by (simp only [go_sem]; rfl)) (by (simp only [go_sem]; rfl)) ?_ ?_) <;> (intro hb; first | (cases hb; done) | (have ht : true = true := hb; clear ht hb) | (have ht : false = false := hb; clear ht hb) | (simp only [hb]) | skip))
    | (refine awp_exit ?_; simp only [thenA, blockA, scopeA, reduceIte, RetQ, Nat.reduceEqDiff])
    | (refine awp_ret ?_; simp only [thenA, blockA, scopeA, RetQ])
    | (refine ev_nil (hK _ ?_); clear hK K)
    | (apply ev_step0; (case hr | hσ => (simp only [go_sem]; try rfl)); (case hc => exact hcA))
    | (apply ev_step; (case hr => (simp only [go_sem]; try rfl)); (case hσ => (intro g u; simp only [go_sem]; try rfl)); (case hc => exact hcA); intro g u; (try clear u); (try clear g))
    | fail
  refine awp_loopI (fun i : Nat => i ≤ a.size ∧ i ≤ b.size ∧ cmpL a.data.toList b.data.toList = cmpL (a.data.toList.drop i) (b.data.toList.drop i)) (fun i => a.size - i) (fun i => ⟨[litS a, litS b, .any, .any, litI .i64 0, litI .i64 i, .any, .any, .any, .any, .any, .any, .any, .any, .any, .any, .any, .any, .any, .any, .any, .any, .any, .any, .any, .any, .any, .any, .any, .any, .any, .any, .any, .any, .any, .any, .any, .any, .any], [.no, .no, .no, .no, .no, .no, .no, .no, .no, .no, .no, .no, .no, .no, .no, .no, .no, .no, .no, .no, .no, .no, .no, .no, .no, .no, .no, .no, .no, .no, .no, .no, .no, .no, .no, .no, .no, .no, .no]⟩) 0 ⟨by omega, by omega, rfl⟩ ?_ ?_
  · exact wkA
  rintro i ⟨hi, hj, hfi⟩
  simp only [litI, litB, litS] at hi hj hfi ⊢
  by_cases h1 : i < a.size
  · have d1 : decide ((i : Int) < (a.size : Int)) = true := decide_eq_true (by omega)
    by_cases h2 : i < b.size
    · have d2 : decide ((i : Int) < (b.size : Int)) = true := decide_eq_true (by omega)
      have hx : byteAt a (i : Int) = ((a.data.toList.getD i 0).toNat : Int) := rfl
      have hy : byteAt b (i : Int) = ((b.data.toList.getD i 0).toNat : Int) := rfl
      rw [drop_at a.data.toList 0 (by omega), drop_at b.data.toList 0 (by omega)] at hfi
      generalize a.data.toList.getD i 0 = x at *
      generalize b.data.toList.getD i 0 = y at *
      have bx := x.toNat_lt
      have by' := y.toNat_lt
      have wx : IntKind.i64.wrap (x.toNat : Int) = x.toNat := wrap_id (by omega)
      have wy : IntKind.i64.wrap (y.toNat : Int) = y.toNat := wrap_id (by omega)
      by_cases hxy : x = y
      · have hq : ((x.toNat : Int) != (y.toNat : Int)) = false := by rw [hxy]; simp
        repeat' first
          | refine awp_seq ?_
          | refine awp_block ?_
          | refine awp_skip ?_
          | (refine reg _ (by (simp only [List.map_cons, List.map_nil]; rfl)) rfl ?_; intro K hK)
          | (apply ev_guardU; (case hj | hu | hσ => (simp only [go_sem, d1, d2, hx, hy, hq]; try rfl)))
          | ((first | refine awp_cond _ (by rfl) ?_ ?_ | refine ev_guardT _ _ (by (simp only [go_sem, d1, d2, hx, hy, hq]; rfl)) (by (simp only [go_sem, d1, d2, hx, hy, hq]; rfl)) ?_ ?_ | refine ev_guardF _ _ (by (simp only [go_sem, d1, d2, hx, hy, hq]; rfl)) (by (simp only [go_sem, d1, d2, hx, hy, hq]; rfl)) ?_ ?_) <;> (intro hb; first | (cases hb; done) | (have ht : true = true := hb; clear ht hb) | (have ht : false = false := hb; clear ht hb) | (simp only [hb]) | skip))
          | (refine awp_exit ?_; simp only [thenA, blockA, scopeA, reduceIte, RetQ, Nat.reduceEqDiff])
          | (refine awp_ret ?_; simp only [thenA, blockA, scopeA, RetQ])
          | (refine ev_nil (hK _ ?_); clear hK K)
          | (apply regD; (case hd => (simp only [List.map_cons, List.map_nil]; rfl)); (case hok => rfl); (case' h => (intro K hK; (repeat' first
        | (apply evd_nil; refine (hK _ ?_); clear hK K)
        | (apply evd_step0; (case hr | hi | hσ => (simp only [go_sem, d1, d2, hx, hy, hq]; try rfl)); (case hc => exact hcA))
        | (apply evd_step; (case hr | hi => (simp only [go_sem, d1, d2, hx, hy, hq]; try rfl)); (case hc => exact hcA); (case hw | hσ => (intro g u; simp only [go_sem, d1, d2, hx, hy, hq]; try rfl)); (case' hk => (intro g u; (try clear u); (try clear g))))
        | fail))); (case hB => kernel_rfl))
          | (apply ev_step0; (case hr | hσ => (simp only [go_sem, d1, d2, hx, hy, hq]; try rfl)); (case hc => exact hcA))
          | (apply ev_step; (case hr => (simp only [go_sem, d1, d2, hx, hy, hq]; try rfl)); (case hσ => (intro g u; simp only [go_sem, d1, d2, hx, hy, hq]; try rfl)); (case hc => exact hcA); intro g u; (try clear u); (try clear g))
          | fail
        refine Exists.intro (i + 1) ⟨⟨by omega, by omega, ?_⟩, by omega, ?_⟩
        · rw [hfi, hxy]
          simp [cmpL]
        · exact wkA
      · have hne : ¬ (x.toNat : Int) = (y.toNat : Int) := fun e => hxy (UInt8.toNat_inj.1 (by omega))
        have hq : ((x.toNat : Int) != (y.toNat : Int)) = true := by simpa using hne
        repeat' first
          | refine awp_seq ?_
          | refine awp_block ?_
          | refine awp_skip ?_
          | (refine reg _ (by (simp only [List.map_cons, List.map_nil]; rfl)) rfl ?_; intro K hK)
          | (apply ev_guardU; (case hj | hu | hσ => (simp only [go_sem, d1, d2, hx, hy, hq, wx, wy]; try rfl)))
          | ((first | refine awp_cond _ (by rfl) ?_ ?_ | refine ev_guardT _ _ (by (simp only [go_sem, d1, d2, hx, hy, hq, wx, wy]; rfl)) (by (simp only [go_sem, d1, d2, hx, hy, hq, wx, wy]; rfl)) ?_ ?_ | refine ev_guardF _ _ (by (simp only [go_sem, d1, d2, hx, hy, hq, wx, wy]; rfl)) (by (simp only [go_sem, d1, d2, hx, hy, hq, wx, wy]; rfl)) ?_ ?_) <;> (intro hb; first | (cases hb; done) | (have ht : true = true := hb; clear ht hb) | (have ht : false = false := hb; clear ht hb) | (simp only [hb]) | skip))
          | (refine awp_exit ?_; simp only [thenA, blockA, scopeA, reduceIte, RetQ, Nat.reduceEqDiff])
          | (refine awp_ret ?_; simp only [thenA, blockA, scopeA, RetQ])
          | (refine ev_nil (hK _ ?_); clear hK K)
          | (apply ev_call0; (case hys => (simp only [go_sem, d1, d2, hx, hy, hq, wx, wy]; try rfl)); (case hs => first | exact f58_spec ..); (case hok | hσ => (simp only [go_sem, d1, d2, hx, hy, hq, wx, wy]; try rfl)))
          | (apply regD; (case hd => (simp only [List.map_cons, List.map_nil]; rfl)); (case hok => rfl); (case' h => (intro K hK; (repeat' first
        | (apply evd_nil; refine (hK _ ?_); clear hK K)
        | (apply evd_call0; (case hi | hys => (simp only [go_sem, d1, d2, hx, hy, hq, wx, wy]; try rfl)); (case hs => first | exact f58_spec ..); (case hok | hw | hσ => (simp only [go_sem, d1, d2, hx, hy, hq, wx, wy]; try rfl)))
        | (apply evd_step0; (case hr | hi | hσ => (simp only [go_sem, d1, d2, hx, hy, hq, wx, wy]; try rfl)); (case hc => exact hcA))
        | (apply evd_step; (case hr | hi => (simp only [go_sem, d1, d2, hx, hy, hq, wx, wy]; try rfl)); (case hc => exact hcA); (case hw | hσ => (intro g u; simp only [go_sem, d1, d2, hx, hy, hq, wx, wy]; try rfl)); (case' hk => (intro g u; (try clear u); (try clear g))))
        | fail))); (case hB => kernel_rfl))
          | (apply ev_step0; (case hr | hσ => (simp only [go_sem, d1, d2, hx, hy, hq, wx, wy]; try rfl)); (case hc => exact hcA))
          | (apply ev_step; (case hr => (simp only [go_sem, d1, d2, hx, hy, hq, wx, wy]; try rfl)); (case hσ => (intro g u; simp only [go_sem, d1, d2, hx, hy, hq, wx, wy]; try rfl)); (case hc => exact hcA); intro g u; (try clear u); (try clear g))
          | fail
        all_goals (refine resR_oneA ?_; simp only [go_sem])
        refine LeA.i ?_
        rw [hfi]
        have e1 : (x < y) ↔ x.toNat < y.toNat := UInt8.lt_iff_toNat_lt
        have e2 : (y < x) ↔ y.toNat < x.toNat := UInt8.lt_iff_toNat_lt
        simp only [cmpL, cmpI, e1, e2]
        (repeat' split) <;> first | rfl | omega
    · have d2 : decide ((i : Int) < (b.size : Int)) = false := decide_eq_false (by omega)
      repeat' first
        | refine awp_seq ?_
        | refine awp_block ?_
        | refine awp_skip ?_
        | (refine reg _ (by (simp only [List.map_cons, List.map_nil]; rfl)) rfl ?_; intro K hK)
        | (apply ev_guardU; (case hj | hu | hσ => (simp only [go_sem, d1, d2]; try rfl)))
        | ((first | refine awp_cond _ (by rfl) ?_ ?_ | refine ev_guardT _ _ (by (simp only [go_sem, d1, d2]; rfl)) (by (simp only [go_sem, d1, d2]; rfl)) ?_ ?_ | refine ev_guardF _ _ (by (simp only [go_sem, d1, d2]; rfl)) (by (simp only [go_sem, d1, d2]; rfl)) ?_ ?_) <;> (intro hb; first | (cases hb; done) | (have ht : true = true := hb; clear ht hb) | (have ht : false = false := hb; clear ht hb) | (simp only [hb]) | skip))
        | (refine awp_exit ?_; simp only [thenA, blockA, scopeA, reduceIte, RetQ, Nat.reduceEqDiff])
        | (refine awp_ret ?_; simp only [thenA, blockA, scopeA, RetQ])
        | (refine ev_nil (hK _ ?_); clear hK K)
        | (apply ev_call0; (case hys => (simp only [go_sem, d1, d2]; try rfl)); (case hs => first | exact f58_spec ..); (case hok | hσ => (simp only [go_sem, d1, d2]; try rfl)))
        | (apply regD; (case hd => (simp only [List.map_cons, List.map_nil]; rfl)); (case hok => rfl); (case' h => (intro K hK; (repeat' first
        | (apply evd_nil; refine (hK _ ?_); clear hK K)
        | (apply evd_call0; (case hi | hys => (simp only [go_sem, d1, d2]; try rfl)); (case hs => first | exact f58_spec ..); (case hok | hw | hσ => (simp only [go_sem, d1, d2]; try rfl)))
        | (apply evd_step0; (case hr | hi | hσ => (simp only [go_sem, d1, d2]; try rfl)); (case hc => exact hcA))
        | (apply evd_step; (case hr | hi => (simp only [go_sem, d1, d2]; try rfl)); (case hc => exact hcA); (case hw | hσ => (intro g u; simp only [go_sem, d1, d2]; try rfl)); (case' hk => (intro g u; (try clear u); (try clear g))))
        | fail))); (case hB => kernel_rfl))
        | (apply ev_step0; (case hr | hσ => (simp only [go_sem, d1, d2]; try rfl)); (case hc => exact hcA))
        | (apply ev_step; (case hr => (simp only [go_sem, d1, d2]; try rfl)); (case hσ => (intro g u; simp only [go_sem, d1, d2]; try rfl)); (case hc => exact hcA); intro g u; (try clear u); (try clear g))
        | fail
      all_goals (refine resR_oneA ?_; simp only [go_sem])
      refine LeA.i ?_
      rw [hfi, drop_at a.data.toList 0 (by omega), show b.data.toList.drop i = [] from List.drop_eq_nil_of_le (by omega)]
      simp only [cmpL, cmpI]
      rw [if_neg (by omega), if_pos (by omega)]
  · have d1 : decide ((i : Int) < (a.size : Int)) = false := decide_eq_false (by omega)
    repeat' first
      | refine awp_seq ?_
      | refine awp_block ?_
      | refine awp_skip ?_
      | (refine reg _ (by (simp only [List.map_cons, List.map_nil]; rfl)) rfl ?_; intro K hK)
      | (apply ev_guardU; (case hj | hu | hσ => (simp only [go_sem, d1]; try rfl)))
      | ((first | refine awp_cond _ (by rfl) ?_ ?_ | refine ev_guardT _ _ (by (simp only [go_sem, d1]; rfl)) (by (simp only [go_sem, d1]; rfl)) ?_ ?_ | refine ev_guardF _ _ (by (simp only [go_sem, d1]; rfl)) (by (simp only [go_sem, d1]; rfl)) ?_ ?_) <;> (intro hb; first | (cases hb; done) | (have ht : true = true := hb; clear ht hb) | (have ht : false = false := hb; clear ht hb) | (simp only [hb]) | skip))
      | (refine awp_exit ?_; simp only [thenA, blockA, scopeA, reduceIte, RetQ, Nat.reduceEqDiff])
      | (refine awp_ret ?_; simp only [thenA, blockA, scopeA, RetQ])
      | (refine ev_nil (hK _ ?_); clear hK K)
      | (apply ev_call0; (case hys => (simp only [go_sem, d1]; try rfl)); (case hs => first | exact f58_spec ..); (case hok | hσ => (simp only [go_sem, d1]; try rfl)))
      | (apply regD; (case hd => (simp only [List.map_cons, List.map_nil]; rfl)); (case hok => rfl); (case' h => (intro K hK; (repeat' first
        | (apply evd_nil; refine (hK _ ?_); clear hK K)
        | (apply evd_call0; (case hi | hys => (simp only [go_sem, d1]; try rfl)); (case hs => first | exact f58_spec ..); (case hok | hw | hσ => (simp only [go_sem, d1]; try rfl)))
        | (apply evd_step0; (case hr | hi | hσ => (simp only [go_sem, d1]; try rfl)); (case hc => exact hcA))
        | (apply evd_step; (case hr | hi => (simp only [go_sem, d1]; try rfl)); (case hc => exact hcA); (case hw | hσ => (intro g u; simp only [go_sem, d1]; try rfl)); (case' hk => (intro g u; (try clear u); (try clear g))))
        | fail))); (case hB => kernel_rfl))
      | (apply ev_step0; (case hr | hσ => (simp only [go_sem, d1]; try rfl)); (case hc => exact hcA))
      | (apply ev_step; (case hr => (simp only [go_sem, d1]; try rfl)); (case hσ => (intro g u; simp only [go_sem, d1]; try rfl)); (case hc => exact hcA); intro g u; (try clear u); (try clear g))
      | fail
    all_goals (refine resR_oneA ?_; simp only [go_sem])
    refine LeA.i ?_
    rw [hfi, show a.data.toList.drop i = [] from List.drop_eq_nil_of_le (by omega)]
    by_cases h2 : i < b.size
    · rw [drop_at b.data.toList 0 (by omega)]
      simp only [cmpL, cmpI]
      rw [if_pos (by omega)]
    · rw [show b.data.toList.drop i = [] from List.drop_eq_nil_of_le (by omega)]
      simp only [cmpL, cmpI]
      rw [if_neg (by omega), if_neg (by omega)]
end
section
set_option linter.unusedVariables false
set_option linter.unusedSimpArgs false
open Go.RowKit
attribute [local irreducible] Spec SpecF SpecN
attribute [local irreducible] AWp evOps evD
/-- The reference's comparison of values. -/
def cmpW (a b : Vl) : Int := if a.k ≠ b.k then cmpI a.k b.k else if a.i ≠ b.i then cmpI a.i b.i else cmpL a.s.data.toList b.s.data.toList
theorem f37_spec (a b : Vl) (ha : a.s.size ≤ 4611686018427387904) (hb : b.s.size ≤ 4611686018427387904) : Spec Tryd.prog 37 [.agg (vl a), .agg (vl b)] (litI .i64 (cmpW a b)) := by
  have h84 := f59_spec a.s b.s ha hb
  refine spec_of_awp (fn := Tryd.f37) Tryd.func37 (by kernel_rfl) rfl ?_
  intro w0 C0
  simp only [Tryd.ntmps37, litI, litB, litS, List.length_cons, List.length_nil, Nat.reduceAdd, Nat.reduceSub, List.replicate_succ, List.replicate_zero, List.cons_append, List.nil_append]
  repeat' first
    | refine awp_seq ?_
    | refine awp_block ?_
    | refine awp_skip ?_
    | (refine reg _ (by (simp only [List.map_cons, List.map_nil]; rfl)) rfl ?_; intro K hK)
    | ((refine awp_cond _ (by rfl) ?_ ?_) <;> (intro hb; first | (cases hb; done) | (have ht : true = true := hb; clear ht hb) | (have ht : false = false := hb; clear ht hb) | (simp only [hb]) | skip))
    | (refine awp_exit ?_; simp only [thenA, blockA, scopeA, reduceIte, RetQ, Nat.reduceEqDiff])
    | (refine awp_ret ?_; simp only [thenA, blockA, scopeA, RetQ])
    | (refine ev_nil (hK _ ?_); clear hK K)
    | (apply ev_call0; (case hys => (simp only [go_sem]; try rfl)); (case hs => first | exact f58_spec .. | exact h84 ..); (case hok | hσ => (simp only [go_sem]; try rfl)))
    | (apply ev_step0; (case hr | hσ => (simp only [go_sem]; try rfl)); (case hc => exact hcA))
    | (apply ev_step; (case hr => (simp only [go_sem]; try rfl)); (case hσ => (intro g u; simp only [go_sem]; try rfl)); (case hc => exact hcA); intro g u; (try clear u); (try clear g))
    | fail
  all_goals (refine resR_oneA ?_; simp only [go_sem])
  all_goals (refine LeA.i ?_; simp_all [cmpW])
theorem cmpI_zero {a b : Int} : cmpI a b = 0 ↔ a = b := by
  unfold cmpI; constructor
  · intro h; split at h
    · cases h
    · split at h
      · cases h
      · omega
  · intro h; subst h; simp
theorem cmp_same (a b : Vl) : cmpV a b = cmpW a b := by
  have e : cmpB a.s b.s = cmpL a.s.data.toList b.s.data.toList := by
    rw [cmpL_eq, cmpB, ByteArray.toList_eq, ByteArray.toList_eq]
  unfold cmpV cmpW
  simp only [firstNZ, e, cmpI_zero]
  by_cases h1 : a.k = b.k <;> by_cases h2 : a.i = b.i <;> simp [h1, h2]
  all_goals first | done | (intro h; exact h.symm)
def atB (b : List Int) (i : Nat) : Int := b.getD i 0
/-- A type. -/
structure Ty where
  k : Int
  scale : Int
  null : Bool
abbrev tyA (t : Ty) : List AV := [litI .i64 t.k, litI .i64 t.scale, litB t.null]
def boolV (b : Bool) : Vl := ⟨1, if b = true then 1 else 0, ⟨#[]⟩⟩
theorem f71_spec (b : Bool) : Spec Tryd.prog 71 [litB b] (.agg (vl (boolV b))) := by
  cases b
  · refine spec_of_awp (fn := Tryd.f71) Tryd.func71 (by kernel_rfl) rfl ?_
    intro w0 C0
    simp only [Tryd.ntmps71, litI, litB, litS, List.length_cons, List.length_nil, Nat.reduceAdd, Nat.reduceSub, List.replicate_succ, List.replicate_zero, List.cons_append, List.nil_append]
    repeat' first
      | refine awp_seq ?_
      | refine awp_block ?_
      | refine awp_skip ?_
      | (refine reg _ (by (simp only [List.map_cons, List.map_nil]; rfl)) rfl ?_; intro K hK)
      | ((refine awp_cond _ (by rfl) ?_ ?_) <;> (intro hb; first | (cases hb; done) | (have ht : true = true := hb; clear ht hb) | (have ht : false = false := hb; clear ht hb) | (simp only [hb]) | skip))
      | (refine awp_exit ?_; simp only [thenA, blockA, scopeA, reduceIte, RetQ, Nat.reduceEqDiff])
      | (refine awp_ret ?_; simp only [thenA, blockA, scopeA, RetQ])
      | (refine ev_nil (hK _ ?_); clear hK K)
      | (apply ev_step0; (case hr | hσ => (simp only [go_sem]; try rfl)); (case hc => exact hcA))
      | (apply ev_step; (case hr => (simp only [go_sem]; try rfl)); (case hσ => (intro g u; simp only [go_sem]; try rfl)); (case hc => exact hcA); intro g u; (try clear u); (try clear g))
      | fail
    all_goals (refine resR_oneA ?_; simp only [go_sem])
    exact LeA.refl _
  · refine spec_of_awp (fn := Tryd.f71) Tryd.func71 (by kernel_rfl) rfl ?_
    intro w0 C0
    simp only [Tryd.ntmps71, litI, litB, litS, List.length_cons, List.length_nil, Nat.reduceAdd, Nat.reduceSub, List.replicate_succ, List.replicate_zero, List.cons_append, List.nil_append]
    repeat' first
      | refine awp_seq ?_
      | refine awp_block ?_
      | refine awp_skip ?_
      | (refine reg _ (by (simp only [List.map_cons, List.map_nil]; rfl)) rfl ?_; intro K hK)
      | ((refine awp_cond _ (by rfl) ?_ ?_) <;> (intro hb; first | (cases hb; done) | (have ht : true = true := hb; clear ht hb) | (have ht : false = false := hb; clear ht hb) | (simp only [hb]) | skip))
      | (refine awp_exit ?_; simp only [thenA, blockA, scopeA, reduceIte, RetQ, Nat.reduceEqDiff])
      | (refine awp_ret ?_; simp only [thenA, blockA, scopeA, RetQ])
      | (refine ev_nil (hK _ ?_); clear hK K)
      | (apply ev_step0; (case hr | hσ => (simp only [go_sem]; try rfl)); (case hc => exact hcA))
      | (apply ev_step; (case hr => (simp only [go_sem]; try rfl)); (case hσ => (intro g u; simp only [go_sem]; try rfl)); (case hc => exact hcA); intro g u; (try clear u); (try clear g))
      | fail
    all_goals (refine resR_oneA ?_; simp only [go_sem])
    exact LeA.refl _
theorem f26_spec (n : Int) (hn : -1000000 ≤ n ∧ n ≤ 1000000) : Spec Tryd.prog 26 [litI .i64 n] (.agg (vl ⟨2, n * 1000000, ⟨#[]⟩⟩)) := by
  have w : IntKind.i64.wrap (n * 1000000) = n * 1000000 := wrap_id (by omega)
  refine spec_of_awp (fn := Tryd.f26) Tryd.func26 (by kernel_rfl) rfl ?_
  intro w0 C0
  simp only [Tryd.ntmps26, litI, litB, litS, List.length_cons, List.length_nil, Nat.reduceAdd, Nat.reduceSub, List.replicate_succ, List.replicate_zero, List.cons_append, List.nil_append]
  repeat' first
    | refine awp_seq ?_
    | (refine reg _ (by (simp only [List.map_cons, List.map_nil]; rfl)) rfl ?_; intro K hK)
    | (refine awp_ret ?_; simp only [thenA, blockA, scopeA, RetQ])
    | (refine ev_nil (hK _ ?_); clear hK K)
    | (apply ev_call0; (case hys => (simp only [go_sem, w]; try rfl)); (case hs => first | exact f28_spec ..); (case hok | hσ => (simp only [go_sem, w]; try rfl)))
    | (apply ev_step0; (case hr | hσ => (simp only [go_sem, w]; try rfl)); (case hc => exact hcA))
    | (apply ev_step; (case hr => (simp only [go_sem, w]; try rfl)); (case hσ => (intro g u; simp only [go_sem, w]; try rfl)); (case hc => exact hcA); intro g u; (try clear u); (try clear g))
    | fail
  all_goals (refine resR_oneA ?_; simp only [go_sem])
  exact LeA.refl _
def stepV : Nat → Int
  | 0 => 1000000
  | n + 1 => (stepV n).tdiv 10
theorem stepV_bd : ∀ n, 0 ≤ stepV n ∧ stepV n ≤ 1000000
  | 0 => by decide
  | n + 1 => by
    have h := stepV_bd n
    simp only [stepV]
    rw [Int.tdiv_eq_ediv_of_nonneg h.1]
    omega
theorem f72_spec (n : Nat) (hn : n ≤ 1000000) : Spec Tryd.prog 72 [litI .i64 (n : Int)] (litI .i64 (stepV n)) := by
  refine spec_of_awp (fn := Tryd.f72) Tryd.func72 (by kernel_rfl) rfl ?_
  intro w0 C0
  simp only [Tryd.ntmps72, litI, litB, litS, List.length_cons, List.length_nil, Nat.reduceAdd, Nat.reduceSub, List.replicate_succ, List.replicate_zero, List.cons_append, List.nil_append]
  repeat' first
    | refine awp_seq ?_
    | refine awp_block ?_
    | refine awp_skip ?_
    | (refine reg _ (by (simp only [List.map_cons, List.map_nil]; rfl)) rfl ?_; intro K hK)
    | ((refine awp_cond _ (by rfl) ?_ ?_) <;> (intro hb; first | (cases hb; done) | (have ht : true = true := hb; clear ht hb) | (have ht : false = false := hb; clear ht hb) | (simp only [hb]) | skip))
    | (refine awp_exit ?_; simp only [thenA, blockA, scopeA, reduceIte, RetQ, Nat.reduceEqDiff])
    | (refine awp_ret ?_; simp only [thenA, blockA, scopeA, RetQ])
    | (refine ev_nil (hK _ ?_); clear hK K)
    | (apply ev_step0; (case hr | hσ => (simp only [go_sem]; try rfl)); (case hc => exact hcA))
    | (apply ev_step; (case hr => (simp only [go_sem]; try rfl)); (case hσ => (intro g u; simp only [go_sem]; try rfl)); (case hc => exact hcA); intro g u; (try clear u); (try clear g))
    | fail
  refine awp_loopI (fun i : Nat => i ≤ n) (fun i => n - i) (fun i => ⟨[litI .i64 (n : Int), .any, litI .i64 0, litI .i64 (stepV i), litI .i64 i, .any, .any, .any, .any, .any, .any, .any, .any], [.no, .no, .no, .no, .no, .no, .no, .no, .no, .no, .no, .no, .no]⟩) 0 (by omega) ?_ ?_
  · exact wkA
  intro i hi
  simp only [litI, litB] at hi ⊢
  by_cases hlt : i < n
  rotate_left
  have hdec : decide ((i : Int) < (n : Int)) = false := by simp; omega
  · have : i = n := by omega
    subst this
    repeat' first
      | refine awp_seq ?_
      | refine awp_block ?_
      | refine awp_skip ?_
      | (refine reg _ (by (simp only [List.map_cons, List.map_nil]; rfl)) rfl ?_; intro K hK)
      | ((refine awp_cond _ (by rfl) ?_ ?_) <;> (intro hb; first | (cases hb; done) | (have ht : true = true := hb; clear ht hb) | (have ht : false = false := hb; clear ht hb) | (simp only [hb]) | skip))
      | (refine awp_exit ?_; simp only [thenA, blockA, scopeA, reduceIte, RetQ, Nat.reduceEqDiff])
      | (refine awp_ret ?_; simp only [thenA, blockA, scopeA, RetQ])
      | (refine ev_nil (hK _ ?_); clear hK K)
      | (apply ev_step0; (case hr | hσ => (simp only [go_sem, hdec]; try rfl)); (case hc => exact hcA))
      | (apply ev_step; (case hr => (simp only [go_sem, hdec]; try rfl)); (case hσ => (intro g u; simp only [go_sem, hdec]; try rfl)); (case hc => exact hcA); intro g u; (try clear u); (try clear g))
      | fail
    all_goals (refine resR_oneA ?_; simp only [go_sem])
    exact LeA.refl _
  have hdec : decide ((i : Int) < (n : Int)) = true := by simp; omega
  have hb := stepV_bd (i + 1)
  simp only [stepV] at hb
  have w : IntKind.i64.wrap ((stepV i).tdiv 10) = (stepV i).tdiv 10 := wrap_id (by omega)
  repeat' first
    | refine awp_seq ?_
    | refine awp_block ?_
    | refine awp_skip ?_
    | (refine reg _ (by (simp only [List.map_cons, List.map_nil]; rfl)) rfl ?_; intro K hK)
    | ((refine awp_cond _ (by rfl) ?_ ?_) <;> (intro hb; first | (cases hb; done) | (have ht : true = true := hb; clear ht hb) | (have ht : false = false := hb; clear ht hb) | (simp only [hb]) | skip))
    | (refine awp_exit ?_; simp only [thenA, blockA, scopeA, reduceIte, RetQ, Nat.reduceEqDiff])
    | (refine awp_ret ?_; simp only [thenA, blockA, scopeA, RetQ])
    | (refine ev_nil (hK _ ?_); clear hK K)
    | (apply ev_step0; (case hr | hσ => (simp only [go_sem, hdec, w]; try rfl)); (case hc => exact hcA))
    | (apply ev_step; (case hr => (simp only [go_sem, hdec, w]; try rfl)); (case hσ => (intro g u; simp only [go_sem, hdec, w]; try rfl)); (case hc => exact hcA); intro g u; (try clear u); (try clear g))
    | fail
  refine Exists.intro (i + 1) ⟨by omega, by omega, ?_⟩
  simp only [stepV]
  exact wkA
end
section
set_option linter.unusedVariables false
set_option linter.unusedSimpArgs false
open Go.RowKit
attribute [local irreducible] Spec SpecF SpecN
attribute [local irreducible] AWp evOps evD
def wordsL : List ByteArray := [⟨#[]⟩, ⟨#[97]⟩, ⟨#[98]⟩, ⟨#[97, 98]⟩, ⟨#[97, 32, 98]⟩, ⟨#[98, 32, 97, 32, 99]⟩, ⟨#[120, 45, 121]⟩, ⟨#[45]⟩, ⟨#[49, 50]⟩, ⟨#[45, 48, 46, 53]⟩, ⟨#[97, 34, 98]⟩, ⟨#[92]⟩, ⟨#[48]⟩, ⟨#[55, 46, 50, 53]⟩, ⟨#[97, 98, 99, 100, 101, 102, 103, 104, 105, 106, 107, 108, 109, 110, 111, 112, 113, 114, 115, 116, 117, 118, 119, 120, 121, 122, 97, 98, 99, 100, 101, 102, 103, 104, 105, 106, 107, 108, 109, 110]⟩]
def wordM (n : Int) : ByteArray := wordsL.getD (n.tmod 15).toNat ⟨#[]⟩
theorem wordsL_at {i : Nat} (h : i < 15) : (wordsL.map fun b => [Dat.lit (.string b)]).getD i [] = [.lit (.string (wordsL.getD i ⟨#[]⟩))] := by
  have : i < wordsL.length := h
  simp only [List.getD_eq_getElem?_getD, List.getElem?_map, List.getElem?_eq_getElem this]; rfl
set_option maxHeartbeats 4000000 in
theorem f73_spec (n : Int) (hn : 0 ≤ n) : Spec Tryd.prog 73 [litI .i64 n] (litS (wordM n)) := by
  have h1 := Int.tmod_nonneg 15 hn
  have h2 := Int.tmod_lt_of_pos n (b := 15) (by decide)
  rw [wordM]
  obtain ⟨k, hk⟩ : ∃ k : Nat, n.tmod 15 = k := ⟨(n.tmod 15).toNat, by omega⟩
  have hx := wordsL_at (i := k) (by omega)
  rw [hk, Int.toNat_natCast]
  generalize wordsL.getD k ⟨#[]⟩ = b at *
  simp only [wordsL, List.map_cons, List.map_nil] at hx
  refine spec_of_awp (fn := Tryd.f73) Tryd.func73 (by kernel_rfl) rfl ?_
  intro w0 C0
  simp only [Tryd.ntmps73, litI, litB, litS, List.length_cons, List.length_nil, Nat.reduceAdd, Nat.reduceSub, List.replicate_succ, List.replicate_zero, List.cons_append, List.nil_append]
  repeat' first
    | refine awp_seq ?_
    | (refine reg _ (by (simp only [List.map_cons, List.map_nil]; rfl)) rfl ?_; intro K hK)
    | (refine awp_ret ?_; simp only [thenA, blockA, scopeA, RetQ])
    | (refine ev_nil (hK _ ?_); clear hK K)
    | (apply ev_step0; (case hr | hσ => (simp only [go_sem, hk, hx]; try rfl)); (case hc => exact hcA))
    | (apply ev_step; (case hr => (simp only [go_sem, hk, hx]; try rfl)); (case hσ => (intro g u; simp only [go_sem, hk, hx]; try rfl)); (case hc => exact hcA); intro g u; (try clear u); (try clear g))
    | fail
  all_goals (refine resR_oneA ?_; simp only [go_sem])
  exact LeA.refl _
/-- The value of a type that two bytes describe. -/
def valM (t : Ty) (a b : Int) : Vl :=
  if (t.null && (a.tmod 5 == 0)) = true then nullV
  else if (t.k == 1) = true then boolV (b.tmod 2 == 1)
  else if (t.k == 2) = true then (if (a.tmod 4 == 1) = true then ⟨2, (b.tmod 40 - 12) * stepV t.scale.toNat, ⟨#[]⟩⟩ else ⟨2, (b.tmod 40 - 12) * 1000000, ⟨#[]⟩⟩)
  else ⟨3, 0, wordM b⟩
theorem wrap_u8 {n : Int} (h : 0 ≤ n ∧ n < 256) : IntKind.u8.wrap n = n := by
  simp [IntKind.wrap, IntKind.bits, IntKind.signed]; omega
set_option maxHeartbeats 4000000 in
set_option maxRecDepth 10000 in
theorem f50_spec (t : Ty) (a b : Int) (ht : 0 ≤ t.scale ∧ t.scale ≤ 6) (ha : 0 ≤ a ∧ a < 256) (hb : 0 ≤ b ∧ b < 256) : Spec Tryd.prog 50 [.agg (tyA t), .agg [litI .u8 a, litI .u8 b]] (.agg (vl (valM t a b))) := by
  obtain ⟨k, sc, nu⟩ := t
  obtain ⟨sn, rfl⟩ : ∃ sn : Nat, sc = sn := ⟨sc.toNat, by simp only at ht; omega⟩
  simp only at ht
  have h74 := f71_spec (b.tmod 2 == 1)
  have h76 := f72_spec sn (by omega)
  have hst := stepV_bd sn
  have hb40 := Int.tmod_lt_of_pos b (b := 40) (by decide)
  have hb40' := Int.tmod_nonneg 40 hb.1
  have h60 := f26_spec (b.tmod 40 - 12) (by omega)
  have h77 := f73_spec b hb.1
  have w1 : IntKind.i64.wrap (b.tmod 40) = b.tmod 40 := wrap_id (by omega)
  have w2 : IntKind.i64.wrap (b.tmod 40 - 12) = b.tmod 40 - 12 := wrap_id (by omega)
  have w3 : IntKind.i64.wrap ((b.tmod 40 - 12) * stepV sn) = (b.tmod 40 - 12) * stepV sn := by
    have e1 : (b.tmod 40 - 12) * stepV sn ≤ 27 * stepV sn := Int.mul_le_mul_of_nonneg_right (by omega) hst.1
    have e2 : -12 * stepV sn ≤ (b.tmod 40 - 12) * stepV sn := Int.mul_le_mul_of_nonneg_right (by omega) hst.1
    exact wrap_id (by omega)
  have w4 : IntKind.i64.wrap b = b := wrap_id (by omega)
  unfold valM
  simp only [Int.toNat_natCast]
  generalize stepV sn = sv at *
  generalize wordM b = wd at *
  cases h0 : (nu && (a.tmod 5 == 0)) with
  | true =>
    have hnu : nu = true := by cases nu <;> simp at h0 ⊢
    have ha5 : (a.tmod 5 == 0) = true := by cases nu <;> simp_all
    subst hnu
    rw [if_pos rfl]
    refine spec_of_awp (fn := Tryd.f50) Tryd.func50 (by kernel_rfl) rfl ?_
    intro w0 C0
    simp only [Tryd.ntmps50, litI, litB, litS, List.length_cons, List.length_nil, Nat.reduceAdd, Nat.reduceSub, List.replicate_succ, List.replicate_zero, List.cons_append, List.nil_append]
    repeat' first
      | refine awp_seq ?_
      | refine awp_block ?_
      | refine awp_skip ?_
      | (refine reg _ (by (simp only [List.map_cons, List.map_nil]; rfl)) rfl ?_; intro K hK)
      | (apply ev_guardU; (case hj | hu | hσ => (simp only [go_sem, ha5]; try rfl)))
      | ((first | refine awp_cond _ (by rfl) ?_ ?_ | refine ev_guardT _ _ (by (simp only [go_sem, ha5]; rfl)) (by (simp only [go_sem, ha5]; rfl)) ?_ ?_ | refine ev_guardF _ _ (by (simp only [go_sem, ha5]; rfl)) (by (simp only [go_sem, ha5]; rfl)) ?_ ?_) <;> (intro hb; first | (cases hb; done) | (have ht : true = true := hb; clear ht hb) | (have ht : false = false := hb; clear ht hb) | (simp only [hb]) | skip))
      | (refine awp_exit ?_; simp only [thenA, blockA, scopeA, reduceIte, RetQ, Nat.reduceEqDiff])
      | (refine awp_ret ?_; simp only [thenA, blockA, scopeA, RetQ])
      | (refine ev_nil (hK _ ?_); clear hK K)
      | (apply ev_call0; (case hys => (simp only [go_sem, ha5]; try rfl)); (case hs => first | exact f27_spec ..); (case hok | hσ => (simp only [go_sem, ha5]; try rfl)))
      | (apply ev_step0; (case hr | hσ => (simp only [go_sem, ha5]; try rfl)); (case hc => exact hcA))
      | (apply ev_step; (case hr => (simp only [go_sem, ha5]; try rfl)); (case hσ => (intro g u; simp only [go_sem, ha5]; try rfl)); (case hc => exact hcA); intro g u; (try clear u); (try clear g))
      | fail
    all_goals (refine resR_oneA ?_; simp only [go_sem])
    exact LeA.refl _
  | false =>
  rw [if_neg Bool.false_ne_true]
  cases h1 : (k == 1) with
  | true =>
    rw [if_pos rfl]
    cases nu
    all_goals
      (try (rw [Bool.true_and] at h0))
      refine spec_of_awp (fn := Tryd.f50) Tryd.func50 (by kernel_rfl) rfl ?_
      intro w0 C0
      simp only [Tryd.ntmps50, litI, litB, litS, List.length_cons, List.length_nil, Nat.reduceAdd, Nat.reduceSub, List.replicate_succ, List.replicate_zero, List.cons_append, List.nil_append]
      repeat' first
        | refine awp_seq ?_
        | refine awp_block ?_
        | refine awp_skip ?_
        | (refine reg _ (by (simp only [List.map_cons, List.map_nil]; rfl)) rfl ?_; intro K hK)
        | (apply ev_guardU; (case hj | hu | hσ => (simp only [go_sem, h0, h1]; try rfl)))
        | ((first | refine awp_cond _ (by rfl) ?_ ?_ | refine ev_guardT _ _ (by (simp only [go_sem, h0, h1]; rfl)) (by (simp only [go_sem, h0, h1]; rfl)) ?_ ?_ | refine ev_guardF _ _ (by (simp only [go_sem, h0, h1]; rfl)) (by (simp only [go_sem, h0, h1]; rfl)) ?_ ?_) <;> (intro hb; first | (cases hb; done) | (have ht : true = true := hb; clear ht hb) | (have ht : false = false := hb; clear ht hb) | (simp only [hb]) | skip))
        | (refine awp_exit ?_; simp only [thenA, blockA, scopeA, reduceIte, RetQ, Nat.reduceEqDiff])
        | (refine awp_ret ?_; simp only [thenA, blockA, scopeA, RetQ])
        | (refine ev_nil (hK _ ?_); clear hK K)
        | (apply ev_call0; (case hys => (simp only [go_sem, h0, h1]; try rfl)); (case hs => first | exact h74 ..); (case hok | hσ => (simp only [go_sem, h0, h1]; try rfl)))
        | (apply ev_step0; (case hr | hσ => (simp only [go_sem, h0, h1]; try rfl)); (case hc => exact hcA))
        | (apply ev_step; (case hr => (simp only [go_sem, h0, h1]; try rfl)); (case hσ => (intro g u; simp only [go_sem, h0, h1]; try rfl)); (case hc => exact hcA); intro g u; (try clear u); (try clear g))
        | fail
      all_goals (refine resR_oneA ?_; simp only [go_sem])
      exact LeA.refl _
  | false =>
  rw [if_neg Bool.false_ne_true]
  cases h2 : (k == 2) with
  | false =>
    rw [if_neg Bool.false_ne_true]
    cases nu
    all_goals
      (try (rw [Bool.true_and] at h0))
      refine spec_of_awp (fn := Tryd.f50) Tryd.func50 (by kernel_rfl) rfl ?_
      intro w0 C0
      simp only [Tryd.ntmps50, litI, litB, litS, List.length_cons, List.length_nil, Nat.reduceAdd, Nat.reduceSub, List.replicate_succ, List.replicate_zero, List.cons_append, List.nil_append]
      repeat' first
        | refine awp_seq ?_
        | refine awp_block ?_
        | refine awp_skip ?_
        | (refine reg _ (by (simp only [List.map_cons, List.map_nil]; rfl)) rfl ?_; intro K hK)
        | (apply ev_guardU; (case hj | hu | hσ => (simp only [go_sem, h0, h1, h2, w4]; try rfl)))
        | ((first | refine awp_cond _ (by rfl) ?_ ?_ | refine ev_guardT _ _ (by (simp only [go_sem, h0, h1, h2, w4]; rfl)) (by (simp only [go_sem, h0, h1, h2, w4]; rfl)) ?_ ?_ | refine ev_guardF _ _ (by (simp only [go_sem, h0, h1, h2, w4]; rfl)) (by (simp only [go_sem, h0, h1, h2, w4]; rfl)) ?_ ?_) <;> (intro hb; first | (cases hb; done) | (have ht : true = true := hb; clear ht hb) | (have ht : false = false := hb; clear ht hb) | (simp only [hb]) | skip))
        | (refine awp_exit ?_; simp only [thenA, blockA, scopeA, reduceIte, RetQ, Nat.reduceEqDiff])
        | (refine awp_ret ?_; simp only [thenA, blockA, scopeA, RetQ])
        | (refine ev_nil (hK _ ?_); clear hK K)
        | (apply ev_call0; (case hys => (simp only [go_sem, h0, h1, h2, w4]; try rfl)); (case hs => first | exact h77 .. | exact f29_spec ..); (case hok | hσ => (simp only [go_sem, h0, h1, h2, w4]; try rfl)))
        | (apply ev_step0; (case hr | hσ => (simp only [go_sem, h0, h1, h2, w4]; try rfl)); (case hc => exact hcA))
        | (apply ev_step; (case hr => (simp only [go_sem, h0, h1, h2, w4]; try rfl)); (case hσ => (intro g u; simp only [go_sem, h0, h1, h2, w4]; try rfl)); (case hc => exact hcA); intro g u; (try clear u); (try clear g))
        | fail
      all_goals (refine resR_oneA ?_; simp only [go_sem])
      exact LeA.refl _
  | true =>
  rw [if_pos rfl]
  cases h3 : (a.tmod 4 == 1) with
  | true =>
    rw [if_pos rfl]
    cases nu
    all_goals
      (try (rw [Bool.true_and] at h0))
      refine spec_of_awp (fn := Tryd.f50) Tryd.func50 (by kernel_rfl) rfl ?_
      intro w0 C0
      simp only [Tryd.ntmps50, litI, litB, litS, List.length_cons, List.length_nil, Nat.reduceAdd, Nat.reduceSub, List.replicate_succ, List.replicate_zero, List.cons_append, List.nil_append]
      repeat' first
        | refine awp_seq ?_
        | refine awp_block ?_
        | refine awp_skip ?_
        | (refine reg _ (by (simp only [List.map_cons, List.map_nil]; rfl)) rfl ?_; intro K hK)
        | (apply ev_guardU; (case hj | hu | hσ => (simp only [go_sem, h0, h1, h2, h3, w1, w2, w3]; try rfl)))
        | ((first | refine awp_cond _ (by rfl) ?_ ?_ | refine ev_guardT _ _ (by (simp only [go_sem, h0, h1, h2, h3, w1, w2, w3]; rfl)) (by (simp only [go_sem, h0, h1, h2, h3, w1, w2, w3]; rfl)) ?_ ?_ | refine ev_guardF _ _ (by (simp only [go_sem, h0, h1, h2, h3, w1, w2, w3]; rfl)) (by (simp only [go_sem, h0, h1, h2, h3, w1, w2, w3]; rfl)) ?_ ?_) <;> (intro hb; first | (cases hb; done) | (have ht : true = true := hb; clear ht hb) | (have ht : false = false := hb; clear ht hb) | (simp only [hb]) | skip))
        | (refine awp_exit ?_; simp only [thenA, blockA, scopeA, reduceIte, RetQ, Nat.reduceEqDiff])
        | (refine awp_ret ?_; simp only [thenA, blockA, scopeA, RetQ])
        | (refine ev_nil (hK _ ?_); clear hK K)
        | (apply ev_call0; (case hys => (simp only [go_sem, h0, h1, h2, h3, w1, w2, w3]; try rfl)); (case hs => first | exact h76 .. | exact f28_spec ..); (case hok | hσ => (simp only [go_sem, h0, h1, h2, h3, w1, w2, w3]; try rfl)))
        | (apply ev_step0; (case hr | hσ => (simp only [go_sem, h0, h1, h2, h3, w1, w2, w3]; try rfl)); (case hc => exact hcA))
        | (apply ev_step; (case hr => (simp only [go_sem, h0, h1, h2, h3, w1, w2, w3]; try rfl)); (case hσ => (intro g u; simp only [go_sem, h0, h1, h2, h3, w1, w2, w3]; try rfl)); (case hc => exact hcA); intro g u; (try clear u); (try clear g))
        | fail
      all_goals (refine resR_oneA ?_; simp only [go_sem])
      exact LeA.refl _
  | false =>
    rw [if_neg Bool.false_ne_true]
    cases nu
    all_goals
      (try (rw [Bool.true_and] at h0))
      refine spec_of_awp (fn := Tryd.f50) Tryd.func50 (by kernel_rfl) rfl ?_
      intro w0 C0
      simp only [Tryd.ntmps50, litI, litB, litS, List.length_cons, List.length_nil, Nat.reduceAdd, Nat.reduceSub, List.replicate_succ, List.replicate_zero, List.cons_append, List.nil_append]
      repeat' first
        | refine awp_seq ?_
        | refine awp_block ?_
        | refine awp_skip ?_
        | (refine reg _ (by (simp only [List.map_cons, List.map_nil]; rfl)) rfl ?_; intro K hK)
        | (apply ev_guardU; (case hj | hu | hσ => (simp only [go_sem, h0, h1, h2, h3, w1, w2, w3]; try rfl)))
        | ((first | refine awp_cond _ (by rfl) ?_ ?_ | refine ev_guardT _ _ (by (simp only [go_sem, h0, h1, h2, h3, w1, w2, w3]; rfl)) (by (simp only [go_sem, h0, h1, h2, h3, w1, w2, w3]; rfl)) ?_ ?_ | refine ev_guardF _ _ (by (simp only [go_sem, h0, h1, h2, h3, w1, w2, w3]; rfl)) (by (simp only [go_sem, h0, h1, h2, h3, w1, w2, w3]; rfl)) ?_ ?_) <;> (intro hb; first | (cases hb; done) | (have ht : true = true := hb; clear ht hb) | (have ht : false = false := hb; clear ht hb) | (simp only [hb]) | skip))
        | (refine awp_exit ?_; simp only [thenA, blockA, scopeA, reduceIte, RetQ, Nat.reduceEqDiff])
        | (refine awp_ret ?_; simp only [thenA, blockA, scopeA, RetQ])
        | (refine ev_nil (hK _ ?_); clear hK K)
        | (apply ev_call0; (case hys => (simp only [go_sem, h0, h1, h2, h3, w1, w2, w3]; try rfl)); (case hs => first | exact h60 ..); (case hok | hσ => (simp only [go_sem, h0, h1, h2, h3, w1, w2, w3]; try rfl)))
        | (apply ev_step0; (case hr | hσ => (simp only [go_sem, h0, h1, h2, h3, w1, w2, w3]; try rfl)); (case hc => exact hcA))
        | (apply ev_step; (case hr => (simp only [go_sem, h0, h1, h2, h3, w1, w2, w3]; try rfl)); (case hσ => (intro g u; simp only [go_sem, h0, h1, h2, h3, w1, w2, w3]; try rfl)); (case hc => exact hcA); intro g u; (try clear u); (try clear g))
        | fail
      all_goals (refine resR_oneA ?_; simp only [go_sem])
      exact LeA.refl _
end
section
set_option linter.unusedVariables false
set_option linter.unusedSimpArgs false
open Go.RowKit
attribute [local irreducible] Spec SpecF SpecN
attribute [local irreducible] AWp evOps evD
abbrev bs (s : ByteArray) : List UInt8 := s.data.toList
theorem byteAt_nat (s : ByteArray) (i : Nat) : byteAt s (i : Int) = (((bs s).getD i 0).toNat : Int) := rfl
def plainB (b : UInt8) : Bool := decide (32 ≤ b) && decide (b ≤ 126)
def graphicB (s : ByteArray) : Bool := (bs s).all plainB
theorem f124_spec (s : ByteArray) (hs : s.size ≤ 4611686018427387904) : Spec Tryd.prog 124 [litS s] (litB (graphicB s)) := by
  have hl : (bs s).length = s.size := by simp
  refine spec_of_awp (fn := Tryd.f124) Tryd.func124 (by kernel_rfl) rfl ?_
  intro w0 C0
  simp only [Tryd.ntmps124, litI, litB, litS, List.length_cons, List.length_nil, Nat.reduceAdd, Nat.reduceSub, List.replicate_succ, List.replicate_zero, List.cons_append, List.nil_append]
  repeat' first
    | refine awp_seq ?_
    | refine awp_block ?_
    | refine awp_skip ?_
    | (refine reg _ (by (simp only [List.map_cons, List.map_nil]; rfl)) rfl ?_; intro K hK)
    | (apply ev_guardU; (case hj | hu | hσ => (simp only [go_sem]; try rfl)))
    | ((first | refine awp_cond _ (by rfl) ?_ ?_ | refine ev_guardT _ _ (by (simp only [go_sem]; rfl)) (by (simp only [go_sem]; rfl)) ?_ ?_ | refine ev_guardF _ _ (by (simp only [go_sem]; rfl)) (by (simp only [go_sem]; rfl)) ?_ ?_) <;> (intro hb; first | (cases hb; done) | (have ht : true = true := hb; clear ht hb) | (have ht : false = false := hb; clear ht hb) | (simp only [hb]) | skip))
    | (refine awp_exit ?_; simp only [thenA, blockA, scopeA, reduceIte, RetQ, Nat.reduceEqDiff])
    | (refine awp_ret ?_; simp only [thenA, blockA, scopeA, RetQ])
    | (refine ev_nil (hK _ ?_); clear hK K)
    | (apply ev_step0; (case hr | hσ => (simp only [go_sem]; try rfl)); (case hc => exact hcA))
    | (apply ev_step; (case hr => (simp only [go_sem]; try rfl)); (case hσ => (intro g u; simp only [go_sem]; try rfl)); (case hc => exact hcA); intro g u; (try clear u); (try clear g))
    | fail
  refine awp_loopI (fun i : Nat => i ≤ s.size ∧ graphicB s = ((bs s).drop i).all plainB) (fun i => s.size - i) (fun i => ⟨[litS s, .any, litB false, .any, litS s, litI .i64 s.size, litI .i64 i, .any, .any, .any, .any, .any, .any, .any, .any, .any, .any, .any, .any, .any], [.no, .no, .no, .no, .no, .no, .no, .no, .no, .no, .no, .no, .no, .no, .no, .no, .no, .no, .no, .no]⟩) 0 ⟨by omega, rfl⟩ ?_ ?_
  · exact wkA
  rintro i ⟨hi, hfi⟩
  simp only [litI, litB, litS] at hi hfi ⊢
  by_cases hlt : i < s.size
  rotate_left
  have hdec : decide ((i : Int) < (s.size : Int)) = false := by simp; omega
  · repeat' first
      | refine awp_seq ?_
      | refine awp_block ?_
      | refine awp_skip ?_
      | (refine reg _ (by (simp only [List.map_cons, List.map_nil]; rfl)) rfl ?_; intro K hK)
      | (apply ev_guardU; (case hj | hu | hσ => (simp only [go_sem, hdec]; try rfl)))
      | ((first | refine awp_cond _ (by rfl) ?_ ?_ | refine ev_guardT _ _ (by (simp only [go_sem, hdec]; rfl)) (by (simp only [go_sem, hdec]; rfl)) ?_ ?_ | refine ev_guardF _ _ (by (simp only [go_sem, hdec]; rfl)) (by (simp only [go_sem, hdec]; rfl)) ?_ ?_) <;> (intro hb; first | (cases hb; done) | (have ht : true = true := hb; clear ht hb) | (have ht : false = false := hb; clear ht hb) | (simp only [hb]) | skip))
      | (refine awp_exit ?_; simp only [thenA, blockA, scopeA, reduceIte, RetQ, Nat.reduceEqDiff])
      | (refine awp_ret ?_; simp only [thenA, blockA, scopeA, RetQ])
      | (refine ev_nil (hK _ ?_); clear hK K)
      | (apply ev_step0; (case hr | hσ => (simp only [go_sem, hdec]; try rfl)); (case hc => exact hcA))
      | (apply ev_step; (case hr => (simp only [go_sem, hdec]; try rfl)); (case hσ => (intro g u; simp only [go_sem, hdec]; try rfl)); (case hc => exact hcA); intro g u; (try clear u); (try clear g))
      | fail
    all_goals (refine resR_oneA ?_; simp only [go_sem])
    refine LeA.b ?_
    rw [hfi, List.drop_eq_nil_of_le (by omega)]; rfl
  have hdec : decide ((i : Int) < (s.size : Int)) = true := by simp; omega
  have hx := byteAt_nat s i
  rw [drop_at (bs s) 0 (by omega), List.all_cons] at hfi
  generalize (bs s).getD i 0 = x at *
  have e1 : (32 ≤ x) ↔ 32 ≤ x.toNat := UInt8.le_iff_toNat_le
  have e2 : (x ≤ 126) ↔ x.toNat ≤ 126 := UInt8.le_iff_toNat_le
  by_cases h1 : (x.toNat : Int) < 32
  · have d1 : decide ((x.toNat : Int) < 32) = true := decide_eq_true h1
    have hp : plainB x = false := by simp [plainB, e1]; omega
    repeat' first
      | refine awp_seq ?_
      | refine awp_block ?_
      | refine awp_skip ?_
      | (refine reg _ (by (simp only [List.map_cons, List.map_nil]; rfl)) rfl ?_; intro K hK)
      | (apply ev_guardU; (case hj | hu | hσ => (simp only [go_sem, hdec, hx, d1]; try rfl)))
      | ((first | refine awp_cond _ (by rfl) ?_ ?_ | refine ev_guardT _ _ (by (simp only [go_sem, hdec, hx, d1]; rfl)) (by (simp only [go_sem, hdec, hx, d1]; rfl)) ?_ ?_ | refine ev_guardF _ _ (by (simp only [go_sem, hdec, hx, d1]; rfl)) (by (simp only [go_sem, hdec, hx, d1]; rfl)) ?_ ?_) <;> (intro hb; first | (cases hb; done) | (have ht : true = true := hb; clear ht hb) | (have ht : false = false := hb; clear ht hb) | (simp only [hb]) | skip))
      | (refine awp_exit ?_; simp only [thenA, blockA, scopeA, reduceIte, RetQ, Nat.reduceEqDiff])
      | (refine awp_ret ?_; simp only [thenA, blockA, scopeA, RetQ])
      | (refine ev_nil (hK _ ?_); clear hK K)
      | (apply ev_step0; (case hr | hσ => (simp only [go_sem, hdec, hx, d1]; try rfl)); (case hc => exact hcA))
      | (apply ev_step; (case hr => (simp only [go_sem, hdec, hx, d1]; try rfl)); (case hσ => (intro g u; simp only [go_sem, hdec, hx, d1]; try rfl)); (case hc => exact hcA); intro g u; (try clear u); (try clear g))
      | fail
    all_goals (refine resR_oneA ?_; simp only [go_sem])
    refine LeA.b ?_
    rw [hfi, hp]; rfl
  · have d1 : decide ((x.toNat : Int) < 32) = false := decide_eq_false h1
    by_cases h2 : 126 < (x.toNat : Int)
    · have d2 : decide ((126 : Int) < (x.toNat : Int)) = true := decide_eq_true h2
      have hp : plainB x = false := by simp [plainB, e2]; omega
      repeat' first
        | refine awp_seq ?_
        | refine awp_block ?_
        | refine awp_skip ?_
        | (refine reg _ (by (simp only [List.map_cons, List.map_nil]; rfl)) rfl ?_; intro K hK)
        | (apply ev_guardU; (case hj | hu | hσ => (simp only [go_sem, hdec, hx, d1, d2]; try rfl)))
        | ((first | refine awp_cond _ (by rfl) ?_ ?_ | refine ev_guardT _ _ (by (simp only [go_sem, hdec, hx, d1, d2]; rfl)) (by (simp only [go_sem, hdec, hx, d1, d2]; rfl)) ?_ ?_ | refine ev_guardF _ _ (by (simp only [go_sem, hdec, hx, d1, d2]; rfl)) (by (simp only [go_sem, hdec, hx, d1, d2]; rfl)) ?_ ?_) <;> (intro hb; first | (cases hb; done) | (have ht : true = true := hb; clear ht hb) | (have ht : false = false := hb; clear ht hb) | (simp only [hb]) | skip))
        | (refine awp_exit ?_; simp only [thenA, blockA, scopeA, reduceIte, RetQ, Nat.reduceEqDiff])
        | (refine awp_ret ?_; simp only [thenA, blockA, scopeA, RetQ])
        | (refine ev_nil (hK _ ?_); clear hK K)
        | (apply ev_step0; (case hr | hσ => (simp only [go_sem, hdec, hx, d1, d2]; try rfl)); (case hc => exact hcA))
        | (apply ev_step; (case hr => (simp only [go_sem, hdec, hx, d1, d2]; try rfl)); (case hσ => (intro g u; simp only [go_sem, hdec, hx, d1, d2]; try rfl)); (case hc => exact hcA); intro g u; (try clear u); (try clear g))
        | fail
      all_goals (refine resR_oneA ?_; simp only [go_sem])
      refine LeA.b ?_
      rw [hfi, hp]; rfl
    · have d2 : decide ((126 : Int) < (x.toNat : Int)) = false := decide_eq_false h2
      have hp : plainB x = true := by simp [plainB, e1, e2]; omega
      repeat' first
        | refine awp_seq ?_
        | refine awp_block ?_
        | refine awp_skip ?_
        | (refine reg _ (by (simp only [List.map_cons, List.map_nil]; rfl)) rfl ?_; intro K hK)
        | (apply ev_guardU; (case hj | hu | hσ => (simp only [go_sem, hdec, hx, d1, d2]; try rfl)))
        | ((first | refine awp_cond _ (by rfl) ?_ ?_ | refine ev_guardT _ _ (by (simp only [go_sem, hdec, hx, d1, d2]; rfl)) (by (simp only [go_sem, hdec, hx, d1, d2]; rfl)) ?_ ?_ | refine ev_guardF _ _ (by (simp only [go_sem, hdec, hx, d1, d2]; rfl)) (by (simp only [go_sem, hdec, hx, d1, d2]; rfl)) ?_ ?_) <;> (intro hb; first | (cases hb; done) | (have ht : true = true := hb; clear ht hb) | (have ht : false = false := hb; clear ht hb) | (simp only [hb]) | skip))
        | (refine awp_exit ?_; simp only [thenA, blockA, scopeA, reduceIte, RetQ, Nat.reduceEqDiff])
        | (refine awp_ret ?_; simp only [thenA, blockA, scopeA, RetQ])
        | (refine ev_nil (hK _ ?_); clear hK K)
        | (apply ev_step0; (case hr | hσ => (simp only [go_sem, hdec, hx, d1, d2]; try rfl)); (case hc => exact hcA))
        | (apply ev_step; (case hr => (simp only [go_sem, hdec, hx, d1, d2]; try rfl)); (case hσ => (intro g u; simp only [go_sem, hdec, hx, d1, d2]; try rfl)); (case hc => exact hcA); intro g u; (try clear u); (try clear g))
        | fail
      refine Exists.intro (i + 1) ⟨⟨by omega, ?_⟩, by omega, ?_⟩
      · rw [hfi, hp]; rfl
      · exact wkA
abbrev noS (s : ByteArray) : Bool := s.toList == (⟨#[]⟩ : ByteArray).toList
theorem f120_spec (v : Vl) (m : Int) : Spec Tryd.prog 120 [.agg (vl v), litI .i64 m] (litB ((v.k == 0) && ((v.i == 0) && noS v.s))) := by
  refine spec_of_awp (fn := Tryd.f120) Tryd.func120 (by kernel_rfl) rfl ?_
  intro w0 C0
  simp only [Tryd.ntmps120, litI, litB, litS, List.length_cons, List.length_nil, Nat.reduceAdd, Nat.reduceSub, List.replicate_succ, List.replicate_zero, List.cons_append, List.nil_append]
  repeat' first
    | refine awp_seq ?_
    | (refine reg _ (by (simp only [List.map_cons, List.map_nil]; rfl)) rfl ?_; intro K hK)
    | (refine awp_ret ?_; simp only [thenA, blockA, scopeA, RetQ])
    | (refine ev_nil (hK _ ?_); clear hK K)
    | (apply ev_step0; (case hr | hσ => (simp only [go_sem]; try rfl)); (case hc => exact hcA))
    | (apply ev_step; (case hr => (simp only [go_sem]; try rfl)); (case hσ => (intro g u; simp only [go_sem]; try rfl)); (case hc => exact hcA); intro g u; (try clear u); (try clear g))
    | fail
  all_goals (refine resR_oneA ?_; simp only [go_sem])
  refine LeA.b ?_
  rfl
theorem f121_spec (v : Vl) (m : Int) : Spec Tryd.prog 121 [.agg (vl v), litI .i64 m] (litB ((andNotI .i64 v.i 1 == 0) && noS v.s)) := by
  cases h : (andNotI .i64 v.i 1 == 0)
  · refine spec_of_awp (fn := Tryd.f121) Tryd.func121 (by kernel_rfl) rfl ?_
    intro w0 C0
    simp only [Tryd.ntmps121, litI, litB, litS, List.length_cons, List.length_nil, Nat.reduceAdd, Nat.reduceSub, List.replicate_succ, List.replicate_zero, List.cons_append, List.nil_append]
    repeat' first
      | refine awp_seq ?_
      | (refine reg _ (by (simp only [List.map_cons, List.map_nil]; rfl)) rfl ?_; intro K hK)
      | (apply ev_guardU; (case hj | hu | hσ => (simp only [go_sem, h]; try rfl)))
      | ((first | refine ev_guardT _ _ (by (simp only [go_sem, h]; rfl)) (by (simp only [go_sem, h]; rfl)) ?_ ?_ | refine ev_guardF _ _ (by (simp only [go_sem, h]; rfl)) (by (simp only [go_sem, h]; rfl)) ?_ ?_) <;> (intro hb; first | (cases hb; done) | (have ht : true = true := hb; clear ht hb) | (have ht : false = false := hb; clear ht hb) | (simp only [hb]) | skip))
      | (refine awp_ret ?_; simp only [thenA, blockA, scopeA, RetQ])
      | (refine ev_nil (hK _ ?_); clear hK K)
      | (apply ev_step0; (case hr | hσ => (simp only [go_sem, h]; try rfl)); (case hc => exact hcA))
      | (apply ev_step; (case hr => (simp only [go_sem, h]; try rfl)); (case hσ => (intro g u; simp only [go_sem, h]; try rfl)); (case hc => exact hcA); intro g u; (try clear u); (try clear g))
      | fail
    all_goals (refine resR_oneA ?_; simp only [go_sem])
    exact LeA.refl _
  · refine spec_of_awp (fn := Tryd.f121) Tryd.func121 (by kernel_rfl) rfl ?_
    intro w0 C0
    simp only [Tryd.ntmps121, litI, litB, litS, List.length_cons, List.length_nil, Nat.reduceAdd, Nat.reduceSub, List.replicate_succ, List.replicate_zero, List.cons_append, List.nil_append]
    repeat' first
      | refine awp_seq ?_
      | (refine reg _ (by (simp only [List.map_cons, List.map_nil]; rfl)) rfl ?_; intro K hK)
      | (apply ev_guardU; (case hj | hu | hσ => (simp only [go_sem, h]; try rfl)))
      | ((first | refine ev_guardT _ _ (by (simp only [go_sem, h]; rfl)) (by (simp only [go_sem, h]; rfl)) ?_ ?_ | refine ev_guardF _ _ (by (simp only [go_sem, h]; rfl)) (by (simp only [go_sem, h]; rfl)) ?_ ?_) <;> (intro hb; first | (cases hb; done) | (have ht : true = true := hb; clear ht hb) | (have ht : false = false := hb; clear ht hb) | (simp only [hb]) | skip))
      | (refine awp_ret ?_; simp only [thenA, blockA, scopeA, RetQ])
      | (refine ev_nil (hK _ ?_); clear hK K)
      | (apply ev_step0; (case hr | hσ => (simp only [go_sem, h]; try rfl)); (case hc => exact hcA))
      | (apply ev_step; (case hr => (simp only [go_sem, h]; try rfl)); (case hσ => (intro g u; simp only [go_sem, h]; try rfl)); (case hc => exact hcA); intro g u; (try clear u); (try clear g))
      | fail
    all_goals (refine resR_oneA ?_; simp only [go_sem])
    refine LeA.b ?_
    first | rfl | (simp; done)
theorem f122_spec (v : Vl) (m : Int) (hm : 0 ≤ m ∧ m < 9223372036854775808) : Spec Tryd.prog 122 [.agg (vl v), litI .i64 m] (litB (decide (-m ≤ v.i) && decide (v.i ≤ m) && noS v.s)) := by
  have w : IntKind.i64.wrap (0 - m) = -m := by rw [wrap_id (by omega)]; omega
  show Spec _ _ _ (litB (decide (v.i ≥ -m) && decide (v.i ≤ m) && noS v.s))
  cases h1 : decide (v.i ≥ -m) <;> cases h2 : decide (v.i ≤ m)
  all_goals
    refine spec_of_awp (fn := Tryd.f122) Tryd.func122 (by kernel_rfl) rfl ?_
    intro w0 C0
    simp only [Tryd.ntmps122, litI, litB, litS, List.length_cons, List.length_nil, Nat.reduceAdd, Nat.reduceSub, List.replicate_succ, List.replicate_zero, List.cons_append, List.nil_append]
    repeat' first
      | refine awp_seq ?_
      | (refine reg _ (by (simp only [List.map_cons, List.map_nil]; rfl)) rfl ?_; intro K hK)
      | (apply ev_guardU; (case hj | hu | hσ => (simp only [go_sem, w, h1, h2]; try rfl)))
      | ((first | refine ev_guardT _ _ (by (simp only [go_sem, w, h1, h2]; rfl)) (by (simp only [go_sem, w, h1, h2]; rfl)) ?_ ?_ | refine ev_guardF _ _ (by (simp only [go_sem, w, h1, h2]; rfl)) (by (simp only [go_sem, w, h1, h2]; rfl)) ?_ ?_) <;> (intro hb; first | (cases hb; done) | (have ht : true = true := hb; clear ht hb) | (have ht : false = false := hb; clear ht hb) | (simp only [hb]) | skip))
      | (refine awp_ret ?_; simp only [thenA, blockA, scopeA, RetQ])
      | (refine ev_nil (hK _ ?_); clear hK K)
      | (apply ev_step0; (case hr | hσ => (simp only [go_sem, w, h1, h2]; try rfl)); (case hc => exact hcA))
      | (apply ev_step; (case hr => (simp only [go_sem, w, h1, h2]; try rfl)); (case hσ => (intro g u; simp only [go_sem, w, h1, h2]; try rfl)); (case hc => exact hcA); intro g u; (try clear u); (try clear g))
      | fail
    all_goals (refine resR_oneA ?_; simp only [go_sem])
    refine LeA.b ?_
    first | rfl | (simp; done)
theorem f123_spec (v : Vl) (m : Int) (hs : v.s.size ≤ 4611686018427387904) : Spec Tryd.prog 123 [.agg (vl v), litI .i64 m] (litB ((v.i == 0) && decide ((v.s.size : Int) ≤ 40) && graphicB v.s)) := by
  have h124 := f124_spec v.s hs
  cases h1 : (v.i == 0) <;> cases h2 : decide ((v.s.size : Int) ≤ 40)
  all_goals
    refine spec_of_awp (fn := Tryd.f123) Tryd.func123 (by kernel_rfl) rfl ?_
    intro w0 C0
    simp only [Tryd.ntmps123, litI, litB, litS, List.length_cons, List.length_nil, Nat.reduceAdd, Nat.reduceSub, List.replicate_succ, List.replicate_zero, List.cons_append, List.nil_append]
    repeat' first
      | refine awp_seq ?_
      | (refine reg _ (by (simp only [List.map_cons, List.map_nil]; rfl)) rfl ?_; intro K hK)
      | (apply ev_guardU; (case hj | hu | hσ => (simp only [go_sem, h1, h2]; try rfl)))
      | ((first | refine ev_guardT _ _ (by (simp only [go_sem, h1, h2]; rfl)) (by (simp only [go_sem, h1, h2]; rfl)) ?_ ?_ | refine ev_guardF _ _ (by (simp only [go_sem, h1, h2]; rfl)) (by (simp only [go_sem, h1, h2]; rfl)) ?_ ?_) <;> (intro hb; first | (cases hb; done) | (have ht : true = true := hb; clear ht hb) | (have ht : false = false := hb; clear ht hb) | (simp only [hb]) | skip))
      | (refine awp_ret ?_; simp only [thenA, blockA, scopeA, RetQ])
      | (refine ev_nil (hK _ ?_); clear hK K)
      | (apply ev_call0; (case hys => (simp only [go_sem, h1, h2]; try rfl)); (case hs => first | exact h124 ..); (case hok | hσ => (simp only [go_sem, h1, h2]; try rfl)))
      | (apply ev_step0; (case hr | hσ => (simp only [go_sem, h1, h2]; try rfl)); (case hc => exact hcA))
      | (apply ev_step; (case hr => (simp only [go_sem, h1, h2]; try rfl)); (case hσ => (intro g u; simp only [go_sem, h1, h2]; try rfl)); (case hc => exact hcA); intro g u; (try clear u); (try clear g))
      | fail
    all_goals (refine resR_oneA ?_; simp only [go_sem])
    refine LeA.b ?_
    first | rfl | (simp; done)
/-- Whether a value is well formed, its number at most m. -/
def checkV (v : Vl) (m : Int) : Bool :=
  if v.k = 0 then (v.i == 0) && noS v.s
  else if v.k = 1 then (andNotI .i64 v.i 1 == 0) && noS v.s
  else if v.k = 2 then decide (v.i ≥ -m) && decide (v.i ≤ m) && noS v.s
  else if v.k = 3 then (v.i == 0) && decide ((v.s.size : Int) ≤ 40) && graphicB v.s
  else false
theorem f60_spec (v : Vl) (m : Int) (hm : 0 ≤ m ∧ m < 9223372036854775808) (hs : v.s.size ≤ 4611686018427387904) : Spec Tryd.prog 60 [.agg (vl v), litI .i64 m] (litB (checkV v m)) := by
  obtain ⟨k, i, s⟩ := v
  have h120 := f120_spec ⟨k, i, s⟩ m
  have h121 := f121_spec ⟨k, i, s⟩ m
  have h122 := f122_spec ⟨k, i, s⟩ m hm
  have h123 := f123_spec ⟨k, i, s⟩ m hs
  unfold checkV
  simp only at h120 h121 h122 h123 ⊢
  by_cases h0 : k < 0
  · have d0 : decide (k ≥ 0) = false := decide_eq_false (by omega)
    rw [if_neg (by omega), if_neg (by omega), if_neg (by omega), if_neg (by omega)]
    refine spec_of_awp (fn := Tryd.f60) Tryd.func60 (by kernel_rfl) rfl ?_
    intro w0 C0
    simp only [Tryd.ntmps60, litI, litB, litS, List.length_cons, List.length_nil, Nat.reduceAdd, Nat.reduceSub, List.replicate_succ, List.replicate_zero, List.cons_append, List.nil_append]
    repeat' first
      | refine awp_seq ?_
      | (refine reg _ (by (simp only [List.map_cons, List.map_nil]; rfl)) rfl ?_; intro K hK)
      | (refine awp_ret ?_; simp only [thenA, blockA, scopeA, RetQ])
      | (refine ev_nil (hK _ ?_); clear hK K)
      | (apply regD; (case hd => (simp only [List.map_cons, List.map_nil]; rfl)); (case hok => rfl); (case' h => (intro K hK; (repeat' first
        | (apply evd_nil; refine (hK _ ?_); clear hK K)
        | (apply evd_guardU0; (case hj | hu | hσ => (simp only [go_sem, d0]; try rfl)))
        | (apply evd_guardU; (case hj | hu | hσ => (simp only [go_sem, d0]; try rfl)))
        | (apply evd_skipT0; (case hj | hb | hσ => (simp only [go_sem, d0]; try rfl)))
        | (apply evd_skipF0; (case hj | hb | hσ => (simp only [go_sem, d0]; try rfl)))
        | (apply evd_skipT; (case hj | hb | hσ => (simp only [go_sem, d0]; try rfl)))
        | (apply evd_skipF; (case hj | hb | hσ => (simp only [go_sem, d0]; try rfl)))
        | (apply evd_guardT; (case hj | hb => (simp only [go_sem, d0]; try rfl)); (case' h2 => (intro hb; first | (cases hb; done) | (simp only [hb]) | skip)); (case' h1 => (intro hb; first | (cases hb; done) | (simp only [hb]) | skip)))
        | (apply evd_guardF; (case hj | hb => (simp only [go_sem, d0]; try rfl)); (case' h2 => (intro hb; first | (cases hb; done) | (simp only [hb]) | skip)); (case' h1 => (intro hb; first | (cases hb; done) | (simp only [hb]) | skip)))
        | (apply evd_step0; (case hr | hi | hσ => (simp only [go_sem, d0]; try rfl)); (case hc => exact hcA))
        | (apply evd_step; (case hr | hi => (simp only [go_sem, d0]; try rfl)); (case hc => exact hcA); (case hw | hσ => (intro g u; simp only [go_sem, d0]; try rfl)); (case' hk => (intro g u; (try clear u); (try clear g))))
        | fail))); (case hB => kernel_rfl))
      | (apply ev_step0; (case hr | hσ => (simp only [go_sem, d0]; try rfl)); (case hc => exact hcA))
      | (apply ev_step; (case hr => (simp only [go_sem, d0]; try rfl)); (case hσ => (intro g u; simp only [go_sem, d0]; try rfl)); (case hc => exact hcA); intro g u; (try clear u); (try clear g))
      | fail
    all_goals (refine resR_oneA ?_; simp only [go_sem])
    exact LeA.refl _
  have d0 : decide (k ≥ 0) = true := decide_eq_true (by omega)
  by_cases h4 : k < 4
  · have d4 : decide (k < 4) = true := decide_eq_true h4
    obtain rfl | rfl | rfl | rfl : k = 0 ∨ k = 1 ∨ k = 2 ∨ k = 3 := by omega
    · rw [if_pos rfl]
      rw [show ((0 : Int) == 0) = true from rfl, Bool.true_and] at h120
      generalize ((i == 0) && noS s) = q at *
      refine spec_of_awp (fn := Tryd.f60) Tryd.func60 (by kernel_rfl) rfl ?_
      intro w0 C0
      simp only [Tryd.ntmps60, litI, litB, litS, List.length_cons, List.length_nil, Nat.reduceAdd, Nat.reduceSub, List.replicate_succ, List.replicate_zero, List.cons_append, List.nil_append]
      repeat' first
        | refine awp_seq ?_
        | (refine reg _ (by (simp only [List.map_cons, List.map_nil]; rfl)) rfl ?_; intro K hK)
        | (refine awp_ret ?_; simp only [thenA, blockA, scopeA, RetQ])
        | (refine ev_nil (hK _ ?_); clear hK K)
        | (apply regD; (case hd => (simp only [List.map_cons, List.map_nil]; rfl)); (case hok => rfl); (case' h => (intro K hK; (repeat' first
        | (apply evd_nil; refine (hK _ ?_); clear hK K)
        | (apply evd_guardU0; (case hj | hu | hσ => (simp only [go_sem, d0, d4, Int.reduceToNat]; try rfl)))
        | (apply evd_guardU; (case hj | hu | hσ => (simp only [go_sem, d0, d4, Int.reduceToNat]; try rfl)))
        | (apply evd_skipT0; (case hj | hb | hσ => (simp only [go_sem, d0, d4, Int.reduceToNat]; try rfl)))
        | (apply evd_skipF0; (case hj | hb | hσ => (simp only [go_sem, d0, d4, Int.reduceToNat]; try rfl)))
        | (apply evd_skipT; (case hj | hb | hσ => (simp only [go_sem, d0, d4, Int.reduceToNat]; try rfl)))
        | (apply evd_skipF; (case hj | hb | hσ => (simp only [go_sem, d0, d4, Int.reduceToNat]; try rfl)))
        | (apply evd_guardT; (case hj | hb => (simp only [go_sem, d0, d4, Int.reduceToNat]; try rfl)); (case' h2 => (intro hb; first | (cases hb; done) | (simp only [hb]) | skip)); (case' h1 => (intro hb; first | (cases hb; done) | (simp only [hb]) | skip)))
        | (apply evd_guardF; (case hj | hb => (simp only [go_sem, d0, d4, Int.reduceToNat]; try rfl)); (case' h2 => (intro hb; first | (cases hb; done) | (simp only [hb]) | skip)); (case' h1 => (intro hb; first | (cases hb; done) | (simp only [hb]) | skip)))
        | (apply evd_callC; (case hf | hi | hys => (simp only [go_sem, d0, d4, Int.reduceToNat]; try rfl)); (case hs => first | exact h120 ..); (case hok | hw | hσ => (simp only [go_sem, d0, d4, Int.reduceToNat]; try rfl)))
        | (apply evd_step0; (case hr | hi | hσ => (simp only [go_sem, d0, d4, Int.reduceToNat]; try rfl)); (case hc => exact hcA))
        | (apply evd_step; (case hr | hi => (simp only [go_sem, d0, d4, Int.reduceToNat]; try rfl)); (case hc => exact hcA); (case hw | hσ => (intro g u; simp only [go_sem, d0, d4, Int.reduceToNat]; try rfl)); (case' hk => (intro g u; (try clear u); (try clear g))))
        | fail))); (case hB => kernel_rfl))
        | (apply ev_step0; (case hr | hσ => (simp only [go_sem, d0, d4, Int.reduceToNat]; try rfl)); (case hc => exact hcA))
        | (apply ev_step; (case hr => (simp only [go_sem, d0, d4, Int.reduceToNat]; try rfl)); (case hσ => (intro g u; simp only [go_sem, d0, d4, Int.reduceToNat]; try rfl)); (case hc => exact hcA); intro g u; (try clear u); (try clear g))
        | fail
      all_goals (refine resR_oneA ?_; simp only [go_sem])
      exact LeA.refl _
    · rw [if_neg (by omega), if_pos rfl]
      generalize ((andNotI .i64 i 1 == 0) && noS s) = q at *
      refine spec_of_awp (fn := Tryd.f60) Tryd.func60 (by kernel_rfl) rfl ?_
      intro w0 C0
      simp only [Tryd.ntmps60, litI, litB, litS, List.length_cons, List.length_nil, Nat.reduceAdd, Nat.reduceSub, List.replicate_succ, List.replicate_zero, List.cons_append, List.nil_append]
      repeat' first
        | refine awp_seq ?_
        | (refine reg _ (by (simp only [List.map_cons, List.map_nil]; rfl)) rfl ?_; intro K hK)
        | (refine awp_ret ?_; simp only [thenA, blockA, scopeA, RetQ])
        | (refine ev_nil (hK _ ?_); clear hK K)
        | (apply regD; (case hd => (simp only [List.map_cons, List.map_nil]; rfl)); (case hok => rfl); (case' h => (intro K hK; (repeat' first
        | (apply evd_nil; refine (hK _ ?_); clear hK K)
        | (apply evd_guardU0; (case hj | hu | hσ => (simp only [go_sem, d0, d4, Int.reduceToNat]; try rfl)))
        | (apply evd_guardU; (case hj | hu | hσ => (simp only [go_sem, d0, d4, Int.reduceToNat]; try rfl)))
        | (apply evd_skipT0; (case hj | hb | hσ => (simp only [go_sem, d0, d4, Int.reduceToNat]; try rfl)))
        | (apply evd_skipF0; (case hj | hb | hσ => (simp only [go_sem, d0, d4, Int.reduceToNat]; try rfl)))
        | (apply evd_skipT; (case hj | hb | hσ => (simp only [go_sem, d0, d4, Int.reduceToNat]; try rfl)))
        | (apply evd_skipF; (case hj | hb | hσ => (simp only [go_sem, d0, d4, Int.reduceToNat]; try rfl)))
        | (apply evd_guardT; (case hj | hb => (simp only [go_sem, d0, d4, Int.reduceToNat]; try rfl)); (case' h2 => (intro hb; first | (cases hb; done) | (simp only [hb]) | skip)); (case' h1 => (intro hb; first | (cases hb; done) | (simp only [hb]) | skip)))
        | (apply evd_guardF; (case hj | hb => (simp only [go_sem, d0, d4, Int.reduceToNat]; try rfl)); (case' h2 => (intro hb; first | (cases hb; done) | (simp only [hb]) | skip)); (case' h1 => (intro hb; first | (cases hb; done) | (simp only [hb]) | skip)))
        | (apply evd_callC; (case hf | hi | hys => (simp only [go_sem, d0, d4, Int.reduceToNat]; try rfl)); (case hs => first | exact h121 ..); (case hok | hw | hσ => (simp only [go_sem, d0, d4, Int.reduceToNat]; try rfl)))
        | (apply evd_step0; (case hr | hi | hσ => (simp only [go_sem, d0, d4, Int.reduceToNat]; try rfl)); (case hc => exact hcA))
        | (apply evd_step; (case hr | hi => (simp only [go_sem, d0, d4, Int.reduceToNat]; try rfl)); (case hc => exact hcA); (case hw | hσ => (intro g u; simp only [go_sem, d0, d4, Int.reduceToNat]; try rfl)); (case' hk => (intro g u; (try clear u); (try clear g))))
        | fail))); (case hB => kernel_rfl))
        | (apply ev_step0; (case hr | hσ => (simp only [go_sem, d0, d4, Int.reduceToNat]; try rfl)); (case hc => exact hcA))
        | (apply ev_step; (case hr => (simp only [go_sem, d0, d4, Int.reduceToNat]; try rfl)); (case hσ => (intro g u; simp only [go_sem, d0, d4, Int.reduceToNat]; try rfl)); (case hc => exact hcA); intro g u; (try clear u); (try clear g))
        | fail
      all_goals (refine resR_oneA ?_; simp only [go_sem])
      exact LeA.refl _
    · rw [if_neg (by omega), if_neg (by omega), if_pos rfl]
      generalize (decide (i ≥ -m) && decide (i ≤ m) && noS s) = q at *
      refine spec_of_awp (fn := Tryd.f60) Tryd.func60 (by kernel_rfl) rfl ?_
      intro w0 C0
      simp only [Tryd.ntmps60, litI, litB, litS, List.length_cons, List.length_nil, Nat.reduceAdd, Nat.reduceSub, List.replicate_succ, List.replicate_zero, List.cons_append, List.nil_append]
      repeat' first
        | refine awp_seq ?_
        | (refine reg _ (by (simp only [List.map_cons, List.map_nil]; rfl)) rfl ?_; intro K hK)
        | (refine awp_ret ?_; simp only [thenA, blockA, scopeA, RetQ])
        | (refine ev_nil (hK _ ?_); clear hK K)
        | (apply regD; (case hd => (simp only [List.map_cons, List.map_nil]; rfl)); (case hok => rfl); (case' h => (intro K hK; (repeat' first
        | (apply evd_nil; refine (hK _ ?_); clear hK K)
        | (apply evd_guardU0; (case hj | hu | hσ => (simp only [go_sem, d0, d4, Int.reduceToNat]; try rfl)))
        | (apply evd_guardU; (case hj | hu | hσ => (simp only [go_sem, d0, d4, Int.reduceToNat]; try rfl)))
        | (apply evd_skipT0; (case hj | hb | hσ => (simp only [go_sem, d0, d4, Int.reduceToNat]; try rfl)))
        | (apply evd_skipF0; (case hj | hb | hσ => (simp only [go_sem, d0, d4, Int.reduceToNat]; try rfl)))
        | (apply evd_skipT; (case hj | hb | hσ => (simp only [go_sem, d0, d4, Int.reduceToNat]; try rfl)))
        | (apply evd_skipF; (case hj | hb | hσ => (simp only [go_sem, d0, d4, Int.reduceToNat]; try rfl)))
        | (apply evd_guardT; (case hj | hb => (simp only [go_sem, d0, d4, Int.reduceToNat]; try rfl)); (case' h2 => (intro hb; first | (cases hb; done) | (simp only [hb]) | skip)); (case' h1 => (intro hb; first | (cases hb; done) | (simp only [hb]) | skip)))
        | (apply evd_guardF; (case hj | hb => (simp only [go_sem, d0, d4, Int.reduceToNat]; try rfl)); (case' h2 => (intro hb; first | (cases hb; done) | (simp only [hb]) | skip)); (case' h1 => (intro hb; first | (cases hb; done) | (simp only [hb]) | skip)))
        | (apply evd_callC; (case hf | hi | hys => (simp only [go_sem, d0, d4, Int.reduceToNat]; try rfl)); (case hs => first | exact h122 ..); (case hok | hw | hσ => (simp only [go_sem, d0, d4, Int.reduceToNat]; try rfl)))
        | (apply evd_step0; (case hr | hi | hσ => (simp only [go_sem, d0, d4, Int.reduceToNat]; try rfl)); (case hc => exact hcA))
        | (apply evd_step; (case hr | hi => (simp only [go_sem, d0, d4, Int.reduceToNat]; try rfl)); (case hc => exact hcA); (case hw | hσ => (intro g u; simp only [go_sem, d0, d4, Int.reduceToNat]; try rfl)); (case' hk => (intro g u; (try clear u); (try clear g))))
        | fail))); (case hB => kernel_rfl))
        | (apply ev_step0; (case hr | hσ => (simp only [go_sem, d0, d4, Int.reduceToNat]; try rfl)); (case hc => exact hcA))
        | (apply ev_step; (case hr => (simp only [go_sem, d0, d4, Int.reduceToNat]; try rfl)); (case hσ => (intro g u; simp only [go_sem, d0, d4, Int.reduceToNat]; try rfl)); (case hc => exact hcA); intro g u; (try clear u); (try clear g))
        | fail
      all_goals (refine resR_oneA ?_; simp only [go_sem])
      exact LeA.refl _
    · rw [if_neg (by omega), if_neg (by omega), if_neg (by omega), if_pos rfl]
      generalize ((i == 0) && decide ((s.size : Int) ≤ 40) && graphicB s) = q at *
      refine spec_of_awp (fn := Tryd.f60) Tryd.func60 (by kernel_rfl) rfl ?_
      intro w0 C0
      simp only [Tryd.ntmps60, litI, litB, litS, List.length_cons, List.length_nil, Nat.reduceAdd, Nat.reduceSub, List.replicate_succ, List.replicate_zero, List.cons_append, List.nil_append]
      repeat' first
        | refine awp_seq ?_
        | (refine reg _ (by (simp only [List.map_cons, List.map_nil]; rfl)) rfl ?_; intro K hK)
        | (refine awp_ret ?_; simp only [thenA, blockA, scopeA, RetQ])
        | (refine ev_nil (hK _ ?_); clear hK K)
        | (apply regD; (case hd => (simp only [List.map_cons, List.map_nil]; rfl)); (case hok => rfl); (case' h => (intro K hK; (repeat' first
        | (apply evd_nil; refine (hK _ ?_); clear hK K)
        | (apply evd_guardU0; (case hj | hu | hσ => (simp only [go_sem, d0, d4, Int.reduceToNat]; try rfl)))
        | (apply evd_guardU; (case hj | hu | hσ => (simp only [go_sem, d0, d4, Int.reduceToNat]; try rfl)))
        | (apply evd_skipT0; (case hj | hb | hσ => (simp only [go_sem, d0, d4, Int.reduceToNat]; try rfl)))
        | (apply evd_skipF0; (case hj | hb | hσ => (simp only [go_sem, d0, d4, Int.reduceToNat]; try rfl)))
        | (apply evd_skipT; (case hj | hb | hσ => (simp only [go_sem, d0, d4, Int.reduceToNat]; try rfl)))
        | (apply evd_skipF; (case hj | hb | hσ => (simp only [go_sem, d0, d4, Int.reduceToNat]; try rfl)))
        | (apply evd_guardT; (case hj | hb => (simp only [go_sem, d0, d4, Int.reduceToNat]; try rfl)); (case' h2 => (intro hb; first | (cases hb; done) | (simp only [hb]) | skip)); (case' h1 => (intro hb; first | (cases hb; done) | (simp only [hb]) | skip)))
        | (apply evd_guardF; (case hj | hb => (simp only [go_sem, d0, d4, Int.reduceToNat]; try rfl)); (case' h2 => (intro hb; first | (cases hb; done) | (simp only [hb]) | skip)); (case' h1 => (intro hb; first | (cases hb; done) | (simp only [hb]) | skip)))
        | (apply evd_callC; (case hf | hi | hys => (simp only [go_sem, d0, d4, Int.reduceToNat]; try rfl)); (case hs => first | exact h123 ..); (case hok | hw | hσ => (simp only [go_sem, d0, d4, Int.reduceToNat]; try rfl)))
        | (apply evd_step0; (case hr | hi | hσ => (simp only [go_sem, d0, d4, Int.reduceToNat]; try rfl)); (case hc => exact hcA))
        | (apply evd_step; (case hr | hi => (simp only [go_sem, d0, d4, Int.reduceToNat]; try rfl)); (case hc => exact hcA); (case hw | hσ => (intro g u; simp only [go_sem, d0, d4, Int.reduceToNat]; try rfl)); (case' hk => (intro g u; (try clear u); (try clear g))))
        | fail))); (case hB => kernel_rfl))
        | (apply ev_step0; (case hr | hσ => (simp only [go_sem, d0, d4, Int.reduceToNat]; try rfl)); (case hc => exact hcA))
        | (apply ev_step; (case hr => (simp only [go_sem, d0, d4, Int.reduceToNat]; try rfl)); (case hσ => (intro g u; simp only [go_sem, d0, d4, Int.reduceToNat]; try rfl)); (case hc => exact hcA); intro g u; (try clear u); (try clear g))
        | fail
      all_goals (refine resR_oneA ?_; simp only [go_sem])
      exact LeA.refl _
  · have d4 : decide (k < 4) = false := decide_eq_false h4
    rw [if_neg (by omega), if_neg (by omega), if_neg (by omega), if_neg (by omega)]
    refine spec_of_awp (fn := Tryd.f60) Tryd.func60 (by kernel_rfl) rfl ?_
    intro w0 C0
    simp only [Tryd.ntmps60, litI, litB, litS, List.length_cons, List.length_nil, Nat.reduceAdd, Nat.reduceSub, List.replicate_succ, List.replicate_zero, List.cons_append, List.nil_append]
    repeat' first
      | refine awp_seq ?_
      | (refine reg _ (by (simp only [List.map_cons, List.map_nil]; rfl)) rfl ?_; intro K hK)
      | (refine awp_ret ?_; simp only [thenA, blockA, scopeA, RetQ])
      | (refine ev_nil (hK _ ?_); clear hK K)
      | (apply regD; (case hd => (simp only [List.map_cons, List.map_nil]; rfl)); (case hok => rfl); (case' h => (intro K hK; (repeat' first
        | (apply evd_nil; refine (hK _ ?_); clear hK K)
        | (apply evd_guardU0; (case hj | hu | hσ => (simp only [go_sem, d0, d4]; try rfl)))
        | (apply evd_guardU; (case hj | hu | hσ => (simp only [go_sem, d0, d4]; try rfl)))
        | (apply evd_skipT0; (case hj | hb | hσ => (simp only [go_sem, d0, d4]; try rfl)))
        | (apply evd_skipF0; (case hj | hb | hσ => (simp only [go_sem, d0, d4]; try rfl)))
        | (apply evd_skipT; (case hj | hb | hσ => (simp only [go_sem, d0, d4]; try rfl)))
        | (apply evd_skipF; (case hj | hb | hσ => (simp only [go_sem, d0, d4]; try rfl)))
        | (apply evd_guardT; (case hj | hb => (simp only [go_sem, d0, d4]; try rfl)); (case' h2 => (intro hb; first | (cases hb; done) | (simp only [hb]) | skip)); (case' h1 => (intro hb; first | (cases hb; done) | (simp only [hb]) | skip)))
        | (apply evd_guardF; (case hj | hb => (simp only [go_sem, d0, d4]; try rfl)); (case' h2 => (intro hb; first | (cases hb; done) | (simp only [hb]) | skip)); (case' h1 => (intro hb; first | (cases hb; done) | (simp only [hb]) | skip)))
        | (apply evd_step0; (case hr | hi | hσ => (simp only [go_sem, d0, d4]; try rfl)); (case hc => exact hcA))
        | (apply evd_step; (case hr | hi => (simp only [go_sem, d0, d4]; try rfl)); (case hc => exact hcA); (case hw | hσ => (intro g u; simp only [go_sem, d0, d4]; try rfl)); (case' hk => (intro g u; (try clear u); (try clear g))))
        | fail))); (case hB => kernel_rfl))
      | (apply ev_step0; (case hr | hσ => (simp only [go_sem, d0, d4]; try rfl)); (case hc => exact hcA))
      | (apply ev_step; (case hr => (simp only [go_sem, d0, d4]; try rfl)); (case hσ => (intro g u; simp only [go_sem, d0, d4]; try rfl)); (case hc => exact hcA); intro g u; (try clear u); (try clear g))
      | fail
    all_goals (refine resR_oneA ?_; simp only [go_sem])
    exact LeA.refl _
abbrev wideV (v : Vl) : Bool := checkV v 4000000000000000000
theorem f40_spec (v : Vl) (hs : v.s.size ≤ 4611686018427387904) : Spec Tryd.prog 40 [.agg (vl v)] (litB (wideV v)) := by
  have h60 := f60_spec v 4000000000000000000 (by decide) hs
  refine spec_of_awp (fn := Tryd.f40) Tryd.func40 (by kernel_rfl) rfl ?_
  intro w0 C0
  simp only [Tryd.ntmps40, litI, litB, litS, List.length_cons, List.length_nil, Nat.reduceAdd, Nat.reduceSub, List.replicate_succ, List.replicate_zero, List.cons_append, List.nil_append]
  repeat' first
    | refine awp_seq ?_
    | (refine reg _ (by (simp only [List.map_cons, List.map_nil]; rfl)) rfl ?_; intro K hK)
    | (refine awp_ret ?_; simp only [thenA, blockA, scopeA, RetQ])
    | (refine ev_nil (hK _ ?_); clear hK K)
    | (apply ev_call0; (case hys => (simp only [go_sem]; try rfl)); (case hs => first | exact h60 ..); (case hok | hσ => (simp only [go_sem]; try rfl)))
    | (apply ev_step0; (case hr | hσ => (simp only [go_sem]; try rfl)); (case hc => exact hcA))
    | (apply ev_step; (case hr => (simp only [go_sem]; try rfl)); (case hσ => (intro g u; simp only [go_sem]; try rfl)); (case hc => exact hcA); intro g u; (try clear u); (try clear g))
    | fail
  all_goals (refine resR_oneA ?_; simp only [go_sem])
  exact LeA.refl _
end
section
set_option linter.unusedVariables false
set_option linter.unusedSimpArgs false
open Go.RowKit
attribute [local irreducible] Spec SpecF SpecN
attribute [local irreducible] AWp evOps evD
theorem wrap_u64 (n : Int) : IntKind.u64.wrap n = n % 18446744073709551616 := by
  simp [IntKind.wrap, IntKind.bits, IntKind.signed]
theorem find82 : Extern.find Tryd.f82 = (Go.Extern.MathBitsCarry.rows.head?).map (·.2) := by kernel_rfl
theorem next82 : Extern.findNext Tryd.f82 = none := by kernel_rfl
theorem f82_spec (x y c : Int) (hx : 0 ≤ x) (hy : 0 ≤ y) (hc : c = 0 ∨ c = 1) : SpecE Tryd.prog 82 [litI .u64 x, litI .u64 y, litI .u64 c] (.tup [litI .u64 ((x + y + c) % 18446744073709551616), litI .u64 ((x + y + c) / 18446744073709551616)]) := by
  intro m vs hv
  obtain ⟨a, b, d, rfl⟩ : ∃ a b d, vs = [a, b, d] := by
    have := hv.length
    match vs, this with
    | [a, b, d], _ => exact ⟨a, b, d, rfl⟩
  simp only [HasL, litI] at hv
  obtain ⟨h1, h2, h3, -⟩ := hv
  have h1 := has_lit h1
  have h2 := has_lit h2
  have h3 := has_lit h3
  subst h1; subst h2; subst h3
  refine ⟨.tuple #[.int .u64 ((x + y + c) % 18446744073709551616), .int .u64 ((x + y + c) / 18446744073709551616)], fun w => ?_, fun m' => ?_⟩
  · rw [run_callFunc_extern Tryd.func82 (by kernel_rfl) (by kernel_rfl) next82 find82]
    have hc' : ¬ c.toNat > 1 := by omega
    have e1 : ((x.toNat + y.toNat + c.toNat : Nat) : Int) = x + y + c := by omega
    have e2 : (((x.toNat + y.toNat + c.toNat) % 18446744073709551616 : Nat) : Int) = (x + y + c) % 18446744073709551616 := by omega
    have e3 : (((x.toNat + y.toNat + c.toNat) / 18446744073709551616 : Nat) : Int) = (x + y + c) / 18446744073709551616 := by omega
    have em : Extern.MathBitsCarry.m64 = 18446744073709551616 := by decide
    have e4 : (Extern.MathBitsCarry.three "Add64" #[.int .u64 x, .int .u64 y, .int .u64 c]).run Tryd.prog w = .ok (x.toNat, y.toNat, c.toNat) w := by
      rcases hc with rfl | rfl <;> rfl
    simp only [Sem.run_bind, e4, Sem.run_pure, Result.andThen_ok, Extern.MathBitsCarry.pair, em, Int.ofNat_eq_natCast, e2, e3]
  · simp only [Has, HasL, litI]
    exact ⟨[_, _], rfl, has_lit_mk _ rfl, has_lit_mk _ rfl, trivial⟩
/-- Whether a number is one that sums may hold. -/
def small (n : Int) : Bool := decide (-4000000000000000000 ≤ n) && decide (n ≤ 4000000000000000000)
theorem small_iff {n : Int} : small n = true ↔ -4000000000000000000 ≤ n ∧ n ≤ 4000000000000000000 := by
  simp [small]
theorem small_not {n : Int} : small n = false ↔ ¬ (-4000000000000000000 ≤ n ∧ n ≤ 4000000000000000000) := by
  rw [← small_iff]; simp
def sumL (l : List Int) : Int := l.foldr (· + ·) 0
def sumD (l : List Int) : Int × Int := if (l.all small && small (sumL l)) = true then (sumL l, 0) else (0, 2)
theorem sumL_take (l : List Int) {i : Nat} (h : i < l.length) : sumL (l.take (i + 1)) = sumL (l.take i) + l.getD i 0 := by
  induction l generalizing i with
  | nil => simp at h
  | cons a l ih =>
    cases i with
    | zero => simp [sumL]
    | succ i =>
      have := ih (i := i) (by simpa using h)
      simp only [List.take_succ_cons, sumL, List.foldr_cons, List.getD_cons_succ] at this ⊢
      omega
theorem sumL_bd : ∀ {l : List Int}, l.all small = true → -(4000000000000000000 * l.length) ≤ sumL l ∧ sumL l ≤ 4000000000000000000 * l.length
  | [], _ => by simp [sumL]
  | a :: l, h => by
    simp only [List.all_cons, Bool.and_eq_true] at h
    have h1 := small_iff.1 h.1
    have h2 := sumL_bd h.2
    simp only [sumL, List.foldr_cons, List.length_cons] at h2 ⊢
    push_cast
    omega
theorem take_all (l : List Int) {i : Nat} (h : i < l.length) : (l.take (i + 1)).all small = ((l.take i).all small && small (l.getD i 0)) := by
  induction l generalizing i with
  | nil => simp at h
  | cons a l ih =>
    cases i with
    | zero => simp
    | succ i =>
      have := ih (i := i) (by simpa using h)
      simp only [List.take_succ_cons, List.all_cons, List.getD_cons_succ] at this ⊢
      rw [this, Bool.and_assoc]
theorem all_at {l : List Int} (h : l.all small = true) {i : Nat} (hi : i < l.length) : small (l.getD i 0) = true := by
  rw [List.getD_eq_getElem?_getD, List.getElem?_eq_getElem hi]
  exact List.all_eq_true.1 h _ (List.getElem_mem hi)
theorem not_all {l : List Int} {i : Nat} (hi : i < l.length) (h : small (l.getD i 0) = false) : l.all small = false := by
  rcases hb : l.all small with _ | _
  · rfl
  · rw [all_at hb hi] at h; cases h
set_option maxHeartbeats 8000000 in
theorem f75_spec (l : List Int) (hb : ∀ x ∈ l, -9223372036854775808 ≤ x ∧ x ≤ 9223372036854775807) (hl : l.length ≤ 4611686018427387904) : Spec Tryd.prog 75 [.d (ints l)] (.tup [litI .i64 (sumD l).1, litI .i64 (sumD l).2]) := by
  refine spec_of_awp (fn := Tryd.f75) Tryd.func75 (by kernel_rfl) rfl ?_
  intro w0 C0
  simp only [Tryd.ntmps75, litI, litB, litS, List.length_cons, List.length_nil, Nat.reduceAdd, Nat.reduceSub, List.replicate_succ, List.replicate_zero, List.cons_append, List.nil_append]
  repeat' first
    | refine awp_seq ?_
    | refine awp_block ?_
    | refine awp_skip ?_
    | (refine reg _ (by (simp only [List.map_cons, List.map_nil]; rfl)) rfl ?_; intro K hK)
    | (apply ev_guardU; (case hj | hu | hσ => (simp only [go_sem]; try rfl)))
    | ((first | refine awp_cond _ (by rfl) ?_ ?_ | refine ev_guardT _ _ (by (simp only [go_sem]; rfl)) (by (simp only [go_sem]; rfl)) ?_ ?_ | refine ev_guardF _ _ (by (simp only [go_sem]; rfl)) (by (simp only [go_sem]; rfl)) ?_ ?_) <;> (intro hb; first | (cases hb; done) | (have ht : true = true := hb; clear ht hb) | (have ht : false = false := hb; clear ht hb) | (simp only [hb]) | skip))
    | (refine awp_exit ?_; simp only [thenA, blockA, scopeA, reduceIte, RetQ, Nat.reduceEqDiff])
    | (refine awp_ret ?_; simp only [thenA, blockA, scopeA, RetQ])
    | (refine ev_nil (hK _ ?_); clear hK K)
    | (apply ev_step0; (case hr | hσ => (simp only [go_sem]; try rfl)); (case hc => exact hcA))
    | (apply ev_step; (case hr => (simp only [go_sem]; try rfl)); (case hσ => (intro g u; simp only [go_sem]; try rfl)); (case hc => exact hcA); intro g u; (try clear u); (try clear g))
    | fail
  refine awp_loopI (fun i : Nat => i ≤ l.length ∧ (l.take i).all small = true) (fun i => l.length - i) (fun i => ⟨[.d (ints l), .any, litI .i64 0, litI .i64 0, litI .u64 ((sumL (l.take i) / 18446744073709551616) % 18446744073709551616), litI .u64 (sumL (l.take i) % 18446744073709551616), .any, .any, .any, .any, .any, .d (ints l), litI .i64 l.length, litI .i64 i, .any, .any, .any, .any, .any, .any, .any, .any, .any, .any, .any, .any, .any, .any, .any, .any, .any, .any, .any, .any, .any, .any, .any, .any, .any, .any, .any, .any, .any, .any, .any, .any, .any, .any, .any, .any, .any, .any, .any, .any, .any, .any, .any, .any, .any, .any, .any, .any, .any, .any, .any], [.no, .no, .no, .no, .no, .no, .no, .no, .no, .no, .no, .no, .no, .no, .no, .no, .no, .no, .no, .no, .no, .no, .no, .no, .no, .no, .no, .no, .no, .no, .no, .no, .no, .no, .no, .no, .no, .no, .no, .no, .no, .no, .no, .no, .no, .no, .no, .no, .no, .no, .no, .no, .no, .no, .no, .no, .no, .no, .no, .no, .no, .no, .no, .no, .no]⟩) 0 ⟨by omega, rfl⟩ ?_ ?_
  · exact wkA
  rintro i ⟨hi, hal⟩
  simp only [litI, litB]
  by_cases hlt : i < l.length
  rotate_left
  have hdec : decide ((i : Int) < (l.length : Int)) = false := by simp; omega
  · have hil : i = l.length := by omega
    subst hil
    rw [List.take_length] at hal ⊢
    have hbd := sumL_bd hal
    unfold sumD
    rw [hal, Bool.true_and]
    have hn : IntKind.i64.wrap (sumL l % 18446744073709551616) = (sumL l % 18446744073709551616 + 9223372036854775808) % 18446744073709551616 - 9223372036854775808 := by rw [IntKind.wrap_i64]
    obtain ⟨a, ha⟩ : ∃ a, sumL l = a := ⟨_, rfl⟩
    obtain ⟨n, hn'⟩ : ∃ n, IntKind.i64.wrap (sumL l % 18446744073709551616) = n := ⟨_, rfl⟩
    obtain ⟨hw, hhi⟩ : ∃ x, (sumL l / 18446744073709551616) % 18446744073709551616 = x := ⟨_, rfl⟩
    obtain ⟨lo, hlo⟩ : ∃ x, sumL l % 18446744073709551616 = x := ⟨_, rfl⟩
    rw [hn'] at hn
    rw [hhi, hlo]
    rw [hlo] at hn'
    rw [ha] at hn hhi hbd hlo ⊢
    generalize l.length = len at *
    cases hsm : small a with
    | true =>
      rw [small_iff] at hsm
      have hna : n = a := by omega
      rw [if_pos rfl]
      have d3 : decide (n < -4000000000000000000) = false := decide_eq_false (by omega)
      have d4 : decide (n > 4000000000000000000) = false := decide_eq_false (by omega)
      by_cases h0 : n < 0
      · have d1 : decide (n < 0) = true := decide_eq_true h0
        have d2 : decide (n ≥ 0) = false := decide_eq_false (by omega)
        have c1 : (hw != 18446744073709551615) = false := by simp; omega
        repeat' first
          | refine awp_seq ?_
          | refine awp_block ?_
          | refine awp_skip ?_
          | (refine reg _ (by (simp only [List.map_cons, List.map_nil]; rfl)) rfl ?_; intro K hK)
          | (apply ev_guardU; (case hj | hu | hσ => (simp only [go_sem, hdec, hn', d1, d2, d3, d4, c1]; try rfl)))
          | ((first | refine awp_cond _ (by rfl) ?_ ?_ | refine ev_guardT _ _ (by (simp only [go_sem, hdec, hn', d1, d2, d3, d4, c1]; rfl)) (by (simp only [go_sem, hdec, hn', d1, d2, d3, d4, c1]; rfl)) ?_ ?_ | refine ev_guardF _ _ (by (simp only [go_sem, hdec, hn', d1, d2, d3, d4, c1]; rfl)) (by (simp only [go_sem, hdec, hn', d1, d2, d3, d4, c1]; rfl)) ?_ ?_) <;> (intro hb; first | (cases hb; done) | (have ht : true = true := hb; clear ht hb) | (have ht : false = false := hb; clear ht hb) | (simp only [hb]) | skip))
          | (refine awp_exit ?_; simp only [thenA, blockA, scopeA, reduceIte, RetQ, Nat.reduceEqDiff])
          | (refine awp_ret ?_; simp only [thenA, blockA, scopeA, RetQ])
          | (refine ev_nil (hK _ ?_); clear hK K)
          | (apply ev_step0; (case hr | hσ => (simp only [go_sem, hdec, hn', d1, d2, d3, d4, c1]; try rfl)); (case hc => exact hcA))
          | (apply ev_step; (case hr => (simp only [go_sem, hdec, hn', d1, d2, d3, d4, c1]; try rfl)); (case hσ => (intro g u; simp only [go_sem, hdec, hn', d1, d2, d3, d4, c1]; try rfl)); (case hc => exact hcA); intro g u; (try clear u); (try clear g))
          | fail
        all_goals (refine resR_more T_ok rfl (by decide) _ (by (simp only [go_sem, resA]; rfl)) (by (intro rv hrv; simp only [List.mem_cons, List.not_mem_nil, or_false] at hrv; rcases hrv with rfl | rfl <;> first | trivial | simp only [go_sem, resA])) (by first | trivial | (simp only [go_sem])) ?_; simp only [go_sem])
        refine ⟨LeA.i hna, LeA.refl _, trivial⟩
      · have d1 : decide (n < 0) = false := decide_eq_false h0
        have d2 : decide (n ≥ 0) = true := decide_eq_true (by omega)
        have c1 : (hw != 0) = false := by simp; omega
        repeat' first
          | refine awp_seq ?_
          | refine awp_block ?_
          | refine awp_skip ?_
          | (refine reg _ (by (simp only [List.map_cons, List.map_nil]; rfl)) rfl ?_; intro K hK)
          | (apply ev_guardU; (case hj | hu | hσ => (simp only [go_sem, hdec, hn', d1, d2, d3, d4, c1]; try rfl)))
          | ((first | refine awp_cond _ (by rfl) ?_ ?_ | refine ev_guardT _ _ (by (simp only [go_sem, hdec, hn', d1, d2, d3, d4, c1]; rfl)) (by (simp only [go_sem, hdec, hn', d1, d2, d3, d4, c1]; rfl)) ?_ ?_ | refine ev_guardF _ _ (by (simp only [go_sem, hdec, hn', d1, d2, d3, d4, c1]; rfl)) (by (simp only [go_sem, hdec, hn', d1, d2, d3, d4, c1]; rfl)) ?_ ?_) <;> (intro hb; first | (cases hb; done) | (have ht : true = true := hb; clear ht hb) | (have ht : false = false := hb; clear ht hb) | (simp only [hb]) | skip))
          | (refine awp_exit ?_; simp only [thenA, blockA, scopeA, reduceIte, RetQ, Nat.reduceEqDiff])
          | (refine awp_ret ?_; simp only [thenA, blockA, scopeA, RetQ])
          | (refine ev_nil (hK _ ?_); clear hK K)
          | (apply ev_step0; (case hr | hσ => (simp only [go_sem, hdec, hn', d1, d2, d3, d4, c1]; try rfl)); (case hc => exact hcA))
          | (apply ev_step; (case hr => (simp only [go_sem, hdec, hn', d1, d2, d3, d4, c1]; try rfl)); (case hσ => (intro g u; simp only [go_sem, hdec, hn', d1, d2, d3, d4, c1]; try rfl)); (case hc => exact hcA); intro g u; (try clear u); (try clear g))
          | fail
        all_goals (refine resR_more T_ok rfl (by decide) _ (by (simp only [go_sem, resA]; rfl)) (by (intro rv hrv; simp only [List.mem_cons, List.not_mem_nil, or_false] at hrv; rcases hrv with rfl | rfl <;> first | trivial | simp only [go_sem, resA])) (by first | trivial | (simp only [go_sem])) ?_; simp only [go_sem])
        refine ⟨LeA.i hna, LeA.refl _, trivial⟩
    | false =>
      rw [small_not] at hsm
      rw [if_neg Bool.false_ne_true]
      by_cases h0 : n < 0
      · have d1 : decide (n < 0) = true := decide_eq_true h0
        have d2 : decide (n ≥ 0) = false := decide_eq_false (by omega)
        cases c1 : (hw != 18446744073709551615) with
        | true =>
          repeat' first
            | refine awp_seq ?_
            | refine awp_block ?_
            | refine awp_skip ?_
            | (refine reg _ (by (simp only [List.map_cons, List.map_nil]; rfl)) rfl ?_; intro K hK)
            | (apply ev_guardU; (case hj | hu | hσ => (simp only [go_sem, hdec, hn', d1, d2, c1]; try rfl)))
            | ((first | refine awp_cond _ (by rfl) ?_ ?_ | refine ev_guardT _ _ (by (simp only [go_sem, hdec, hn', d1, d2, c1]; rfl)) (by (simp only [go_sem, hdec, hn', d1, d2, c1]; rfl)) ?_ ?_ | refine ev_guardF _ _ (by (simp only [go_sem, hdec, hn', d1, d2, c1]; rfl)) (by (simp only [go_sem, hdec, hn', d1, d2, c1]; rfl)) ?_ ?_) <;> (intro hb; first | (cases hb; done) | (have ht : true = true := hb; clear ht hb) | (have ht : false = false := hb; clear ht hb) | (simp only [hb]) | skip))
            | (refine awp_exit ?_; simp only [thenA, blockA, scopeA, reduceIte, RetQ, Nat.reduceEqDiff])
            | (refine awp_ret ?_; simp only [thenA, blockA, scopeA, RetQ])
            | (refine ev_nil (hK _ ?_); clear hK K)
            | (apply ev_step0; (case hr | hσ => (simp only [go_sem, hdec, hn', d1, d2, c1]; try rfl)); (case hc => exact hcA))
            | (apply ev_step; (case hr => (simp only [go_sem, hdec, hn', d1, d2, c1]; try rfl)); (case hσ => (intro g u; simp only [go_sem, hdec, hn', d1, d2, c1]; try rfl)); (case hc => exact hcA); intro g u; (try clear u); (try clear g))
            | fail
          all_goals (refine resR_more T_ok rfl (by decide) _ (by (simp only [go_sem, resA]; rfl)) (by (intro rv hrv; simp only [List.mem_cons, List.not_mem_nil, or_false] at hrv; rcases hrv with rfl | rfl <;> first | trivial | simp only [go_sem, resA])) (by first | trivial | (simp only [go_sem])) ?_; simp only [go_sem])
          refine ⟨LeA.refl _, LeA.refl _, trivial⟩
        | false =>
          have c1' : hw = 18446744073709551615 := by simpa using c1
          have d3 : decide (n < -4000000000000000000) = true := decide_eq_true (by omega)
          repeat' first
            | refine awp_seq ?_
            | refine awp_block ?_
            | refine awp_skip ?_
            | (refine reg _ (by (simp only [List.map_cons, List.map_nil]; rfl)) rfl ?_; intro K hK)
            | (apply ev_guardU; (case hj | hu | hσ => (simp only [go_sem, hdec, hn', d1, d2, c1, d3]; try rfl)))
            | ((first | refine awp_cond _ (by rfl) ?_ ?_ | refine ev_guardT _ _ (by (simp only [go_sem, hdec, hn', d1, d2, c1, d3]; rfl)) (by (simp only [go_sem, hdec, hn', d1, d2, c1, d3]; rfl)) ?_ ?_ | refine ev_guardF _ _ (by (simp only [go_sem, hdec, hn', d1, d2, c1, d3]; rfl)) (by (simp only [go_sem, hdec, hn', d1, d2, c1, d3]; rfl)) ?_ ?_) <;> (intro hb; first | (cases hb; done) | (have ht : true = true := hb; clear ht hb) | (have ht : false = false := hb; clear ht hb) | (simp only [hb]) | skip))
            | (refine awp_exit ?_; simp only [thenA, blockA, scopeA, reduceIte, RetQ, Nat.reduceEqDiff])
            | (refine awp_ret ?_; simp only [thenA, blockA, scopeA, RetQ])
            | (refine ev_nil (hK _ ?_); clear hK K)
            | (apply ev_step0; (case hr | hσ => (simp only [go_sem, hdec, hn', d1, d2, c1, d3]; try rfl)); (case hc => exact hcA))
            | (apply ev_step; (case hr => (simp only [go_sem, hdec, hn', d1, d2, c1, d3]; try rfl)); (case hσ => (intro g u; simp only [go_sem, hdec, hn', d1, d2, c1, d3]; try rfl)); (case hc => exact hcA); intro g u; (try clear u); (try clear g))
            | fail
          all_goals (refine resR_more T_ok rfl (by decide) _ (by (simp only [go_sem, resA]; rfl)) (by (intro rv hrv; simp only [List.mem_cons, List.not_mem_nil, or_false] at hrv; rcases hrv with rfl | rfl <;> first | trivial | simp only [go_sem, resA])) (by first | trivial | (simp only [go_sem])) ?_; simp only [go_sem])
          refine ⟨LeA.refl _, LeA.refl _, trivial⟩
      · have d1 : decide (n < 0) = false := decide_eq_false h0
        have d2 : decide (n ≥ 0) = true := decide_eq_true (by omega)
        cases c1 : (hw != 0) with
        | true =>
          repeat' first
            | refine awp_seq ?_
            | refine awp_block ?_
            | refine awp_skip ?_
            | (refine reg _ (by (simp only [List.map_cons, List.map_nil]; rfl)) rfl ?_; intro K hK)
            | (apply ev_guardU; (case hj | hu | hσ => (simp only [go_sem, hdec, hn', d1, d2, c1]; try rfl)))
            | ((first | refine awp_cond _ (by rfl) ?_ ?_ | refine ev_guardT _ _ (by (simp only [go_sem, hdec, hn', d1, d2, c1]; rfl)) (by (simp only [go_sem, hdec, hn', d1, d2, c1]; rfl)) ?_ ?_ | refine ev_guardF _ _ (by (simp only [go_sem, hdec, hn', d1, d2, c1]; rfl)) (by (simp only [go_sem, hdec, hn', d1, d2, c1]; rfl)) ?_ ?_) <;> (intro hb; first | (cases hb; done) | (have ht : true = true := hb; clear ht hb) | (have ht : false = false := hb; clear ht hb) | (simp only [hb]) | skip))
            | (refine awp_exit ?_; simp only [thenA, blockA, scopeA, reduceIte, RetQ, Nat.reduceEqDiff])
            | (refine awp_ret ?_; simp only [thenA, blockA, scopeA, RetQ])
            | (refine ev_nil (hK _ ?_); clear hK K)
            | (apply ev_step0; (case hr | hσ => (simp only [go_sem, hdec, hn', d1, d2, c1]; try rfl)); (case hc => exact hcA))
            | (apply ev_step; (case hr => (simp only [go_sem, hdec, hn', d1, d2, c1]; try rfl)); (case hσ => (intro g u; simp only [go_sem, hdec, hn', d1, d2, c1]; try rfl)); (case hc => exact hcA); intro g u; (try clear u); (try clear g))
            | fail
          all_goals (refine resR_more T_ok rfl (by decide) _ (by (simp only [go_sem, resA]; rfl)) (by (intro rv hrv; simp only [List.mem_cons, List.not_mem_nil, or_false] at hrv; rcases hrv with rfl | rfl <;> first | trivial | simp only [go_sem, resA])) (by first | trivial | (simp only [go_sem])) ?_; simp only [go_sem])
          refine ⟨LeA.refl _, LeA.refl _, trivial⟩
        | false =>
          have c1' : hw = 0 := by simpa using c1
          have d3 : decide (n < -4000000000000000000) = false := decide_eq_false (by omega)
          have d4 : decide (n > 4000000000000000000) = true := decide_eq_true (by omega)
          repeat' first
            | refine awp_seq ?_
            | refine awp_block ?_
            | refine awp_skip ?_
            | (refine reg _ (by (simp only [List.map_cons, List.map_nil]; rfl)) rfl ?_; intro K hK)
            | (apply ev_guardU; (case hj | hu | hσ => (simp only [go_sem, hdec, hn', d1, d2, c1, d3, d4]; try rfl)))
            | ((first | refine awp_cond _ (by rfl) ?_ ?_ | refine ev_guardT _ _ (by (simp only [go_sem, hdec, hn', d1, d2, c1, d3, d4]; rfl)) (by (simp only [go_sem, hdec, hn', d1, d2, c1, d3, d4]; rfl)) ?_ ?_ | refine ev_guardF _ _ (by (simp only [go_sem, hdec, hn', d1, d2, c1, d3, d4]; rfl)) (by (simp only [go_sem, hdec, hn', d1, d2, c1, d3, d4]; rfl)) ?_ ?_) <;> (intro hb; first | (cases hb; done) | (have ht : true = true := hb; clear ht hb) | (have ht : false = false := hb; clear ht hb) | (simp only [hb]) | skip))
            | (refine awp_exit ?_; simp only [thenA, blockA, scopeA, reduceIte, RetQ, Nat.reduceEqDiff])
            | (refine awp_ret ?_; simp only [thenA, blockA, scopeA, RetQ])
            | (refine ev_nil (hK _ ?_); clear hK K)
            | (apply ev_step0; (case hr | hσ => (simp only [go_sem, hdec, hn', d1, d2, c1, d3, d4]; try rfl)); (case hc => exact hcA))
            | (apply ev_step; (case hr => (simp only [go_sem, hdec, hn', d1, d2, c1, d3, d4]; try rfl)); (case hσ => (intro g u; simp only [go_sem, hdec, hn', d1, d2, c1, d3, d4]; try rfl)); (case hc => exact hcA); intro g u; (try clear u); (try clear g))
            | fail
          all_goals (refine resR_more T_ok rfl (by decide) _ (by (simp only [go_sem, resA]; rfl)) (by (intro rv hrv; simp only [List.mem_cons, List.not_mem_nil, or_false] at hrv; rcases hrv with rfl | rfl <;> first | trivial | simp only [go_sem, resA])) (by first | trivial | (simp only [go_sem])) ?_; simp only [go_sem])
          refine ⟨LeA.refl _, LeA.refl _, trivial⟩
  have hdec : decide ((i : Int) < (l.length : Int)) = true := by simp; omega
  have hx := ints_at l hlt
  have hm : l.getD i 0 ∈ l := by rw [List.getD_eq_getElem?_getD, List.getElem?_eq_getElem hlt]; exact List.getElem_mem hlt
  have hxb := hb _ hm
  have hta := take_all l hlt
  have hst := sumL_take l hlt
  have hbd := sumL_bd hal
  have htl : (l.take i).length = i := by rw [List.length_take]; omega
  rw [htl] at hbd
  have hna := not_all hlt
  generalize l.getD i 0 = x at *
  cases hsm : small x with
  | false =>
    have hno := hna hsm
    rw [small_not] at hsm
    unfold sumD
    rw [hno, Bool.false_and, if_neg Bool.false_ne_true]
    by_cases h1 : x < -4000000000000000000
    · have d1 : decide (x < -4000000000000000000) = true := decide_eq_true h1
      repeat' first
        | refine awp_seq ?_
        | refine awp_block ?_
        | refine awp_skip ?_
        | (refine reg _ (by (simp only [List.map_cons, List.map_nil]; rfl)) rfl ?_; intro K hK)
        | (apply ev_guardU; (case hj | hu | hσ => (simp only [go_sem, hdec, hx, d1]; try rfl)))
        | ((first | refine awp_cond _ (by rfl) ?_ ?_ | refine ev_guardT _ _ (by (simp only [go_sem, hdec, hx, d1]; rfl)) (by (simp only [go_sem, hdec, hx, d1]; rfl)) ?_ ?_ | refine ev_guardF _ _ (by (simp only [go_sem, hdec, hx, d1]; rfl)) (by (simp only [go_sem, hdec, hx, d1]; rfl)) ?_ ?_) <;> (intro hb; first | (cases hb; done) | (have ht : true = true := hb; clear ht hb) | (have ht : false = false := hb; clear ht hb) | (simp only [hb]) | skip))
        | (refine awp_exit ?_; simp only [thenA, blockA, scopeA, reduceIte, RetQ, Nat.reduceEqDiff])
        | (refine awp_ret ?_; simp only [thenA, blockA, scopeA, RetQ])
        | (refine ev_nil (hK _ ?_); clear hK K)
        | (apply ev_step0; (case hr | hσ => (simp only [go_sem, hdec, hx, d1]; try rfl)); (case hc => exact hcA))
        | (apply ev_step; (case hr => (simp only [go_sem, hdec, hx, d1]; try rfl)); (case hσ => (intro g u; simp only [go_sem, hdec, hx, d1]; try rfl)); (case hc => exact hcA); intro g u; (try clear u); (try clear g))
        | fail
      all_goals (refine resR_more T_ok rfl (by decide) _ (by (simp only [go_sem, resA]; rfl)) (by (intro rv hrv; simp only [List.mem_cons, List.not_mem_nil, or_false] at hrv; rcases hrv with rfl | rfl <;> first | trivial | simp only [go_sem, resA])) (by first | trivial | (simp only [go_sem])) ?_; simp only [go_sem])
      refine ⟨LeA.refl _, LeA.refl _, trivial⟩
    · have d1 : decide (x < -4000000000000000000) = false := decide_eq_false h1
      have d2 : decide (x > 4000000000000000000) = true := decide_eq_true (by omega)
      repeat' first
        | refine awp_seq ?_
        | refine awp_block ?_
        | refine awp_skip ?_
        | (refine reg _ (by (simp only [List.map_cons, List.map_nil]; rfl)) rfl ?_; intro K hK)
        | (apply ev_guardU; (case hj | hu | hσ => (simp only [go_sem, hdec, hx, d1, d2]; try rfl)))
        | ((first | refine awp_cond _ (by rfl) ?_ ?_ | refine ev_guardT _ _ (by (simp only [go_sem, hdec, hx, d1, d2]; rfl)) (by (simp only [go_sem, hdec, hx, d1, d2]; rfl)) ?_ ?_ | refine ev_guardF _ _ (by (simp only [go_sem, hdec, hx, d1, d2]; rfl)) (by (simp only [go_sem, hdec, hx, d1, d2]; rfl)) ?_ ?_) <;> (intro hb; first | (cases hb; done) | (have ht : true = true := hb; clear ht hb) | (have ht : false = false := hb; clear ht hb) | (simp only [hb]) | skip))
        | (refine awp_exit ?_; simp only [thenA, blockA, scopeA, reduceIte, RetQ, Nat.reduceEqDiff])
        | (refine awp_ret ?_; simp only [thenA, blockA, scopeA, RetQ])
        | (refine ev_nil (hK _ ?_); clear hK K)
        | (apply ev_step0; (case hr | hσ => (simp only [go_sem, hdec, hx, d1, d2]; try rfl)); (case hc => exact hcA))
        | (apply ev_step; (case hr => (simp only [go_sem, hdec, hx, d1, d2]; try rfl)); (case hσ => (intro g u; simp only [go_sem, hdec, hx, d1, d2]; try rfl)); (case hc => exact hcA); intro g u; (try clear u); (try clear g))
        | fail
      all_goals (refine resR_more T_ok rfl (by decide) _ (by (simp only [go_sem, resA]; rfl)) (by (intro rv hrv; simp only [List.mem_cons, List.not_mem_nil, or_false] at hrv; rcases hrv with rfl | rfl <;> first | trivial | simp only [go_sem, resA])) (by first | trivial | (simp only [go_sem])) ?_; simp only [go_sem])
      refine ⟨LeA.refl _, LeA.refl _, trivial⟩
  | true =>
    rw [hal, hsm] at hta
    rw [small_iff] at hsm
    have d1 : decide (x < -4000000000000000000) = false := decide_eq_false (by omega)
    have d2 : decide (x > 4000000000000000000) = false := decide_eq_false (by omega)
    obtain ⟨lo, hlo⟩ : ∃ y, sumL (l.take i) % 18446744073709551616 = y := ⟨_, rfl⟩
    obtain ⟨hi', hhi⟩ : ∃ y, (sumL (l.take i) / 18446744073709551616) % 18446744073709551616 = y := ⟨_, rfl⟩
    obtain ⟨un, hun⟩ : ∃ y, x % 18446744073709551616 = y := ⟨_, rfl⟩
    obtain ⟨us, hus⟩ : ∃ y, (if x < 0 then (18446744073709551615 : Int) else 0) = y := ⟨_, rfl⟩
    obtain ⟨cr, hcr⟩ : ∃ y, (lo + un + 0) / 18446744073709551616 = y := ⟨_, rfl⟩
    have a1 := f82_spec lo un 0 (by omega) (by omega) (.inl rfl)
    have hc01 : cr = 0 ∨ cr = 1 := by omega
    have a2 := f82_spec hi' us cr (by omega) (by rw [← hus]; split <;> omega) hc01
    have w1 : IntKind.u64.wrap x = un := by rw [wrap_u64, hun]
    rw [hcr] at a1
    have e1 : (lo + un + 0) % 18446744073709551616 = sumL (l.take (i + 1)) % 18446744073709551616 := by rw [hst]; omega
    have e2 : (hi' + us + cr) % 18446744073709551616 = (sumL (l.take (i + 1)) / 18446744073709551616) % 18446744073709551616 := by
      rw [hst]
      by_cases hneg : x < 0
      · rw [if_pos hneg] at hus; omega
      · rw [if_neg hneg] at hus; omega
    rw [e1] at a1
    rw [e2] at a2
    rw [hlo, hhi]
    by_cases hneg : x < 0
    · have d3 : decide (x < 0) = true := decide_eq_true hneg
      rw [if_pos hneg] at hus
      subst hus
      repeat' first
        | refine awp_seq ?_
        | refine awp_block ?_
        | refine awp_skip ?_
        | (refine reg _ (by (simp only [List.map_cons, List.map_nil]; rfl)) rfl ?_; intro K hK)
        | (apply ev_guardU; (case hj | hu | hσ => (simp only [go_sem, hdec, hx, d1, d2, d3, w1]; try rfl)))
        | ((first | refine awp_cond _ (by rfl) ?_ ?_ | refine ev_guardT _ _ (by (simp only [go_sem, hdec, hx, d1, d2, d3, w1]; rfl)) (by (simp only [go_sem, hdec, hx, d1, d2, d3, w1]; rfl)) ?_ ?_ | refine ev_guardF _ _ (by (simp only [go_sem, hdec, hx, d1, d2, d3, w1]; rfl)) (by (simp only [go_sem, hdec, hx, d1, d2, d3, w1]; rfl)) ?_ ?_) <;> (intro hb; first | (cases hb; done) | (have ht : true = true := hb; clear ht hb) | (have ht : false = false := hb; clear ht hb) | (simp only [hb]) | skip))
        | (refine awp_exit ?_; simp only [thenA, blockA, scopeA, reduceIte, RetQ, Nat.reduceEqDiff])
        | (refine awp_ret ?_; simp only [thenA, blockA, scopeA, RetQ])
        | (refine ev_nil (hK _ ?_); clear hK K)
        | (apply ev_callE0; (case hys => (simp only [go_sem, hdec, hx, d1, d2, d3, w1]; try rfl)); (case hs => first | exact a1 | exact a2); (case hσ => (simp only [go_sem, hdec, hx, d1, d2, d3, w1]; try rfl)))
        | (apply ev_step0; (case hr | hσ => (simp only [go_sem, hdec, hx, d1, d2, d3, w1]; try rfl)); (case hc => exact hcA))
        | (apply ev_step; (case hr => (simp only [go_sem, hdec, hx, d1, d2, d3, w1]; try rfl)); (case hσ => (intro g u; simp only [go_sem, hdec, hx, d1, d2, d3, w1]; try rfl)); (case hc => exact hcA); intro g u; (try clear u); (try clear g))
        | fail
      refine Exists.intro (i + 1) ⟨⟨by omega, hta⟩, by omega, ?_⟩
      exact wkA
    · have d3 : decide (x < 0) = false := decide_eq_false hneg
      rw [if_neg hneg] at hus
      subst hus
      repeat' first
        | refine awp_seq ?_
        | refine awp_block ?_
        | refine awp_skip ?_
        | (refine reg _ (by (simp only [List.map_cons, List.map_nil]; rfl)) rfl ?_; intro K hK)
        | (apply ev_guardU; (case hj | hu | hσ => (simp only [go_sem, hdec, hx, d1, d2, d3, w1]; try rfl)))
        | ((first | refine awp_cond _ (by rfl) ?_ ?_ | refine ev_guardT _ _ (by (simp only [go_sem, hdec, hx, d1, d2, d3, w1]; rfl)) (by (simp only [go_sem, hdec, hx, d1, d2, d3, w1]; rfl)) ?_ ?_ | refine ev_guardF _ _ (by (simp only [go_sem, hdec, hx, d1, d2, d3, w1]; rfl)) (by (simp only [go_sem, hdec, hx, d1, d2, d3, w1]; rfl)) ?_ ?_) <;> (intro hb; first | (cases hb; done) | (have ht : true = true := hb; clear ht hb) | (have ht : false = false := hb; clear ht hb) | (simp only [hb]) | skip))
        | (refine awp_exit ?_; simp only [thenA, blockA, scopeA, reduceIte, RetQ, Nat.reduceEqDiff])
        | (refine awp_ret ?_; simp only [thenA, blockA, scopeA, RetQ])
        | (refine ev_nil (hK _ ?_); clear hK K)
        | (apply ev_callE0; (case hys => (simp only [go_sem, hdec, hx, d1, d2, d3, w1]; try rfl)); (case hs => first | exact a1 | exact a2); (case hσ => (simp only [go_sem, hdec, hx, d1, d2, d3, w1]; try rfl)))
        | (apply ev_step0; (case hr | hσ => (simp only [go_sem, hdec, hx, d1, d2, d3, w1]; try rfl)); (case hc => exact hcA))
        | (apply ev_step; (case hr => (simp only [go_sem, hdec, hx, d1, d2, d3, w1]; try rfl)); (case hσ => (intro g u; simp only [go_sem, hdec, hx, d1, d2, d3, w1]; try rfl)); (case hc => exact hcA); intro g u; (try clear u); (try clear g))
        | fail
      refine Exists.intro (i + 1) ⟨⟨by omega, hta⟩, by omega, ?_⟩
      exact wkA
theorem f55_spec (l : List Int) (hb : ∀ x ∈ l, -9223372036854775808 ≤ x ∧ x ≤ 9223372036854775807) (hl : l.length ≤ 4611686018427387904) : Spec Tryd.prog 55 [.d (ints l)] (.tup [litI .i64 (sumD l).1, litI .i64 (sumD l).2]) := by
  have h75 := f75_spec l hb hl
  rcases hs : (l.all small && small (sumL l)) with _ | _
  · have e : sumD l = (0, 2) := by unfold sumD; rw [hs, if_neg Bool.false_ne_true]
    rw [e] at h75 ⊢
    refine spec_of_awp (fn := Tryd.f55) Tryd.func55 (by kernel_rfl) rfl ?_
    intro w0 C0
    simp only [Tryd.ntmps55, litI, litB, litS, List.length_cons, List.length_nil, Nat.reduceAdd, Nat.reduceSub, List.replicate_succ, List.replicate_zero, List.cons_append, List.nil_append]
    repeat' first
      | refine awp_seq ?_
      | refine awp_block ?_
      | refine awp_skip ?_
      | (refine reg _ (by (simp only [List.map_cons, List.map_nil]; rfl)) rfl ?_; intro K hK)
      | ((refine awp_cond _ (by rfl) ?_ ?_) <;> (intro hb; first | (cases hb; done) | (have ht : true = true := hb; clear ht hb) | (have ht : false = false := hb; clear ht hb) | (simp only [hb]) | skip))
      | (refine awp_exit ?_; simp only [thenA, blockA, scopeA, reduceIte, RetQ, Nat.reduceEqDiff])
      | (refine awp_ret ?_; simp only [thenA, blockA, scopeA, RetQ])
      | (refine ev_nil (hK _ ?_); clear hK K)
      | (apply ev_call0; (case hys => (simp only [go_sem]; try rfl)); (case hs => first | exact h75 ..); (case hok | hσ => (simp only [go_sem]; try rfl)))
      | (apply ev_step0; (case hr | hσ => (simp only [go_sem]; try rfl)); (case hc => exact hcA))
      | (apply ev_step; (case hr => (simp only [go_sem]; try rfl)); (case hσ => (intro g u; simp only [go_sem]; try rfl)); (case hc => exact hcA); intro g u; (try clear u); (try clear g))
      | fail
    all_goals (refine resR_more T_ok rfl (by decide) _ (by (simp only [go_sem, resA]; rfl)) (by (intro rv hrv; simp only [List.mem_cons, List.not_mem_nil, or_false] at hrv; rcases hrv with rfl | rfl <;> first | trivial | simp only [go_sem, resA])) (by first | trivial | (simp only [go_sem])) ?_; simp only [go_sem])
    exact ⟨LeA.refl _, LeA.refl _, trivial⟩
  · have e : sumD l = (sumL l, 0) := by unfold sumD; rw [hs, if_pos rfl]
    rw [e] at h75 ⊢
    refine spec_of_awp (fn := Tryd.f55) Tryd.func55 (by kernel_rfl) rfl ?_
    intro w0 C0
    simp only [Tryd.ntmps55, litI, litB, litS, List.length_cons, List.length_nil, Nat.reduceAdd, Nat.reduceSub, List.replicate_succ, List.replicate_zero, List.cons_append, List.nil_append]
    repeat' first
      | refine awp_seq ?_
      | refine awp_block ?_
      | refine awp_skip ?_
      | (refine reg _ (by (simp only [List.map_cons, List.map_nil]; rfl)) rfl ?_; intro K hK)
      | ((refine awp_cond _ (by rfl) ?_ ?_) <;> (intro hb; first | (cases hb; done) | (have ht : true = true := hb; clear ht hb) | (have ht : false = false := hb; clear ht hb) | (simp only [hb]) | skip))
      | (refine awp_exit ?_; simp only [thenA, blockA, scopeA, reduceIte, RetQ, Nat.reduceEqDiff])
      | (refine awp_ret ?_; simp only [thenA, blockA, scopeA, RetQ])
      | (refine ev_nil (hK _ ?_); clear hK K)
      | (apply ev_call0; (case hys => (simp only [go_sem]; try rfl)); (case hs => first | exact h75 ..); (case hok | hσ => (simp only [go_sem]; try rfl)))
      | (apply ev_step0; (case hr | hσ => (simp only [go_sem]; try rfl)); (case hc => exact hcA))
      | (apply ev_step; (case hr => (simp only [go_sem]; try rfl)); (case hσ => (intro g u; simp only [go_sem]; try rfl)); (case hc => exact hcA); intro g u; (try clear u); (try clear g))
      | fail
    all_goals (refine resR_more T_ok rfl (by decide) _ (by (simp only [go_sem, resA]; rfl)) (by (intro rv hrv; simp only [List.mem_cons, List.not_mem_nil, or_false] at hrv; rcases hrv with rfl | rfl <;> first | trivial | simp only [go_sem, resA])) (by first | trivial | (simp only [go_sem])) ?_; simp only [go_sem])
    exact ⟨LeA.refl _, LeA.refl _, trivial⟩
end
section
set_option linter.unusedVariables false
set_option linter.unusedSimpArgs false
open Go.RowKit
attribute [local irreducible] Spec SpecF SpecN
attribute [local irreducible] AWp evOps evD
/-- Bounds. -/
structure Bd where
  nulls : Int
  has : Bool
  lo : Vl
  hi : Vl
  sum : Int
abbrev bd (b : Bd) : List AV := [litI .i64 b.nulls, litB b.has, litI .i64 b.lo.k, litI .i64 b.lo.i, litS b.lo.s, litI .i64 b.hi.k, litI .i64 b.hi.i, litS b.hi.s, litI .i64 b.sum]
abbrev bdD (b : Bd) : List Dat := [.lit (.int .i64 b.nulls), .lit (.bool b.has), .lit (.int .i64 b.lo.k), .lit (.int .i64 b.lo.i), .lit (.string b.lo.s), .lit (.int .i64 b.hi.k), .lit (.int .i64 b.hi.i), .lit (.string b.hi.s), .lit (.int .i64 b.sum)]
abbrev zeroBd : Bd := ⟨0, false, nullV, nullV, 0⟩
def isNull (v : Vl) : Bool := (v.k == 0) && ((v.i == 0) && noS v.s)
def badV (b : Bd) (v : Vl) : Bool := !wideV v || (!isNull v && b.has && (v.k != b.lo.k))
def startV (b : Bd) (v : Vl) : Bd := if b.has = true then b else ⟨b.nulls, true, v, v, b.sum⟩
def lowV (b : Bd) (v : Vl) : Bd := if cmpV v b.lo < 0 then ⟨b.nulls, b.has, v, b.hi, b.sum⟩ else b
def highV (b : Bd) (v : Vl) : Bd := if cmpV v b.hi > 0 then ⟨b.nulls, b.has, b.lo, v, b.sum⟩ else b
def ofIn (b : Bd) (v : Vl) : Bd := highV (lowV (startV b v) v) v
def ofS (b : Bd) : List Vl → Option Bd
  | [] => some b
  | v :: l => if badV b v = true then none else if isNull v = true then ofS ⟨b.nulls + 1, b.has, b.lo, b.hi, b.sum⟩ l else ofS (ofIn b v) l
def numsV (l : List Vl) : List Int := (l.filter fun v => v.k == 2).map (·.i)
def ofM (l : List Vl) : Bd × Int := match ofS zeroBd l with
  | none => (zeroBd, 6)
  | some b => if (sumD (numsV l)).2 = 0 then (⟨b.nulls, b.has, b.lo, b.hi, (sumD (numsV l)).1⟩, 0) else (zeroBd, (sumD (numsV l)).2)
structure VlOk (v : Vl) : Prop where
  i : -9223372036854775808 ≤ v.i ∧ v.i ≤ 9223372036854775807
  s : v.s.size ≤ 4611686018427387904
abbrev dV : Vl := nullV
theorem vls_at (l : List Vl) {i : Nat} (h : i < l.length) : (l.map vlD).getD i [] = vlD (l.getD i dV) := by
  simp [List.getD_eq_getElem?_getD, h]
theorem mem_at {α : Type} (l : List α) (d : α) {i : Nat} (h : i < l.length) : l.getD i d ∈ l := by
  rw [List.getD_eq_getElem?_getD, List.getElem?_eq_getElem h]; exact List.getElem_mem h
theorem take_at {α : Type} (l : List α) (d : α) {i : Nat} (h : i < l.length) : l.take (i + 1) = l.take i ++ [l.getD i d] := by
  rw [List.take_succ_eq_append_getElem h]; simp [List.getD_eq_getElem?_getD, h]
theorem numsV_step (l : List Vl) {i : Nat} (h : i < l.length) : numsV (l.take (i + 1)) = if ((l.getD i dV).k == 2) = true then numsV (l.take i) ++ [(l.getD i dV).i] else numsV (l.take i) := by
  rw [take_at l dV h]
  unfold numsV
  rw [List.filter_append, List.map_append]
  generalize l.getD i dV = v
  split
  · rename_i h1; simp only [List.filter_cons, List.filter_nil, h1, if_true, List.map_cons, List.map_nil]
  · rename_i h1; simp only [List.filter_cons, List.filter_nil, h1, if_false, Bool.false_eq_true, List.map_nil, List.append_nil]
theorem cmpI_self (a : Int) : cmpI a a = 0 := cmpI_zero.2 rfl
theorem cmpB_self (a : ByteArray) : cmpB a a = 0 := by
  have h : ∀ l : List UInt8, Op.bytesLess l l = false := by
    intro l
    induction l with
    | nil => rfl
    | cons x l ih => simp [Op.bytesLess, ih]
  unfold cmpB
  rw [h]; simp
theorem cmpV_self (v : Vl) : cmpV v v = 0 := by
  simp [cmpV, firstNZ, cmpI_self, cmpB_self]
theorem numsV_len (l : List Vl) : (numsV l).length ≤ l.length := by
  unfold numsV
  rw [List.length_map]
  exact List.length_filter_le _ _
set_option maxHeartbeats 8000000 in
theorem f35_spec (l : List Vl) (hb : ∀ v ∈ l, VlOk v) (hl : l.length ≤ 16777216) : Spec Tryd.prog 35 [.d (vls l)] (.tup [.agg (bd (ofM l).1), litI .i64 (ofM l).2]) := by
  have h55 := f55_spec (numsV l) (by
    intro x hx
    simp only [numsV, List.mem_map, List.mem_filter] at hx
    obtain ⟨v, ⟨hv, _⟩, rfl⟩ := hx
    exact (hb v hv).i) (by have := numsV_len l; omega)
  have hnl := numsV_len l
  refine spec_of_awp (fn := Tryd.f35) Tryd.func35 (by kernel_rfl) rfl ?_
  intro w0 C0
  simp only [Tryd.ntmps35, litI, litB, litS, List.length_cons, List.length_nil, Nat.reduceAdd, Nat.reduceSub, List.replicate_succ, List.replicate_zero, List.cons_append, List.nil_append]
  repeat' first
    | refine awp_seq ?_
    | refine awp_block ?_
    | refine awp_skip ?_
    | (refine reg _ (by (simp only [List.map_cons, List.map_nil]; rfl)) rfl ?_; intro K hK)
    | (apply ev_guardU; (case hj | hu | hσ => (simp only [go_sem]; try rfl)))
    | ((first | refine awp_cond _ (by rfl) ?_ ?_ | refine ev_guardT _ _ (by (simp only [go_sem]; rfl)) (by (simp only [go_sem]; rfl)) ?_ ?_ | refine ev_guardF _ _ (by (simp only [go_sem]; rfl)) (by (simp only [go_sem]; rfl)) ?_ ?_) <;> (intro hb; first | (cases hb; done) | (have ht : true = true := hb; clear ht hb) | (have ht : false = false := hb; clear ht hb) | (simp only [hb]) | skip))
    | (refine awp_exit ?_; simp only [thenA, blockA, scopeA, reduceIte, RetQ, Nat.reduceEqDiff])
    | (refine awp_ret ?_; simp only [thenA, blockA, scopeA, RetQ])
    | (refine ev_nil (hK _ ?_); clear hK K)
    | (apply ev_step0; (case hr | hσ => (simp only [go_sem]; try rfl)); (case hc => exact hcA))
    | (apply ev_step; (case hr => (simp only [go_sem]; try rfl)); (case hσ => (intro g u; simp only [go_sem]; try rfl)); (case hc => exact hcA); intro g u; (try clear u); (try clear g))
    | fail
  rename_i g2
  revert g; intro g4
  refine awp_loopI (fun j : Nat × (Bd × Value) => j.1 ≤ l.length ∧ ofS j.2.1 (l.drop j.1) = ofS zeroBd l ∧ (0 ≤ j.2.1.nulls ∧ j.2.1.nulls ≤ j.1) ∧ j.2.1.sum = 0) (fun j => l.length - j.1) (fun j => ⟨[.any, .any, .ptr 2 g2 0, litI .i64 0, .ptr 4 g4 0, .own 73 j.2.2, .any, .any, .any, .any, .d (vls l), litI .i64 l.length, litI .i64 j.1, .any, .any, .any, .any, .any, .any, .any, .any, .any, .any, .any, .any, .any, .any, .any, .any, .any, .any, .any, .any, .any, .any, .any, .any, .any, .any, .any, .any, .any, .any, .any, .any, .any, .any, .any, .any, .any, .any, .any, .any, .any, .any, .any, .any, .any, .any, .any, .any, .any, .any, .any, .any, .any, .any, .any, .any, .any, .any, .any, .any, .any, .any, .any, .any, .any, .any, .any, .any, .any, .any, .any, .any, .any, .any], [.no, .no, .box g2 (bd zeroBd), .no, .box g4 (bd j.2.1), .no, .no, .no, .no, .no, .no, .no, .no, .no, .no, .no, .no, .no, .no, .no, .no, .no, .no, .no, .no, .no, .no, .no, .no, .no, .no, .no, .no, .no, .no, .no, .no, .no, .no, .no, .no, .no, .no, .no, .no, .no, .no, .no, .no, .no, .no, .no, .no, .no, .no, .no, .no, .no, .no, .no, .no, .no, .no, .no, .no, .no, .no, .no, .no, .no, .no, .no, .no, .row j.2.2 3 1 ((numsV (l.take j.1)).map fun n => [.lit (.int .i64 n)]), .no, .no, .no, .no, .no, .no, .no, .no, .no, .no, .no, .no, .no]⟩) (0, zeroBd, .slice none 0 0) ⟨by simp, rfl, by simp, rfl⟩ ?_ ?_
  · exact wkA
  rintro ⟨i, b, u0⟩ ⟨hi, hof, ⟨hn0, hn1⟩, hsum⟩
  simp only [litI, litB, litS] at hi hof hn0 hn1 hsum ⊢
  by_cases hlt : i < l.length
  rotate_left
  have hdec : decide ((i : Int) < (l.length : Int)) = false := by simp; omega
  · have hil : i = l.length := by omega
    subst hil
    rw [List.drop_length, ofS] at hof
    rw [List.take_length]
    rcases hs : ((numsV l).all small && small (sumL (numsV l))) with _ | _
    · have e : sumD (numsV l) = (0, 2) := by unfold sumD; rw [hs, if_neg Bool.false_ne_true]
      have em : ofM l = (zeroBd, 2) := by unfold ofM; rw [← hof, e]; rfl
      rw [e] at h55
      rw [em]
      repeat' first
        | refine awp_seq ?_
        | refine awp_block ?_
        | refine awp_skip ?_
        | (refine reg _ (by (simp only [List.map_cons, List.map_nil]; rfl)) rfl ?_; intro K hK)
        | (apply ev_guardU; (case hj | hu | hσ => (simp only [go_sem, hdec]; try rfl)))
        | ((first | refine awp_cond _ (by rfl) ?_ ?_ | refine ev_guardT _ _ (by (simp only [go_sem, hdec]; rfl)) (by (simp only [go_sem, hdec]; rfl)) ?_ ?_ | refine ev_guardF _ _ (by (simp only [go_sem, hdec]; rfl)) (by (simp only [go_sem, hdec]; rfl)) ?_ ?_) <;> (intro hb; first | (cases hb; done) | (have ht : true = true := hb; clear ht hb) | (have ht : false = false := hb; clear ht hb) | (simp only [hb]) | skip))
        | (refine awp_exit ?_; simp only [thenA, blockA, scopeA, reduceIte, RetQ, Nat.reduceEqDiff])
        | (refine awp_ret ?_; simp only [thenA, blockA, scopeA, RetQ])
        | (refine ev_nil (hK _ ?_); clear hK K)
        | (apply ev_call0; (case hys => (simp only [go_sem, hdec]; try rfl)); (case hs => first | exact h55 ..); (case hok | hσ => (simp only [go_sem, hdec]; try rfl)))
        | (apply ev_step0; (case hr | hσ => (simp only [go_sem, hdec]; try rfl)); (case hc => exact hcA))
        | (apply ev_step; (case hr => (simp only [go_sem, hdec]; try rfl)); (case hσ => (intro g u; simp only [go_sem, hdec]; try rfl)); (case hc => exact hcA); intro g u; (try clear u); (try clear g))
        | fail
      all_goals (refine resR_more T_ok rfl (by decide) _ (by (simp only [go_sem, resA]; rfl)) (by (intro rv hrv; simp only [List.mem_cons, List.not_mem_nil, or_false] at hrv; rcases hrv with rfl | rfl <;> first | trivial | simp only [go_sem, resA])) (by first | trivial | (simp only [go_sem])) ?_; simp only [go_sem])
      refine ⟨LeA.refl _, LeA.refl _, trivial⟩
    · have e : sumD (numsV l) = (sumL (numsV l), 0) := by unfold sumD; rw [hs, if_pos rfl]
      have em : ofM l = (⟨b.nulls, b.has, b.lo, b.hi, sumL (numsV l)⟩, 0) := by unfold ofM; rw [← hof, e]; rfl
      rw [e] at h55
      rw [em]
      repeat' first
        | refine awp_seq ?_
        | refine awp_block ?_
        | refine awp_skip ?_
        | (refine reg _ (by (simp only [List.map_cons, List.map_nil]; rfl)) rfl ?_; intro K hK)
        | (apply ev_guardU; (case hj | hu | hσ => (simp only [go_sem, hdec]; try rfl)))
        | ((first | refine awp_cond _ (by rfl) ?_ ?_ | refine ev_guardT _ _ (by (simp only [go_sem, hdec]; rfl)) (by (simp only [go_sem, hdec]; rfl)) ?_ ?_ | refine ev_guardF _ _ (by (simp only [go_sem, hdec]; rfl)) (by (simp only [go_sem, hdec]; rfl)) ?_ ?_) <;> (intro hb; first | (cases hb; done) | (have ht : true = true := hb; clear ht hb) | (have ht : false = false := hb; clear ht hb) | (simp only [hb]) | skip))
        | (refine awp_exit ?_; simp only [thenA, blockA, scopeA, reduceIte, RetQ, Nat.reduceEqDiff])
        | (refine awp_ret ?_; simp only [thenA, blockA, scopeA, RetQ])
        | (refine ev_nil (hK _ ?_); clear hK K)
        | (apply ev_call0; (case hys => (simp only [go_sem, hdec]; try rfl)); (case hs => first | exact h55 ..); (case hok | hσ => (simp only [go_sem, hdec]; try rfl)))
        | (apply ev_step0; (case hr | hσ => (simp only [go_sem, hdec]; try rfl)); (case hc => exact hcA))
        | (apply ev_step; (case hr => (simp only [go_sem, hdec]; try rfl)); (case hσ => (intro g u; simp only [go_sem, hdec]; try rfl)); (case hc => exact hcA); intro g u; (try clear u); (try clear g))
        | fail
      all_goals (refine resR_more T_ok rfl (by decide) _ (by (simp only [go_sem, resA]; rfl)) (by (intro rv hrv; simp only [List.mem_cons, List.not_mem_nil, or_false] at hrv; rcases hrv with rfl | rfl <;> first | trivial | simp only [go_sem, resA])) (by first | trivial | (simp only [go_sem])) ?_; simp only [go_sem])
      refine ⟨LeA.refl _, LeA.refl _, trivial⟩
  have hdec : decide ((i : Int) < (l.length : Int)) = true := by simp; omega
  have hx := vls_at l hlt
  have hm := hb _ (mem_at l dV hlt)
  have hns := numsV_step l hlt
  rw [drop_at l dV hlt, ofS] at hof
  generalize l.getD i dV = v at *
  have h40 := f40_spec v hm.s
  have hq : ((v.k == 0) && ((v.i == 0) && (v.s.toList == (⟨#[]⟩ : ByteArray).toList))) = isNull v := rfl
  obtain ⟨N, hN⟩ : ∃ N, isNull v = N := ⟨_, rfl⟩
  rw [hN] at hq
  cases hw : wideV v with
  | false =>
    rw [hw] at h40
    have : badV b v = true := by simp [badV, hw]
    rw [if_pos this] at hof
    have e : ofM l = (zeroBd, 6) := by unfold ofM; rw [← hof]
    rw [e]
    repeat' first
      | refine awp_seq ?_
      | refine awp_block ?_
      | refine awp_skip ?_
      | (refine reg _ (by (simp only [List.map_cons, List.map_nil]; rfl)) rfl ?_; intro K hK)
      | (apply ev_guardU; (case hj | hu | hσ => (simp only [go_sem, hdec, hx]; try rfl)))
      | ((first | refine awp_cond _ (by rfl) ?_ ?_ | refine ev_guardT _ _ (by (simp only [go_sem, hdec, hx]; rfl)) (by (simp only [go_sem, hdec, hx]; rfl)) ?_ ?_ | refine ev_guardF _ _ (by (simp only [go_sem, hdec, hx]; rfl)) (by (simp only [go_sem, hdec, hx]; rfl)) ?_ ?_) <;> (intro hb; first | (cases hb; done) | (have ht : true = true := hb; clear ht hb) | (have ht : false = false := hb; clear ht hb) | (simp only [hb]) | skip))
      | (refine awp_exit ?_; simp only [thenA, blockA, scopeA, reduceIte, RetQ, Nat.reduceEqDiff])
      | (refine awp_ret ?_; simp only [thenA, blockA, scopeA, RetQ])
      | (refine ev_nil (hK _ ?_); clear hK K)
      | (apply ev_call0; (case hys => (simp only [go_sem, hdec, hx]; try rfl)); (case hs => first | exact h40 ..); (case hok | hσ => (simp only [go_sem, hdec, hx]; try rfl)))
      | (apply ev_step0; (case hr | hσ => (simp only [go_sem, hdec, hx]; try rfl)); (case hc => exact hcA))
      | (apply ev_step; (case hr => (simp only [go_sem, hdec, hx]; try rfl)); (case hσ => (intro g u; simp only [go_sem, hdec, hx]; try rfl)); (case hc => exact hcA); intro g u; (try clear u); (try clear g))
      | fail
    all_goals (refine resR_more T_ok rfl (by decide) _ (by (simp only [go_sem, resA]; rfl)) (by (intro rv hrv; simp only [List.mem_cons, List.not_mem_nil, or_false] at hrv; rcases hrv with rfl | rfl <;> first | trivial | simp only [go_sem, resA])) (by first | trivial | (simp only [go_sem])) ?_; simp only [go_sem])
    refine ⟨LeA.refl _, LeA.refl _, trivial⟩
  | true =>
  rw [hw] at h40
  have hbad : badV b v = (!N && b.has && (v.k != b.lo.k)) := by simp [badV, hw, hN]
  cases N with
  | true =>
    rw [hbad] at hof
    rw [if_neg (by simp), if_pos hN] at hof
    have w1 : IntKind.i64.wrap (b.nulls + 1) = b.nulls + 1 := wrap_id (by omega)
    have hk : (v.k == 2) = false := by
      unfold isNull at hN
      simp only [Bool.and_eq_true, beq_iff_eq] at hN
      rw [hN.1]; rfl
    rw [hk, if_neg Bool.false_ne_true] at hns
    repeat' first
      | refine awp_seq ?_
      | refine awp_block ?_
      | refine awp_skip ?_
      | (refine reg _ (by (simp only [List.map_cons, List.map_nil]; rfl)) rfl ?_; intro K hK)
      | (apply ev_guardU; (case hj | hu | hσ => (simp only [go_sem, hdec, hx, hq, w1]; try rfl)))
      | ((first | refine awp_cond _ (by rfl) ?_ ?_ | refine ev_guardT _ _ (by (simp only [go_sem, hdec, hx, hq, w1]; rfl)) (by (simp only [go_sem, hdec, hx, hq, w1]; rfl)) ?_ ?_ | refine ev_guardF _ _ (by (simp only [go_sem, hdec, hx, hq, w1]; rfl)) (by (simp only [go_sem, hdec, hx, hq, w1]; rfl)) ?_ ?_) <;> (intro hb; first | (cases hb; done) | (have ht : true = true := hb; clear ht hb) | (have ht : false = false := hb; clear ht hb) | (simp only [hb]) | skip))
      | (refine awp_exit ?_; simp only [thenA, blockA, scopeA, reduceIte, RetQ, Nat.reduceEqDiff])
      | (refine awp_ret ?_; simp only [thenA, blockA, scopeA, RetQ])
      | (refine ev_nil (hK _ ?_); clear hK K)
      | (apply ev_call0; (case hys => (simp only [go_sem, hdec, hx, hq, w1]; try rfl)); (case hs => first | exact h40 ..); (case hok | hσ => (simp only [go_sem, hdec, hx, hq, w1]; try rfl)))
      | (apply ev_step0; (case hr | hσ => (simp only [go_sem, hdec, hx, hq, w1]; try rfl)); (case hc => exact hcA))
      | (apply ev_step; (case hr => (simp only [go_sem, hdec, hx, hq, w1]; try rfl)); (case hσ => (intro g u; simp only [go_sem, hdec, hx, hq, w1]; try rfl)); (case hc => exact hcA); intro g u; (try clear u); (try clear g))
      | fail
    refine Exists.intro (i + 1, (⟨b.nulls + 1, b.has, b.lo, b.hi, b.sum⟩, u0)) ⟨⟨by simp only; omega, hof, by simp only; omega, hsum⟩, by simp only; omega, ?_⟩
    simp only [hns]
    exact wkA
  | false =>
  rw [hbad, Bool.not_false, Bool.true_and] at hof
  simp only [hN, Bool.false_eq_true, if_false] at hof
  have hnt : (numsV (l.take i)).length ≤ 16777216 := by
    have := numsV_len (l.take i)
    rw [List.length_take] at this
    omega
  have hap : ∀ x : Int, ((numsV (l.take i)) ++ [x]).map (fun n => [Dat.lit (.int .i64 n)]) = (numsV (l.take i)).map (fun n => [Dat.lit (.int .i64 n)]) ++ [[.lit (.int .i64 x)]] := fun x => by simp
  obtain ⟨bn, bh, bl, bi, bsm⟩ := b
  simp only at hof hn0 hn1 hsum
  subst hsum
  cases bh with
  | true =>
    rw [Bool.true_and] at hof
    cases hk : (v.k != bl.k) with
    | true =>
      rw [hk, if_pos rfl] at hof
      have e : ofM l = (zeroBd, 6) := by unfold ofM; rw [← hof]
      rw [e]
      repeat' first
        | refine awp_seq ?_
        | refine awp_block ?_
        | refine awp_skip ?_
        | (refine reg _ (by (simp only [List.map_cons, List.map_nil]; rfl)) rfl ?_; intro K hK)
        | (apply ev_guardU; (case hj | hu | hσ => (simp only [go_sem, hdec, hx, hq, hk]; try rfl)))
        | ((first | refine awp_cond _ (by rfl) ?_ ?_ | refine ev_guardT _ _ (by (simp only [go_sem, hdec, hx, hq, hk]; rfl)) (by (simp only [go_sem, hdec, hx, hq, hk]; rfl)) ?_ ?_ | refine ev_guardF _ _ (by (simp only [go_sem, hdec, hx, hq, hk]; rfl)) (by (simp only [go_sem, hdec, hx, hq, hk]; rfl)) ?_ ?_) <;> (intro hb; first | (cases hb; done) | (have ht : true = true := hb; clear ht hb) | (have ht : false = false := hb; clear ht hb) | (simp only [hb]) | skip))
        | (refine awp_exit ?_; simp only [thenA, blockA, scopeA, reduceIte, RetQ, Nat.reduceEqDiff])
        | (refine awp_ret ?_; simp only [thenA, blockA, scopeA, RetQ])
        | (refine ev_nil (hK _ ?_); clear hK K)
        | (apply ev_call0; (case hys => (simp only [go_sem, hdec, hx, hq, hk]; try rfl)); (case hs => first | exact h40 ..); (case hok | hσ => (simp only [go_sem, hdec, hx, hq, hk]; try rfl)))
        | (apply ev_step0; (case hr | hσ => (simp only [go_sem, hdec, hx, hq, hk]; try rfl)); (case hc => exact hcA))
        | (apply ev_step; (case hr => (simp only [go_sem, hdec, hx, hq, hk]; try rfl)); (case hσ => (intro g u; simp only [go_sem, hdec, hx, hq, hk]; try rfl)); (case hc => exact hcA); intro g u; (try clear u); (try clear g))
        | fail
      all_goals (refine resR_more T_ok rfl (by decide) _ (by (simp only [go_sem, resA]; rfl)) (by (intro rv hrv; simp only [List.mem_cons, List.not_mem_nil, or_false] at hrv; rcases hrv with rfl | rfl <;> first | trivial | simp only [go_sem, resA])) (by first | trivial | (simp only [go_sem])) ?_; simp only [go_sem])
      refine ⟨LeA.refl _, LeA.refl _, trivial⟩
    | false =>
      rw [hk, if_neg Bool.false_ne_true] at hof
      have a1 := f41_spec v bl
      have a2 := f41_spec v bi
      have hofI : ofIn ⟨bn, true, bl, bi, 0⟩ v = ⟨bn, true, if cmpV v bl < 0 then v else bl, if cmpV v bi > 0 then v else bi, 0⟩ := by
        simp only [ofIn, startV, if_true, lowV, highV]
        split <;> simp only <;> split <;> rfl
      rw [hofI] at hof
      generalize cmpV v bl = c1 at *
      generalize cmpV v bi = c2 at *
      cases hk2 : (v.k == 2) with
      | false =>
        rw [hk2, if_neg Bool.false_ne_true] at hns
        by_cases h1 : c1 < 0 <;> by_cases h2 : c2 > 0 <;> simp only [h1, h2, if_true, if_false] at hof
        all_goals (first | have d1 : decide (c1 < 0) = true := decide_eq_true h1 | have d1 : decide (c1 < 0) = false := decide_eq_false h1)
        all_goals (first | have d2 : decide (c2 > 0) = true := decide_eq_true h2 | have d2 : decide (c2 > 0) = false := decide_eq_false h2)
        all_goals
          repeat' first
            | refine awp_seq ?_
            | refine awp_block ?_
            | refine awp_skip ?_
            | (refine reg _ (by (simp only [List.map_cons, List.map_nil]; rfl)) rfl ?_; intro K hK)
            | (apply ev_guardU; (case hj | hu | hσ => (simp only [go_sem, hdec, hx, hq, hk, hk2, d1, d2]; try rfl)))
            | ((first | refine awp_cond _ (by rfl) ?_ ?_ | refine ev_guardT _ _ (by (simp only [go_sem, hdec, hx, hq, hk, hk2, d1, d2]; rfl)) (by (simp only [go_sem, hdec, hx, hq, hk, hk2, d1, d2]; rfl)) ?_ ?_ | refine ev_guardF _ _ (by (simp only [go_sem, hdec, hx, hq, hk, hk2, d1, d2]; rfl)) (by (simp only [go_sem, hdec, hx, hq, hk, hk2, d1, d2]; rfl)) ?_ ?_) <;> (intro hb; first | (cases hb; done) | (have ht : true = true := hb; clear ht hb) | (have ht : false = false := hb; clear ht hb) | (simp only [hb]) | skip))
            | (refine awp_exit ?_; simp only [thenA, blockA, scopeA, reduceIte, RetQ, Nat.reduceEqDiff])
            | (refine awp_ret ?_; simp only [thenA, blockA, scopeA, RetQ])
            | (refine ev_nil (hK _ ?_); clear hK K)
            | (apply ev_call0; (case hys => (simp only [go_sem, hdec, hx, hq, hk, hk2, d1, d2]; try rfl)); (case hs => first | exact h40 .. | exact a1 .. | exact a2 ..); (case hok | hσ => (simp only [go_sem, hdec, hx, hq, hk, hk2, d1, d2]; try rfl)))
            | (apply ev_step0; (case hr | hσ => (simp only [go_sem, hdec, hx, hq, hk, hk2, d1, d2]; try rfl)); (case hc => exact hcA))
            | (apply ev_step; (case hr => (simp only [go_sem, hdec, hx, hq, hk, hk2, d1, d2]; try rfl)); (case hσ => (intro g u; simp only [go_sem, hdec, hx, hq, hk, hk2, d1, d2]; try rfl)); (case hc => exact hcA); intro g u; (try clear u); (try clear g))
            | fail
          refine Exists.intro (i + 1, (_, u0)) ⟨⟨by simp only; omega, hof, by simp only; omega, rfl⟩, by simp only; omega, ?_⟩
          simp only [hns, hap]
          exact wkA
      | true =>
        rw [hk2, if_pos rfl] at hns
        by_cases h1 : c1 < 0 <;> by_cases h2 : c2 > 0 <;> simp only [h1, h2, if_true, if_false] at hof
        all_goals (first | have d1 : decide (c1 < 0) = true := decide_eq_true h1 | have d1 : decide (c1 < 0) = false := decide_eq_false h1)
        all_goals (first | have d2 : decide (c2 > 0) = true := decide_eq_true h2 | have d2 : decide (c2 > 0) = false := decide_eq_false h2)
        all_goals
          repeat' first
            | refine awp_seq ?_
            | refine awp_block ?_
            | refine awp_skip ?_
            | (refine reg _ (by (simp only [List.map_cons, List.map_nil]; rfl)) rfl ?_; intro K hK)
            | (apply ev_guardU; (case hj | hu | hσ => (simp only [go_sem, hdec, hx, hq, hk, hk2, d1, d2]; try rfl)))
            | ((first | refine awp_cond _ (by rfl) ?_ ?_ | refine ev_guardT _ _ (by (simp only [go_sem, hdec, hx, hq, hk, hk2, d1, d2]; rfl)) (by (simp only [go_sem, hdec, hx, hq, hk, hk2, d1, d2]; rfl)) ?_ ?_ | refine ev_guardF _ _ (by (simp only [go_sem, hdec, hx, hq, hk, hk2, d1, d2]; rfl)) (by (simp only [go_sem, hdec, hx, hq, hk, hk2, d1, d2]; rfl)) ?_ ?_) <;> (intro hb; first | (cases hb; done) | (have ht : true = true := hb; clear ht hb) | (have ht : false = false := hb; clear ht hb) | (simp only [hb]) | skip))
            | (refine awp_exit ?_; simp only [thenA, blockA, scopeA, reduceIte, RetQ, Nat.reduceEqDiff])
            | (refine awp_ret ?_; simp only [thenA, blockA, scopeA, RetQ])
            | (refine ev_nil (hK _ ?_); clear hK K)
            | (apply ev_call0; (case hys => (simp only [go_sem, hdec, hx, hq, hk, hk2, d1, d2]; try rfl)); (case hs => first | exact h40 .. | exact a1 .. | exact a2 ..); (case hok | hσ => (simp only [go_sem, hdec, hx, hq, hk, hk2, d1, d2]; try rfl)))
            | (apply ev_step0; (case hr | hσ => (simp only [go_sem, hdec, hx, hq, hk, hk2, d1, d2]; try rfl)); (case hc => exact hcA))
            | (apply ev_step; (case hr => (simp only [go_sem, hdec, hx, hq, hk, hk2, d1, d2]; try rfl)); (case hσ => (intro g u; simp only [go_sem, hdec, hx, hq, hk, hk2, d1, d2]; try rfl)); (case hc => exact hcA); intro g u; (try clear u); (try clear g))
            | fail
          refine Exists.intro (i + 1, (_, u)) ⟨⟨by simp only; omega, hof, by simp only; omega, rfl⟩, by simp only; omega, ?_⟩
          simp only [hns, hap]
          exact wkA
  | false =>
    have a1 := f41_spec v v
    rw [cmpV_self] at a1
    have hofI : ofIn ⟨bn, false, bl, bi, 0⟩ v = ⟨bn, true, v, v, 0⟩ := by
      simp [ofIn, startV, lowV, highV, cmpV_self]
    rw [Bool.false_and, if_neg Bool.false_ne_true, hofI] at hof
    cases hk2 : (v.k == 2) with
    | false =>
      rw [hk2, if_neg Bool.false_ne_true] at hns
      repeat' first
        | refine awp_seq ?_
        | refine awp_block ?_
        | refine awp_skip ?_
        | (refine reg _ (by (simp only [List.map_cons, List.map_nil]; rfl)) rfl ?_; intro K hK)
        | (apply ev_guardU; (case hj | hu | hσ => (simp only [go_sem, hdec, hx, hq, hk2]; try rfl)))
        | ((first | refine awp_cond _ (by rfl) ?_ ?_ | refine ev_guardT _ _ (by (simp only [go_sem, hdec, hx, hq, hk2]; rfl)) (by (simp only [go_sem, hdec, hx, hq, hk2]; rfl)) ?_ ?_ | refine ev_guardF _ _ (by (simp only [go_sem, hdec, hx, hq, hk2]; rfl)) (by (simp only [go_sem, hdec, hx, hq, hk2]; rfl)) ?_ ?_) <;> (intro hb; first | (cases hb; done) | (have ht : true = true := hb; clear ht hb) | (have ht : false = false := hb; clear ht hb) | (simp only [hb]) | skip))
        | (refine awp_exit ?_; simp only [thenA, blockA, scopeA, reduceIte, RetQ, Nat.reduceEqDiff])
        | (refine awp_ret ?_; simp only [thenA, blockA, scopeA, RetQ])
        | (refine ev_nil (hK _ ?_); clear hK K)
        | (apply ev_call0; (case hys => (simp only [go_sem, hdec, hx, hq, hk2]; try rfl)); (case hs => first | exact h40 .. | exact a1 ..); (case hok | hσ => (simp only [go_sem, hdec, hx, hq, hk2]; try rfl)))
        | (apply regD; (case hd => (simp only [List.map_cons, List.map_nil]; rfl)); (case hok => rfl); (case' h => (intro K hK; (repeat' first
        | (apply evd_nil; refine (hK _ ?_); clear hK K)
        | (apply evd_step0; (case hr | hi | hσ => (simp only [go_sem, hdec, hx, hq, hk2]; try rfl)); (case hc => exact hcA))
        | (apply evd_step; (case hr | hi => (simp only [go_sem, hdec, hx, hq, hk2]; try rfl)); (case hc => exact hcA); (case hw | hσ => (intro g u; simp only [go_sem, hdec, hx, hq, hk2]; try rfl)); (case' hk => (intro g u; (try clear u); (try clear g))))
        | fail))); (case hB => kernel_rfl))
        | (apply ev_step0; (case hr | hσ => (simp only [go_sem, hdec, hx, hq, hk2]; try rfl)); (case hc => exact hcA))
        | (apply ev_step; (case hr => (simp only [go_sem, hdec, hx, hq, hk2]; try rfl)); (case hσ => (intro g u; simp only [go_sem, hdec, hx, hq, hk2]; try rfl)); (case hc => exact hcA); intro g u; (try clear u); (try clear g))
        | fail
      refine Exists.intro (i + 1, (_, u0)) ⟨⟨by simp only; omega, hof, by simp only; omega, rfl⟩, by simp only; omega, ?_⟩
      simp only [hns, hap]
      exact wkA
    | true =>
      rw [hk2, if_pos rfl] at hns
      repeat' first
        | refine awp_seq ?_
        | refine awp_block ?_
        | refine awp_skip ?_
        | (refine reg _ (by (simp only [List.map_cons, List.map_nil]; rfl)) rfl ?_; intro K hK)
        | (apply ev_guardU; (case hj | hu | hσ => (simp only [go_sem, hdec, hx, hq, hk2]; try rfl)))
        | ((first | refine awp_cond _ (by rfl) ?_ ?_ | refine ev_guardT _ _ (by (simp only [go_sem, hdec, hx, hq, hk2]; rfl)) (by (simp only [go_sem, hdec, hx, hq, hk2]; rfl)) ?_ ?_ | refine ev_guardF _ _ (by (simp only [go_sem, hdec, hx, hq, hk2]; rfl)) (by (simp only [go_sem, hdec, hx, hq, hk2]; rfl)) ?_ ?_) <;> (intro hb; first | (cases hb; done) | (have ht : true = true := hb; clear ht hb) | (have ht : false = false := hb; clear ht hb) | (simp only [hb]) | skip))
        | (refine awp_exit ?_; simp only [thenA, blockA, scopeA, reduceIte, RetQ, Nat.reduceEqDiff])
        | (refine awp_ret ?_; simp only [thenA, blockA, scopeA, RetQ])
        | (refine ev_nil (hK _ ?_); clear hK K)
        | (apply ev_call0; (case hys => (simp only [go_sem, hdec, hx, hq, hk2]; try rfl)); (case hs => first | exact h40 .. | exact a1 ..); (case hok | hσ => (simp only [go_sem, hdec, hx, hq, hk2]; try rfl)))
        | (apply regD; (case hd => (simp only [List.map_cons, List.map_nil]; rfl)); (case hok => rfl); (case' h => (intro K hK; (repeat' first
        | (apply evd_nil; refine (hK _ ?_); clear hK K)
        | (apply evd_step0; (case hr | hi | hσ => (simp only [go_sem, hdec, hx, hq, hk2]; try rfl)); (case hc => exact hcA))
        | (apply evd_step; (case hr | hi => (simp only [go_sem, hdec, hx, hq, hk2]; try rfl)); (case hc => exact hcA); (case hw | hσ => (intro g u; simp only [go_sem, hdec, hx, hq, hk2]; try rfl)); (case' hk => (intro g u; (try clear u); (try clear g))))
        | fail))); (case hB => kernel_rfl))
        | (apply ev_step0; (case hr | hσ => (simp only [go_sem, hdec, hx, hq, hk2]; try rfl)); (case hc => exact hcA))
        | (apply ev_step; (case hr => (simp only [go_sem, hdec, hx, hq, hk2]; try rfl)); (case hσ => (intro g u; simp only [go_sem, hdec, hx, hq, hk2]; try rfl)); (case hc => exact hcA); intro g u; (try clear u); (try clear g))
        | fail
      refine Exists.intro (i + 1, (_, u)) ⟨⟨by simp only; omega, hof, by simp only; omega, rfl⟩, by simp only; omega, ?_⟩
      simp only [hns, hap]
      exact wkA
end
end Go.Proofs.YtopigomfhggkoaaDoor.A
