/- The ground of the walks: regions of this program. Comparisons; small values. Comparisons of values. Values. Words, values of types. -/
import Derived.Test.YtopigomfhggkoaaDoorJT
namespace Go.Proofs.YtopigomfhggkoaaDoor.A
section
set_option linter.unusedVariables false
set_option linter.unusedSimpArgs false
open Go.RowKit
theorem mixed : Tryd.prog.follows .mixedOrders = true := by kernel_rfl
theorem reg {w0 : World} {C0 M : Nat → Prop} {rd : Option Nat} {df : List Deferred} {σ : St} (ds : List (Option Nat)) {id : Nat} {Q : Exit → St → Prop} {l : List Oper} (hd : l.map (·.dst) = ds) (hok : (l.all opersOk = true)) (h : ∀ K : St → Prop, (∀ s, Q .normal s → K s) → evOps Tryd.prog T (gdL ds) l σ K) : AWp ⟨Tryd.prog, w0, C0, M, rd, df⟩ (.region id l.toArray false) Q σ :=
  awp_region (E := ⟨Tryd.prog, w0, C0, M, rd, df⟩) T T_ok hok (by rw [gdOf_L, hd]; exact h)
theorem regD {w0 : World} {C0 M : Nat → Prop} {rd : Option Nat} {df : List Deferred} {σ : St} (ds : List (Option Nat)) {id : Nat} {Q : Exit → St → Prop} {l : List Oper} (hd : l.map (·.dst) = ds) (hok : (l.all opersOk = true)) (A : List LogH) (h : ∀ K : St → Prop, (∀ s, Q .normal s → K s) → evD Tryd.prog T (gdL ds) l A σ K)
    (hB : lexD l.toArray A l.length 0 (Array.replicate l.length false) = true) : AWp ⟨Tryd.prog, w0, C0, M, rd, df⟩ (.region id l.toArray true) Q σ :=
  awp_draw (E := ⟨Tryd.prog, w0, C0, M, rd, df⟩) T T_ok mixed hok A (by rw [gdOf_L, hd]; exact h) hB
attribute [go_sem] Int.reduceBEq Nat.reduceAdd Nat.reduceSub Nat.reduceMul Nat.reduceLT Nat.reduceLeDiff Nat.reduceEqDiff Nat.reduceBEq reduceIte reduceCtorEq Int.reduceToNat Bool.and_false Bool.false_and Bool.and_self ite_self beq_self_eq_true bne_self_eq_false Bool.not_true Bool.not_false Int.reduceBEq e_step_none e_slotU e_slotB e_move e_assign e_pick e_unOp e_binOp e_alloc e_box e_build e_buildSlice e_load e_store e_fieldAddr e_field e_indexAddr e_index e_slice e_sliceM e_makeSlice e_makeFunc e_convert e_extract e_nilCheck e_lookup e_look e_lookS1 e_lookS0 e_find0 e_find1 e_findT e_findF e_sameI e_sameTT e_sameTF e_sameFT e_sameFF e_commaT e_commaF e_valAgg e_valFn e_valI e_len e_appendK e_append e_max e_min e_call e_callV e_fn e_cap_ptr e_cap_lit e_cap_sl e_cap_fn e_fnOf_lit e_fnOf_clo e_fnOf_fn e_flat_mp e_cap_mp e_ev_global e_flat_fn e_clo e_ev_tmp e_ev_int e_ev_bool e_ev_string e_ev_slice e_ev_nilFunc e_ev_nilIface e_ev_pointer e_ev_agg e_ev_func e_pickT e_pickF e_not e_neg e_add e_sub e_mul e_quo e_rem e_eql e_neq e_lss e_leq e_gtr e_geq e_shl e_shr e_and e_or e_xor e_andNot e_beq e_bne e_sadd e_seql e_sneq e_b2_d e_b2_nil e_b2_nnil e_b2_agg e_lits_nil e_lits_cons e_litC e_eqR e_eqArr e_eqOnes_nil e_eqOnes_cons e_eqO_e e_eqO_n e_eqV4 e_eqV3 e_eqV2 e_eqV1 e_eqFs_nil e_eqFs_cons e_and2 e_eq1 e_eqL_i e_eqL_s e_eqL_b e_allocR e_boxR e_box_agg e_box_d e_box_own e_box_clo e_one_nil e_one_d e_one_own e_one_clo e_one_ptr e_cells_agg e_cells_d e_cells_own e_cells_clo e_cells_ptr e_ob_own e_ob_ptr e_ob_elo e_ob_d e_ob_el e_ob_agg e_load_box e_load_fzb e_load_el e_load_elo e_storeX_ptr e_storeX_d e_storeX_own e_storeX_agg e_storeX_el e_storeC' e_notIn_nil e_notIn_cons e_store_box e_storeB e_store_elo e_store_elo_agg e_storeE e_fa_ptr e_fa_el e_fa_elo e_faR e_fd e_fdR e_ia_d e_ia_row e_ia_fz e_ia_ptr e_ia_el e_ix_s e_ix_a e_len_s e_len_nil e_len_d e_len_row e_len_fz e_conv_i e_conv_s e_conv_own e_extr e_maxR e_minR e_nil_ptr e_nil_el e_nil_elo e_rows_d e_rows_row e_rows_fz e_rok_row e_rok_fz e_app_row e_appR e_app_nil e_appH_row e_appH_nil e_appHK e_appK e_appH_room e_roomX e_appN e_make e_bnd_none e_bnd_some e_optmap_none e_optmap_some e_slR e_slRe e_sl_s e_sl_d e_slM_d e_fill_nil e_fill_cons e_fill1 e_placeS e_plS e_placeE e_buildO e_build1 e_build2 e_build3 e_bindD e_bs e_bsR e_allD_nil e_allD_cons e_allD_el e_allD2 e_allD1 e_chunk0 e_chunkS e_clP_nil e_clP_cons e_cl_d e_cl_any e_cl_el e_cl_agg e_cl_tup e_cl_clo e_cl_own e_clOwn_row e_clOwn_fz e_cl_ptr e_clPtr_box e_clBox e_clPtr_fzb e_clL_nil e_clL_cons e_ok_d e_ok_any e_ok_el e_ok_agg e_ok_tup e_ok_clo e_ok_own e_okOwn_row e_okOwn_fz e_ok_ptr e_okPtr_box e_okPtr_fzb e_okL_nil e_okL_cons e_ids_d e_ids_any e_ids_el e_ids_own e_ids_ptr e_ids_agg e_ids_tup e_ids_clo e_idsL_nil e_idsL_cons e_frz_nil e_frz_cons e_frz_row e_frz_fz e_frz_fzb e_frz_box e_frzB e_flat_lit e_flat_sl e_flat_agg e_flat_tup e_flat_any e_flat_clo
attribute [go_sem] e_flatL_nil e_flatL_cons e_new_lit e_new_agg e_new_tup e_new_own e_newOwn_row e_newL_nil e_newL_cons e_objD e_setMany e_takeA e_zerosA e_gdL e_idsG e_idsOp e_callV' e_callN' e_callF' e_o_move e_o_assign e_o_pick e_o_unOp e_o_binOp e_o_alloc e_o_box e_o_build e_o_buildSlice e_o_load e_o_store e_o_fieldAddr e_o_field e_o_indexAddr e_o_index e_o_slice0 e_o_slice1 e_o_slice2 e_o_slice3 e_o_sliceM e_o_makeSlice e_o_convert e_o_extract e_o_nilCheck e_o_lookup e_o_bcall e_o_vcall litI litB litS List.map_cons List.map_nil List.getD_cons_zero List.getD_cons_succ List.getD_nil List.getElem?_cons_zero List.getElem?_cons_succ List.getElem?_nil Option.getD_some Option.getD_none Option.map_some Option.map_none List.length_cons List.length_nil List.all_cons List.all_nil Bool.and_true Bool.true_and and_true true_and and_self List.take_zero List.take_succ_cons List.drop_zero List.drop_succ_cons List.nil_append List.cons_append List.append_nil List.replicate_succ List.replicate_zero List.flatten_cons List.flatten_nil Nat.zero_add Nat.add_zero Nat.mul_one Nat.zero_mul Nat.one_mul Nat.mul_zero List.set_cons_zero List.set_cons_succ List.foldl_cons List.foldl_nil appendOk rowsOk inB sliceOk cutRows mtake mdrop List.length_append List.length_take List.length_drop if_true if_false or_false or_true true_or Bool.not_true Bool.not_false Bool.false_eq_true List.length_map Int.toNat_natCast Int.toNat_zero Int.toNat_one eq_self St.after St.put applyEff R0 globA globF globs T1 T2 T3 T4 T5 T6 T7 T9 T10 T15 T22 T23 T24 T26 T28 T29 T31 T33 T35 T37 T39 T40 T42 T44 T49 T51 T58 T67 T69 T71 T76 T80 T84 T87 T90 T95 T100 T103 T108 T109 T111 T112 T113 T124 T128 T129 ti1 ti2 ti3 ti4 ti5 ti6 ti7 ti9 ti10 ti15 ti22 ti23 ti24 ti26 ti28 ti29 ti31 ti33 ti35 ti37 ti39 ti40 ti42 ti44 ti49 ti51 ti58 ti67 ti69 ti71 ti76 ti80 ti84 ti87 ti90 ti95 ti100 ti103 ti108 ti109 ti111 ti112 ti113 ti124 ti128 ti129
theorem hcA {c : Prop} (h : c := by first | trivial | exact look_ok (by kernel_rfl) (by kernel_rfl) | decide | (simp only [inB, sliceOk, appendOk, rowsOk]; omega) | (simp [inB, sliceOk, appendOk, rowsOk]; omega)) : c := h
theorem wkA {E : Env} {t t' : List AV} {o o' : List AObj} (h : LeL t t' := by (repeat' first | exact trivial | exact LeA.refl _ | exact LeA.any _ | exact LeO.refl _ | exact LeO.no _ | exact LeA.nil _ | exact LeA.nilOwn _ | exact LeO.nil _ _ _ | refine LeO.box ?_ | (refine LeA.i ?_; (first | rfl | (push_cast; rfl) | (rw [wrap_id (by omega)]; push_cast; omega) | (simp [wrap_id]; omega))) | refine ⟨?_, ?_⟩)) (ho : LeOL o o' := by (repeat' first | exact trivial | exact LeA.refl _ | exact LeA.any _ | exact LeO.refl _ | exact LeO.no _ | exact LeA.nil _ | exact LeA.nilOwn _ | exact LeO.nil _ _ _ | refine LeO.box ?_ | (refine LeA.i ?_; (first | rfl | (push_cast; rfl) | (rw [wrap_id (by omega)]; push_cast; omega) | (simp [wrap_id]; omega))) | refine ⟨?_, ?_⟩)) : Wk E ⟨t, o⟩ ⟨t', o'⟩ := Wk.mk h ho
theorem resR_oneA {P : Program} {fn : Func} {rv : ResultVar} {r y : AV} {σ : St} (hr : LeA (cl σ.o y) r) (hT : TabOk P T := by exact T_ok) (hl : fn.results = #[rv] := by rfl) (hy : (resA T σ rv).av 0 .nilFunc = y := by (simp only [go_sem, resA]; rfl))
    (hc : (resA T σ rv).cond := by first | trivial | (simp only [go_sem, resA])) (hk : clOk σ.o y := by first | trivial | (simp only [go_sem])) : resR P fn r σ := resR_one hT hl y hy hc hk hr
theorem hdA {l : List Oper} {ds : List (Option Nat)} (h : l.map (·.dst) = ds := by (simp only [List.map_cons, List.map_nil]; rfl)) (k : l.all opersOk = true := by rfl) : l.map (·.dst) = ds ∧ l.all opersOk = true := ⟨h, k⟩
theorem regB {w0 : World} {C0 M : Nat → Prop} {rd : Option Nat} {df : List Deferred} {σ : St} (ds : List (Option Nat)) {id : Nat} {Q : Exit → St → Prop} {l : List Oper} (hd : l.map (·.dst) = ds ∧ (l.all opersOk = true)) (h : ∀ K : St → Prop, (∀ s, Q .normal s → K s) → evOps Tryd.prog T (gdL ds) l σ K) : AWp ⟨Tryd.prog, w0, C0, M, rd, df⟩ (.region id l.toArray false) Q σ := reg ds hd.1 hd.2 h
theorem regDB {w0 : World} {C0 M : Nat → Prop} {rd : Option Nat} {df : List Deferred} {σ : St} (ds : List (Option Nat)) {id : Nat} {Q : Exit → St → Prop} {l : List Oper} (hd : l.map (·.dst) = ds ∧ (l.all opersOk = true)) (A : List LogH) (h : ∀ K : St → Prop, (∀ s, Q .normal s → K s) → evD Tryd.prog T (gdL ds) l A σ K)
    (hB : lexD l.toArray A l.length 0 (Array.replicate l.length false) = true) : AWp ⟨Tryd.prog, w0, C0, M, rd, df⟩ (.region id l.toArray true) Q σ := regD ds hd.1 hd.2 A h hB
theorem ttA {p : Prop} (h : p) : true = true → p := fun _ => h
theorem ffA {p : Prop} (h : p) : false = false → p := fun _ => h
theorem tQ : (∀ (K : St → Prop) Q s, thenA K Q .normal s = K s) ∧ (∀ (K : St → Prop) Q i s, thenA K Q (.exit i) s = Q (.exit i) s) ∧ (∀ (K : St → Prop) Q s, thenA K Q .ret s = Q .ret s) ∧
    (∀ id Q i s, blockA id Q (.exit i) s = if i = id then Q .normal s else Q (.exit i) s) ∧ (∀ id Q s, blockA id Q .ret s = Q .ret s) ∧ (∀ id Q s, blockA id Q .normal s = Q .normal s) ∧
    (∀ Q i s, scopeA Q (.exit i) s = Q (.exit i) s) ∧ (∀ Q s, scopeA Q .ret s = Q .ret s) ∧ (∀ Q s, scopeA Q .normal s = Q .normal s) ∧ (∀ (R : St → Prop) s, RetQ R .ret s = R s) ∧ (∀ (R : St → Prop) s, RetQ R .normal s = R s) := by
  refine ⟨?_, ?_, ?_, ?_, ?_, ?_, ?_, ?_, ?_, ?_, ?_⟩ <;> intros <;> rfl
theorem tqA {p q : Prop} (h : q) (e : p = q := by (simp only [tQ, reduceIte, Nat.reduceEqDiff]; rfl)) : p := e.mpr h
theorem resR_moreA {P : Program} {fn : Func} {l : List ResultVar} {rs ys : List AV} {σ : St} (hr : LeL (clL σ.o ys) rs) (hT : TabOk P T := by exact T_ok) (hl : fn.results = l.toArray := by rfl) (hn : l.length ≠ 1 := by decide) (hy : l.map (fun rv => (resA T σ rv).av 0 .nilFunc) = ys := by (simp only [go_sem, resA]; rfl))
    (hc : ∀ rv ∈ l, (resA T σ rv).cond := by (intro rv hrv; simp only [List.mem_cons, List.not_mem_nil, or_false] at hrv; first | (rcases hrv with rfl | rfl <;> first | trivial | simp only [go_sem, resA]) | (rcases hrv with rfl | rfl | rfl <;> first | trivial | simp only [go_sem, resA])))
    (hk : clOkL σ.o ys := by first | trivial | (simp only [go_sem])) : resR P fn (.tup rs) σ := resR_more hT hl hn ys hy hc hk hr
end
section
set_option linter.unusedVariables false
set_option linter.unusedSimpArgs false
open Go.RowKit
attribute [local irreducible] Spec SpecF SpecN
attribute [local irreducible] AWp evOps evD
def cmpI (a b : Int) : Int := if a < b then -1 else if b < a then 1 else 0
theorem f58_spec (a b : Int) : Spec Tryd.prog 58 [litI .i64 a, litI .i64 b] (litI .i64 (cmpI a b)) := by
  refine spec_of_awp (fn := Tryd.f58) Tryd.func58 (by kernel_rfl) rfl ?_
  intro w0 C0
  simp only [Tryd.ntmps58, go_sem]
  repeat' first | refine awp_seq ?_ | refine awp_block ?_ | refine awp_skip ?_ | (apply regB; (case hd => exact hdA); intro K hK) | ((refine awp_cond _ (by rfl) ?_ ?_) <;> (first | refine ttA ?_ | refine ffA ?_ | (intro hb; first | (cases hb; done) | simp only [hb] | skip))) | ((first | apply awp_exit | apply awp_ret); refine tqA ?_) | (refine ev_nil (hK _ ?_); clear hK K) | (apply ev_step0; (case hr | hσ => (simp only [go_sem]; try rfl)); (case hc => exact hcA)) | (apply ev_step; (case hr | hσ => (intros; simp only [go_sem]; try rfl)); (case hc => exact hcA); intro g u; (try clear u); (try clear g)) | fail
  all_goals (refine resR_oneA ?_; simp only [go_sem])
  all_goals (refine LeA.i ?_; simp_all [cmpI]; try omega)
theorem f77_spec (a : Int) : Spec Tryd.prog 77 [litI .i64 a] (litB false) := by
  refine spec_of_awp (fn := Tryd.f77) Tryd.func77 (by kernel_rfl) rfl ?_
  intro w0 C0
  simp only [Tryd.ntmps77, go_sem]
  repeat' first | refine awp_seq ?_ | (apply regB; (case hd => exact hdA); intro K hK) | (apply awp_ret; refine tqA ?_) | (refine ev_nil (hK _ ?_); clear hK K) | (apply ev_step0; (case hr | hσ => (simp only [go_sem]; try rfl)); (case hc => exact hcA)) | (apply ev_step; (case hr | hσ => (intros; simp only [go_sem]; try rfl)); (case hc => exact hcA); intro g u; (try clear u); (try clear g)) | fail
  all_goals (refine resR_oneA ?_; simp only [go_sem])
  all_goals (refine LeA.b ?_; simp_all)
theorem f62_spec (a b : Int) : Spec Tryd.prog 62 [litI .i64 a, litI .i64 b] (litI .i64 (cmpI a b)) := by
  refine spec_of_awp (fn := Tryd.f62) Tryd.func62 (by kernel_rfl) rfl ?_
  intro w0 C0
  simp only [Tryd.ntmps62, go_sem]
  repeat' first | refine awp_seq ?_ | refine awp_block ?_ | refine awp_skip ?_ | (apply regB; (case hd => exact hdA); intro K hK) | ((refine awp_cond _ (by rfl) ?_ ?_) <;> (first | refine ttA ?_ | refine ffA ?_ | (intro hb; first | (cases hb; done) | simp only [hb] | skip))) | ((first | apply awp_exit | apply awp_ret); refine tqA ?_) | (refine ev_nil (hK _ ?_); clear hK K) | (apply ev_call0; (case hys => (simp only [go_sem]; try rfl)); (case hs => first | exact f77_spec ..); (case hok | hσ => (simp only [go_sem]; try rfl))) | (apply ev_step0; (case hr | hσ => (simp only [go_sem]; try rfl)); (case hc => exact hcA)) | (apply ev_step; (case hr | hσ => (intros; simp only [go_sem]; try rfl)); (case hc => exact hcA); intro g u; (try clear u); (try clear g)) | fail
  all_goals (refine resR_oneA ?_; simp only [go_sem])
  all_goals (refine LeA.i ?_; simp_all [cmpI]; try omega)
theorem f78_spec (a : ByteArray) : Spec Tryd.prog 78 [litS a] (litB false) := by
  refine spec_of_awp (fn := Tryd.f78) Tryd.func78 (by kernel_rfl) rfl ?_
  intro w0 C0
  simp only [Tryd.ntmps78, go_sem]
  repeat' first | refine awp_seq ?_ | (apply regB; (case hd => exact hdA); intro K hK) | (apply awp_ret; refine tqA ?_) | (refine ev_nil (hK _ ?_); clear hK K) | (apply ev_step0; (case hr | hσ => (simp only [go_sem]; try rfl)); (case hc => exact hcA)) | (apply ev_step; (case hr | hσ => (intros; simp only [go_sem]; try rfl)); (case hc => exact hcA); intro g u; (try clear u); (try clear g)) | fail
  all_goals (refine resR_oneA ?_; simp only [go_sem])
  all_goals (refine LeA.b ?_; simp_all)
def cmpB (a b : ByteArray) : Int := if Op.bytesLess a.toList b.toList = true then -1 else if (a.toList == b.toList) = true then 0 else 1
theorem f63_spec (a b : ByteArray) : Spec Tryd.prog 63 [litS a, litS b] (litI .i64 (cmpB a b)) := by
  refine spec_of_awp (fn := Tryd.f63) Tryd.func63 (by kernel_rfl) rfl ?_
  intro w0 C0
  simp only [Tryd.ntmps63, go_sem]
  repeat' first | refine awp_seq ?_ | refine awp_block ?_ | refine awp_skip ?_ | (apply regB; (case hd => exact hdA); intro K hK) | ((refine awp_cond _ (by rfl) ?_ ?_) <;> (first | refine ttA ?_ | refine ffA ?_ | (intro hb; first | (cases hb; done) | simp only [hb] | skip))) | ((first | apply awp_exit | apply awp_ret); refine tqA ?_) | (refine ev_nil (hK _ ?_); clear hK K) | (apply ev_call0; (case hys => (simp only [go_sem]; try rfl)); (case hs => first | exact f78_spec ..); (case hok | hσ => (simp only [go_sem]; try rfl))) | (apply ev_step0; (case hr | hσ => (simp only [go_sem]; try rfl)); (case hc => exact hcA)) | (apply ev_step; (case hr | hσ => (intros; simp only [go_sem]; try rfl)); (case hc => exact hcA); intro g u; (try clear u); (try clear g)) | fail
  all_goals (refine resR_oneA ?_; simp only [go_sem])
  all_goals (refine LeA.i ?_; simp_all [cmpB])
structure Vl where
  k : Int
  i : Int
  s : ByteArray
abbrev vl (v : Vl) : List AV := [litI .i64 v.k, litI .i64 v.i, litS v.s]
abbrev vlD (v : Vl) : List Dat := [.lit (.int .i64 v.k), .lit (.int .i64 v.i), .lit (.string v.s)]
abbrev vls (l : List Vl) : Dat := .sl 3 (l.map vlD)
abbrev nullV : Vl := ⟨0, 0, ⟨#[]⟩⟩
theorem f27_spec : Spec Tryd.prog 27 [] (.agg (vl nullV)) := by
  refine spec_of_awp (fn := Tryd.f27) Tryd.func27 (by kernel_rfl) rfl ?_
  intro w0 C0
  simp only [Tryd.ntmps27, go_sem]
  repeat' first | refine awp_seq ?_ | (apply regB; (case hd => exact hdA); intro K hK) | (apply awp_ret; refine tqA ?_) | (refine ev_nil (hK _ ?_); clear hK K) | (apply ev_step0; (case hr | hσ => (simp only [go_sem]; try rfl)); (case hc => exact hcA)) | (apply ev_step; (case hr | hσ => (intros; simp only [go_sem]; try rfl)); (case hc => exact hcA); intro g u; (try clear u); (try clear g)) | fail
  all_goals (refine resR_oneA ?_; simp only [go_sem])
  exact LeA.refl _
theorem f28_spec (n : Int) : Spec Tryd.prog 28 [litI .i64 n] (.agg (vl ⟨2, n, ⟨#[]⟩⟩)) := by
  refine spec_of_awp (fn := Tryd.f28) Tryd.func28 (by kernel_rfl) rfl ?_
  intro w0 C0
  simp only [Tryd.ntmps28, go_sem]
  repeat' first | refine awp_seq ?_ | (apply regB; (case hd => exact hdA); intro K hK) | (apply awp_ret; refine tqA ?_) | (refine ev_nil (hK _ ?_); clear hK K) | (apply ev_step0; (case hr | hσ => (simp only [go_sem]; try rfl)); (case hc => exact hcA)) | (apply ev_step; (case hr | hσ => (intros; simp only [go_sem]; try rfl)); (case hc => exact hcA); intro g u; (try clear u); (try clear g)) | fail
  all_goals (refine resR_oneA ?_; simp only [go_sem])
  exact LeA.refl _
theorem f29_spec (s : ByteArray) : Spec Tryd.prog 29 [litS s] (.agg (vl ⟨3, 0, s⟩)) := by
  refine spec_of_awp (fn := Tryd.f29) Tryd.func29 (by kernel_rfl) rfl ?_
  intro w0 C0
  simp only [Tryd.ntmps29, go_sem]
  repeat' first | refine awp_seq ?_ | (apply regB; (case hd => exact hdA); intro K hK) | (apply awp_ret; refine tqA ?_) | (refine ev_nil (hK _ ?_); clear hK K) | (apply ev_step0; (case hr | hσ => (simp only [go_sem]; try rfl)); (case hc => exact hcA)) | (apply ev_step; (case hr | hσ => (intros; simp only [go_sem]; try rfl)); (case hc => exact hcA); intro g u; (try clear u); (try clear g)) | fail
  all_goals (refine resR_oneA ?_; simp only [go_sem])
  exact LeA.refl _
abbrev bytesD (b : List Int) : Dat := .sl 1 (b.map fun n => [.lit (.int .u8 n)])
theorem bytes_at (l : List Int) {i : Nat} (h : i < l.length) : (l.map fun n => [Dat.lit (.int .u8 n)]).getD i [] = [.lit (.int .u8 (l.getD i 0))] := by
  simp [List.getD_eq_getElem?_getD, h]
end
section
set_option linter.unusedVariables false
set_option linter.unusedSimpArgs false
open Go.RowKit
attribute [local irreducible] Spec SpecF SpecN
attribute [local irreducible] AWp evOps evD
abbrev ints (l : List Int) : Dat := .sl 1 (l.map fun n => [.lit (.int .i64 n)])
theorem ints_at (l : List Int) {i : Nat} (h : i < l.length) : (l.map fun n => [Dat.lit (.int .i64 n)]).getD i [] = [.lit (.int .i64 (l.getD i 0))] := by
  simp [List.getD_eq_getElem?_getD, h]
theorem drop_at {α : Type} (l : List α) (d : α) {i : Nat} (h : i < l.length) : l.drop i = l.getD i d :: l.drop (i + 1) := by
  rw [List.drop_eq_getElem_cons h]; simp [List.getD_eq_getElem?_getD, h]
def firstNZ : List Int → Int
  | [] => 0
  | a :: l => if a = 0 then firstNZ l else a
theorem f61_spec (l : List Int) : Spec Tryd.prog 61 [.d (ints l)] (litI .i64 (firstNZ l)) := by
  refine spec_of_awp (fn := Tryd.f61) Tryd.func61 (by kernel_rfl) rfl ?_
  intro w0 C0
  simp only [Tryd.ntmps61, go_sem]
  refine awp_len 0 rfl fun hl => ?_
  simp only [List.length_map] at hl
  repeat' first | refine awp_seq ?_ | refine awp_block ?_ | refine awp_skip ?_ | (apply regB; (case hd => exact hdA); intro K hK) | ((refine awp_cond _ (by rfl) ?_ ?_) <;> (first | refine ttA ?_ | refine ffA ?_ | (intro hb; first | (cases hb; done) | simp only [hb] | skip))) | ((first | apply awp_exit | apply awp_ret); refine tqA ?_) | (refine ev_nil (hK _ ?_); clear hK K) | (apply ev_step0; (case hr | hσ => (simp only [go_sem]; try rfl)); (case hc => exact hcA)) | (apply ev_step; (case hr | hσ => (intros; simp only [go_sem]; try rfl)); (case hc => exact hcA); intro g u; (try clear u); (try clear g)) | fail
  refine awp_loopI (fun i => i ≤ l.length ∧ firstNZ l = firstNZ (l.drop i)) (fun i => l.length - i) (fun i => ⟨[.any, .any, litI .i64 0, litI .i64 0, .any, .any, .d (ints l), litI .i64 l.length, litI .i64 i, .any, .any, .any, .any, .any, .any, .any, .any, .any], [.no, .no, .no, .no, .no, .no, .no, .no, .no, .no, .no, .no, .no, .no, .no, .no, .no, .no]⟩) 0 ⟨by omega, rfl⟩ ?_ ?_
  · exact wkA
  rintro i ⟨hi, hfi⟩
  simp only [litI, litB]
  by_cases hlt : i < l.length
  rotate_left
  have hdec : decide ((i : Int) < (l.length : Int)) = false := by simp; omega
  · repeat' first | refine awp_seq ?_ | refine awp_block ?_ | refine awp_skip ?_ | (apply regB; (case hd => exact hdA); intro K hK) | ((refine awp_cond _ (by rfl) ?_ ?_) <;> (first | refine ttA ?_ | refine ffA ?_ | (intro hb; first | (cases hb; done) | simp only [hb] | skip))) | ((first | apply awp_exit | apply awp_ret); refine tqA ?_) | (refine ev_nil (hK _ ?_); clear hK K) | (apply ev_step0; (case hr | hσ => (simp only [go_sem, hdec]; try rfl)); (case hc => exact hcA)) | (apply ev_step; (case hr | hσ => (intros; simp only [go_sem, hdec]; try rfl)); (case hc => exact hcA); intro g u; (try clear u); (try clear g)) | fail
    all_goals (refine resR_oneA ?_; simp only [go_sem])
    refine LeA.i ?_
    rw [hfi, List.drop_eq_nil_of_le (by omega)]; rfl
  have hdec : decide ((i : Int) < (l.length : Int)) = true := by simp; omega
  have hx := ints_at l hlt
  rw [drop_at l 0 hlt] at hfi
  all_goals have H := And.intro hdec hx
  repeat' first | refine awp_seq ?_ | refine awp_block ?_ | refine awp_skip ?_ | (apply regB; (case hd => exact hdA); intro K hK) | ((refine awp_cond _ (by rfl) ?_ ?_) <;> (first | refine ttA ?_ | refine ffA ?_ | (intro hb; first | (cases hb; done) | simp only [hb] | skip))) | ((first | apply awp_exit | apply awp_ret); refine tqA ?_) | (refine ev_nil (hK _ ?_); clear hK K) | (apply ev_step0; (case hr | hσ => (simp only [go_sem, H]; try rfl)); (case hc => exact hcA)) | (apply ev_step; (case hr | hσ => (intros; simp only [go_sem, H]; try rfl)); (case hc => exact hcA); intro g u; (try clear u); (try clear g)) | fail
  all_goals try clear H
  · all_goals (refine resR_oneA ?_; simp only [go_sem])
    refine LeA.i ?_
    rw [hfi]; simp_all [firstNZ]
  · refine Exists.intro (i + 1) ⟨⟨by omega, ?_⟩, by omega, ?_⟩
    · rw [hfi]; simp_all [firstNZ]
    · exact wkA
def cmpV (a b : Vl) : Int := firstNZ [cmpI a.k b.k, cmpI a.i b.i, cmpB a.s b.s]
theorem f41_spec (a b : Vl) : Spec Tryd.prog 41 [.agg (vl a), .agg (vl b)] (litI .i64 (cmpV a b)) := by
  have h86 : Spec Tryd.prog 61 [.d (.sl 1 [[.lit (.int .i64 (cmpI a.k b.k))], [.lit (.int .i64 (cmpI a.i b.i))], [.lit (.int .i64 (cmpB a.s b.s))]])] (litI .i64 (cmpV a b)) := f61_spec [cmpI a.k b.k, cmpI a.i b.i, cmpB a.s b.s]
  refine spec_of_awp (fn := Tryd.f41) Tryd.func41 (by kernel_rfl) rfl ?_
  intro w0 C0
  simp only [Tryd.ntmps41, go_sem]
  repeat' first | refine awp_seq ?_ | (apply regB; (case hd => exact hdA); intro K hK) | (apply awp_ret; refine tqA ?_) | (refine ev_nil (hK _ ?_); clear hK K) | (apply regDB; (case hd => exact hdA); (case' h => (intro K hK; (repeat' first | (apply evd_nil; refine (hK _ ?_); clear hK K) | (apply evd_call0; (case hi | hys => (simp only [go_sem]; try rfl)); (case hs => first | exact f62_spec .. | exact f63_spec .. | exact h86 ..); (case hok | hw | hσ => (simp only [go_sem]; try rfl))) | (apply evd_step0; (case hr | hi | hσ => (simp only [go_sem]; try rfl)); (case hc => exact hcA)) | (apply evd_step; (case hr | hi | hw | hσ => (intros; simp only [go_sem]; try rfl)); (case hc => exact hcA); (case' hk => (intro g u; (try clear u); (try clear g)))) | fail))); (case hB => kernel_rfl)) | (apply ev_step0; (case hr | hσ => (simp only [go_sem]; try rfl)); (case hc => exact hcA)) | (apply ev_step; (case hr | hσ => (intros; simp only [go_sem]; try rfl)); (case hc => exact hcA); intro g u; (try clear u); (try clear g)) | fail
  all_goals (refine resR_oneA ?_; simp only [go_sem])
  exact LeA.refl _
def cmpL : List UInt8 → List UInt8 → Int
  | [], [] => 0
  | [], _ :: _ => -1
  | _ :: _, [] => 1
  | a :: x, b :: y => if a < b then -1 else if b < a then 1 else cmpL x y
theorem cmpL_eq : ∀ (x y : List UInt8), cmpL x y = if Op.bytesLess x y = true then -1 else if (x == y) = true then 0 else 1
  | [], [] => by simp [cmpL, Op.bytesLess]
  | [], _ :: _ => by simp [cmpL, Op.bytesLess]
  | _ :: _, [] => by simp [cmpL, Op.bytesLess]
  | a :: x, b :: y => by
    have hab : a = b ↔ a.toNat = b.toNat := ⟨fun h => by rw [h], fun h => UInt8.toNat_inj.1 h⟩
    have ha : (a < b) ↔ a.toNat < b.toNat := UInt8.lt_iff_toNat_lt
    have hb : (b < a) ↔ b.toNat < a.toNat := UInt8.lt_iff_toNat_lt
    simp only [cmpL, Op.bytesLess, cmpL_eq x y]
    by_cases h1 : a < b
    · simp [h1]
    · by_cases h2 : b < a
      · have : ¬ a = b := by rw [hab]; rw [hb] at h2; omega
        simp [h1, h2, this]
      · have : a = b := by rw [hab]; rw [hb] at h2; rw [ha] at h1; omega
        subst this
        simp [h1]
theorem f59_spec (a b : ByteArray) (hal : a.size ≤ 4611686018427387904) (hbl : b.size ≤ 4611686018427387904) : Spec Tryd.prog 59 [litS a, litS b] (litI .i64 (cmpL a.data.toList b.data.toList)) := by
  have ea : a.size = a.data.toList.length := by simp
  have eb : b.size = b.data.toList.length := by simp
  refine spec_of_awp (fn := Tryd.f59) Tryd.func59 (by kernel_rfl) rfl ?_
  intro w0 C0
  simp only [Tryd.ntmps59, go_sem]
  repeat' first | refine awp_seq ?_ | refine awp_block ?_ | refine awp_skip ?_ | (apply regB; (case hd => exact hdA); intro K hK) | (apply ev_guardU; (case hj | hu | hσ => (simp only [go_sem]; try rfl))) | ((first | refine awp_cond _ (by rfl) ?_ ?_ | ((first | apply ev_guardT | apply ev_guardF); (case hj | hb => (simp only [go_sem]; try rfl)))) <;> (first | refine ttA ?_ | refine ffA ?_ | (intro hb; first | (cases hb; done) | simp only [hb] | skip))) | ((first | apply awp_exit | apply awp_ret); refine tqA ?_) | (refine ev_nil (hK _ ?_); clear hK K) | (apply ev_step0; (case hr | hσ => (simp only [go_sem]; try rfl)); (case hc => exact hcA)) | (apply ev_step; (case hr | hσ => (intros; simp only [go_sem]; try rfl)); (case hc => exact hcA); intro g u; (try clear u); (try clear g)) | fail
  refine awp_loopI (fun i : Nat => i ≤ a.size ∧ i ≤ b.size ∧ cmpL a.data.toList b.data.toList = cmpL (a.data.toList.drop i) (b.data.toList.drop i)) (fun i => a.size - i) (fun i => ⟨[litS a, litS b, .any, .any, litI .i64 0, litI .i64 i, .any, .any, .any, .any, .any, .any, .any, .any, .any, .any, .any, .any, .any, .any, .any, .any, .any, .any, .any, .any, .any, .any, .any, .any, .any, .any, .any, .any, .any, .any, .any, .any, .any], [.no, .no, .no, .no, .no, .no, .no, .no, .no, .no, .no, .no, .no, .no, .no, .no, .no, .no, .no, .no, .no, .no, .no, .no, .no, .no, .no, .no, .no, .no, .no, .no, .no, .no, .no, .no, .no, .no, .no]⟩) 0 ⟨by omega, by omega, rfl⟩ ?_ ?_
  · exact wkA
  rintro i ⟨hi, hj, hfi⟩
  simp only [litI, litB, litS] at hi hj hfi ⊢
  by_cases h1 : i < a.size
  · have d1 : decide ((i : Int) < (a.size : Int)) = true := decide_eq_true (by omega)
    by_cases h2 : i < b.size
    · have d2 : decide ((i : Int) < (b.size : Int)) = true := decide_eq_true (by omega)
      have hx : byteAt a (i : Int) = ((a.data.toList.getD i 0).toNat : Int) := rfl
      have hy : byteAt b (i : Int) = ((b.data.toList.getD i 0).toNat : Int) := rfl
      rw [drop_at a.data.toList 0 (by omega), drop_at b.data.toList 0 (by omega)] at hfi
      generalize a.data.toList.getD i 0 = x at *
      generalize b.data.toList.getD i 0 = y at *
      have bx := x.toNat_lt
      have by' := y.toNat_lt
      have wx : IntKind.i64.wrap (x.toNat : Int) = x.toNat := wrap_id (by omega)
      have wy : IntKind.i64.wrap (y.toNat : Int) = y.toNat := wrap_id (by omega)
      by_cases hxy : x = y
      · have hq : ((x.toNat : Int) != (y.toNat : Int)) = false := by rw [hxy]; simp
        all_goals have H := And.intro d1 (And.intro d2 (And.intro hx (And.intro hy hq)))
        repeat' first | refine awp_seq ?_ | refine awp_block ?_ | refine awp_skip ?_ | (apply regB; (case hd => exact hdA); intro K hK) | (apply ev_guardU; (case hj | hu | hσ => (simp only [go_sem, H]; try rfl))) | ((first | refine awp_cond _ (by rfl) ?_ ?_ | ((first | apply ev_guardT | apply ev_guardF); (case hj | hb => (simp only [go_sem, H]; try rfl)))) <;> (first | refine ttA ?_ | refine ffA ?_ | (intro hb; first | (cases hb; done) | simp only [hb] | skip))) | ((first | apply awp_exit | apply awp_ret); refine tqA ?_) | (refine ev_nil (hK _ ?_); clear hK K) | (apply regDB; (case hd => exact hdA); (case' h => (intro K hK; (repeat' first | (apply evd_nil; refine (hK _ ?_); clear hK K) | (apply evd_step0; (case hr | hi | hσ => (simp only [go_sem, H]; try rfl)); (case hc => exact hcA)) | (apply evd_step; (case hr | hi | hw | hσ => (intros; simp only [go_sem, H]; try rfl)); (case hc => exact hcA); (case' hk => (intro g u; (try clear u); (try clear g)))) | fail))); (case hB => kernel_rfl)) | (apply ev_step0; (case hr | hσ => (simp only [go_sem, H]; try rfl)); (case hc => exact hcA)) | (apply ev_step; (case hr | hσ => (intros; simp only [go_sem, H]; try rfl)); (case hc => exact hcA); intro g u; (try clear u); (try clear g)) | fail
        all_goals try clear H
        refine Exists.intro (i + 1) ⟨⟨by omega, by omega, ?_⟩, by omega, ?_⟩
        · rw [hfi, hxy]
          simp [cmpL]
        · exact wkA
      · have hne : ¬ (x.toNat : Int) = (y.toNat : Int) := fun e => hxy (UInt8.toNat_inj.1 (by omega))
        have hq : ((x.toNat : Int) != (y.toNat : Int)) = true := by simpa using hne
        all_goals have H := And.intro d1 (And.intro d2 (And.intro hx (And.intro hy (And.intro hq (And.intro wx wy)))))
        repeat' first | refine awp_seq ?_ | refine awp_block ?_ | refine awp_skip ?_ | (apply regB; (case hd => exact hdA); intro K hK) | (apply ev_guardU; (case hj | hu | hσ => (simp only [go_sem, H]; try rfl))) | ((first | refine awp_cond _ (by rfl) ?_ ?_ | ((first | apply ev_guardT | apply ev_guardF); (case hj | hb => (simp only [go_sem, H]; try rfl)))) <;> (first | refine ttA ?_ | refine ffA ?_ | (intro hb; first | (cases hb; done) | simp only [hb] | skip))) | ((first | apply awp_exit | apply awp_ret); refine tqA ?_) | (refine ev_nil (hK _ ?_); clear hK K) | (apply ev_call0; (case hys => (simp only [go_sem, H]; try rfl)); (case hs => first | exact f58_spec ..); (case hok | hσ => (simp only [go_sem, H]; try rfl))) | (apply regDB; (case hd => exact hdA); (case' h => (intro K hK; (repeat' first | (apply evd_nil; refine (hK _ ?_); clear hK K) | (apply evd_call0; (case hi | hys => (simp only [go_sem, H]; try rfl)); (case hs => first | exact f58_spec ..); (case hok | hw | hσ => (simp only [go_sem, H]; try rfl))) | (apply evd_step0; (case hr | hi | hσ => (simp only [go_sem, H]; try rfl)); (case hc => exact hcA)) | (apply evd_step; (case hr | hi | hw | hσ => (intros; simp only [go_sem, H]; try rfl)); (case hc => exact hcA); (case' hk => (intro g u; (try clear u); (try clear g)))) | fail))); (case hB => kernel_rfl)) | (apply ev_step0; (case hr | hσ => (simp only [go_sem, H]; try rfl)); (case hc => exact hcA)) | (apply ev_step; (case hr | hσ => (intros; simp only [go_sem, H]; try rfl)); (case hc => exact hcA); intro g u; (try clear u); (try clear g)) | fail
        all_goals try clear H
        all_goals (refine resR_oneA ?_; simp only [go_sem])
        refine LeA.i ?_
        rw [hfi]
        have e1 : (x < y) ↔ x.toNat < y.toNat := UInt8.lt_iff_toNat_lt
        have e2 : (y < x) ↔ y.toNat < x.toNat := UInt8.lt_iff_toNat_lt
        simp only [cmpL, cmpI, e1, e2]
        (repeat' split) <;> first | rfl | omega
    · have d2 : decide ((i : Int) < (b.size : Int)) = false := decide_eq_false (by omega)
      all_goals have H := And.intro d1 d2
      repeat' first | refine awp_seq ?_ | refine awp_block ?_ | refine awp_skip ?_ | (apply regB; (case hd => exact hdA); intro K hK) | (apply ev_guardU; (case hj | hu | hσ => (simp only [go_sem, H]; try rfl))) | ((first | refine awp_cond _ (by rfl) ?_ ?_ | ((first | apply ev_guardT | apply ev_guardF); (case hj | hb => (simp only [go_sem, H]; try rfl)))) <;> (first | refine ttA ?_ | refine ffA ?_ | (intro hb; first | (cases hb; done) | simp only [hb] | skip))) | ((first | apply awp_exit | apply awp_ret); refine tqA ?_) | (refine ev_nil (hK _ ?_); clear hK K) | (apply ev_call0; (case hys => (simp only [go_sem, H]; try rfl)); (case hs => first | exact f58_spec ..); (case hok | hσ => (simp only [go_sem, H]; try rfl))) | (apply regDB; (case hd => exact hdA); (case' h => (intro K hK; (repeat' first | (apply evd_nil; refine (hK _ ?_); clear hK K) | (apply evd_call0; (case hi | hys => (simp only [go_sem, H]; try rfl)); (case hs => first | exact f58_spec ..); (case hok | hw | hσ => (simp only [go_sem, H]; try rfl))) | (apply evd_step0; (case hr | hi | hσ => (simp only [go_sem, H]; try rfl)); (case hc => exact hcA)) | (apply evd_step; (case hr | hi | hw | hσ => (intros; simp only [go_sem, H]; try rfl)); (case hc => exact hcA); (case' hk => (intro g u; (try clear u); (try clear g)))) | fail))); (case hB => kernel_rfl)) | (apply ev_step0; (case hr | hσ => (simp only [go_sem, H]; try rfl)); (case hc => exact hcA)) | (apply ev_step; (case hr | hσ => (intros; simp only [go_sem, H]; try rfl)); (case hc => exact hcA); intro g u; (try clear u); (try clear g)) | fail
      all_goals try clear H
      all_goals (refine resR_oneA ?_; simp only [go_sem])
      refine LeA.i ?_
      rw [hfi, drop_at a.data.toList 0 (by omega), show b.data.toList.drop i = [] from List.drop_eq_nil_of_le (by omega)]
      simp only [cmpL, cmpI]
      rw [if_neg (by omega), if_pos (by omega)]
  · have d1 : decide ((i : Int) < (a.size : Int)) = false := decide_eq_false (by omega)
    repeat' first | refine awp_seq ?_ | refine awp_block ?_ | refine awp_skip ?_ | (apply regB; (case hd => exact hdA); intro K hK) | (apply ev_guardU; (case hj | hu | hσ => (simp only [go_sem, d1]; try rfl))) | ((first | refine awp_cond _ (by rfl) ?_ ?_ | ((first | apply ev_guardT | apply ev_guardF); (case hj | hb => (simp only [go_sem, d1]; try rfl)))) <;> (first | refine ttA ?_ | refine ffA ?_ | (intro hb; first | (cases hb; done) | simp only [hb] | skip))) | ((first | apply awp_exit | apply awp_ret); refine tqA ?_) | (refine ev_nil (hK _ ?_); clear hK K) | (apply ev_call0; (case hys => (simp only [go_sem, d1]; try rfl)); (case hs => first | exact f58_spec ..); (case hok | hσ => (simp only [go_sem, d1]; try rfl))) | (apply regDB; (case hd => exact hdA); (case' h => (intro K hK; (repeat' first | (apply evd_nil; refine (hK _ ?_); clear hK K) | (apply evd_call0; (case hi | hys => (simp only [go_sem, d1]; try rfl)); (case hs => first | exact f58_spec ..); (case hok | hw | hσ => (simp only [go_sem, d1]; try rfl))) | (apply evd_step0; (case hr | hi | hσ => (simp only [go_sem, d1]; try rfl)); (case hc => exact hcA)) | (apply evd_step; (case hr | hi | hw | hσ => (intros; simp only [go_sem, d1]; try rfl)); (case hc => exact hcA); (case' hk => (intro g u; (try clear u); (try clear g)))) | fail))); (case hB => kernel_rfl)) | (apply ev_step0; (case hr | hσ => (simp only [go_sem, d1]; try rfl)); (case hc => exact hcA)) | (apply ev_step; (case hr | hσ => (intros; simp only [go_sem, d1]; try rfl)); (case hc => exact hcA); intro g u; (try clear u); (try clear g)) | fail
    all_goals (refine resR_oneA ?_; simp only [go_sem])
    refine LeA.i ?_
    rw [hfi, show a.data.toList.drop i = [] from List.drop_eq_nil_of_le (by omega)]
    by_cases h2 : i < b.size
    · rw [drop_at b.data.toList 0 (by omega)]
      simp only [cmpL, cmpI]
      rw [if_pos (by omega)]
    · rw [show b.data.toList.drop i = [] from List.drop_eq_nil_of_le (by omega)]
      simp only [cmpL, cmpI]
      rw [if_neg (by omega), if_neg (by omega)]
end
section
set_option linter.unusedVariables false
set_option linter.unusedSimpArgs false
open Go.RowKit
attribute [local irreducible] Spec SpecF SpecN
attribute [local irreducible] AWp evOps evD
def cmpW (a b : Vl) : Int := if a.k ≠ b.k then cmpI a.k b.k else if a.i ≠ b.i then cmpI a.i b.i else cmpL a.s.data.toList b.s.data.toList
theorem f37_spec (a b : Vl) (ha : a.s.size ≤ 4611686018427387904) (hb : b.s.size ≤ 4611686018427387904) : Spec Tryd.prog 37 [.agg (vl a), .agg (vl b)] (litI .i64 (cmpW a b)) := by
  have h84 := f59_spec a.s b.s ha hb
  refine spec_of_awp (fn := Tryd.f37) Tryd.func37 (by kernel_rfl) rfl ?_
  intro w0 C0
  simp only [Tryd.ntmps37, go_sem]
  repeat' first | refine awp_seq ?_ | refine awp_block ?_ | refine awp_skip ?_ | (apply regB; (case hd => exact hdA); intro K hK) | ((refine awp_cond _ (by rfl) ?_ ?_) <;> (first | refine ttA ?_ | refine ffA ?_ | (intro hb; first | (cases hb; done) | simp only [hb] | skip))) | ((first | apply awp_exit | apply awp_ret); refine tqA ?_) | (refine ev_nil (hK _ ?_); clear hK K) | (apply ev_call0; (case hys => (simp only [go_sem]; try rfl)); (case hs => first | exact f58_spec .. | exact h84 ..); (case hok | hσ => (simp only [go_sem]; try rfl))) | (apply ev_step0; (case hr | hσ => (simp only [go_sem]; try rfl)); (case hc => exact hcA)) | (apply ev_step; (case hr | hσ => (intros; simp only [go_sem]; try rfl)); (case hc => exact hcA); intro g u; (try clear u); (try clear g)) | fail
  all_goals (refine resR_oneA ?_; simp only [go_sem])
  all_goals (refine LeA.i ?_; simp_all [cmpW])
theorem cmpI_zero {a b : Int} : cmpI a b = 0 ↔ a = b := by
  unfold cmpI; constructor
  · intro h; split at h
    · cases h
    · split at h
      · cases h
      · omega
  · intro h; subst h; simp
theorem cmp_same (a b : Vl) : cmpV a b = cmpW a b := by
  have e : cmpB a.s b.s = cmpL a.s.data.toList b.s.data.toList := by
    rw [cmpL_eq, cmpB, ByteArray.toList_eq, ByteArray.toList_eq]
  unfold cmpV cmpW
  simp only [firstNZ, e, cmpI_zero]
  by_cases h1 : a.k = b.k <;> by_cases h2 : a.i = b.i <;> simp [h1, h2]
  all_goals first | done | (intro h; exact h.symm)
structure Ty where
  k : Int
  scale : Int
  null : Bool
abbrev tyA (t : Ty) : List AV := [litI .i64 t.k, litI .i64 t.scale, litB t.null]
def boolV (b : Bool) : Vl := ⟨1, if b = true then 1 else 0, ⟨#[]⟩⟩
theorem f71_spec (b : Bool) : Spec Tryd.prog 71 [litB b] (.agg (vl (boolV b))) := by
  cases b
  · refine spec_of_awp (fn := Tryd.f71) Tryd.func71 (by kernel_rfl) rfl ?_
    intro w0 C0
    simp only [Tryd.ntmps71, go_sem]
    repeat' first | refine awp_seq ?_ | refine awp_block ?_ | refine awp_skip ?_ | (apply regB; (case hd => exact hdA); intro K hK) | ((refine awp_cond _ (by rfl) ?_ ?_) <;> (first | refine ttA ?_ | refine ffA ?_ | (intro hb; first | (cases hb; done) | simp only [hb] | skip))) | ((first | apply awp_exit | apply awp_ret); refine tqA ?_) | (refine ev_nil (hK _ ?_); clear hK K) | (apply ev_step0; (case hr | hσ => (simp only [go_sem]; try rfl)); (case hc => exact hcA)) | (apply ev_step; (case hr | hσ => (intros; simp only [go_sem]; try rfl)); (case hc => exact hcA); intro g u; (try clear u); (try clear g)) | fail
    all_goals (refine resR_oneA ?_; simp only [go_sem])
    exact LeA.refl _
  · refine spec_of_awp (fn := Tryd.f71) Tryd.func71 (by kernel_rfl) rfl ?_
    intro w0 C0
    simp only [Tryd.ntmps71, go_sem]
    repeat' first | refine awp_seq ?_ | refine awp_block ?_ | refine awp_skip ?_ | (apply regB; (case hd => exact hdA); intro K hK) | ((refine awp_cond _ (by rfl) ?_ ?_) <;> (first | refine ttA ?_ | refine ffA ?_ | (intro hb; first | (cases hb; done) | simp only [hb] | skip))) | ((first | apply awp_exit | apply awp_ret); refine tqA ?_) | (refine ev_nil (hK _ ?_); clear hK K) | (apply ev_step0; (case hr | hσ => (simp only [go_sem]; try rfl)); (case hc => exact hcA)) | (apply ev_step; (case hr | hσ => (intros; simp only [go_sem]; try rfl)); (case hc => exact hcA); intro g u; (try clear u); (try clear g)) | fail
    all_goals (refine resR_oneA ?_; simp only [go_sem])
    exact LeA.refl _
theorem f26_spec (n : Int) (hn : -1000000 ≤ n ∧ n ≤ 1000000) : Spec Tryd.prog 26 [litI .i64 n] (.agg (vl ⟨2, n * 1000000, ⟨#[]⟩⟩)) := by
  have w : IntKind.i64.wrap (n * 1000000) = n * 1000000 := wrap_id (by omega)
  refine spec_of_awp (fn := Tryd.f26) Tryd.func26 (by kernel_rfl) rfl ?_
  intro w0 C0
  simp only [Tryd.ntmps26, go_sem]
  repeat' first | refine awp_seq ?_ | (apply regB; (case hd => exact hdA); intro K hK) | (apply awp_ret; refine tqA ?_) | (refine ev_nil (hK _ ?_); clear hK K) | (apply ev_call0; (case hys => (simp only [go_sem, w]; try rfl)); (case hs => first | exact f28_spec ..); (case hok | hσ => (simp only [go_sem, w]; try rfl))) | (apply ev_step0; (case hr | hσ => (simp only [go_sem, w]; try rfl)); (case hc => exact hcA)) | (apply ev_step; (case hr | hσ => (intros; simp only [go_sem, w]; try rfl)); (case hc => exact hcA); intro g u; (try clear u); (try clear g)) | fail
  all_goals (refine resR_oneA ?_; simp only [go_sem])
  exact LeA.refl _
def stepV : Nat → Int
  | 0 => 1000000
  | n + 1 => (stepV n).tdiv 10
theorem stepV_bd : ∀ n, 0 ≤ stepV n ∧ stepV n ≤ 1000000
  | 0 => by decide
  | n + 1 => by
    have h := stepV_bd n
    simp only [stepV]
    rw [Int.tdiv_eq_ediv_of_nonneg h.1]
    omega
theorem f72_spec (n : Nat) (hn : n ≤ 1000000) : Spec Tryd.prog 72 [litI .i64 (n : Int)] (litI .i64 (stepV n)) := by
  refine spec_of_awp (fn := Tryd.f72) Tryd.func72 (by kernel_rfl) rfl ?_
  intro w0 C0
  simp only [Tryd.ntmps72, go_sem]
  repeat' first | refine awp_seq ?_ | refine awp_block ?_ | refine awp_skip ?_ | (apply regB; (case hd => exact hdA); intro K hK) | ((refine awp_cond _ (by rfl) ?_ ?_) <;> (first | refine ttA ?_ | refine ffA ?_ | (intro hb; first | (cases hb; done) | simp only [hb] | skip))) | ((first | apply awp_exit | apply awp_ret); refine tqA ?_) | (refine ev_nil (hK _ ?_); clear hK K) | (apply ev_step0; (case hr | hσ => (simp only [go_sem]; try rfl)); (case hc => exact hcA)) | (apply ev_step; (case hr | hσ => (intros; simp only [go_sem]; try rfl)); (case hc => exact hcA); intro g u; (try clear u); (try clear g)) | fail
  refine awp_loopI (fun i : Nat => i ≤ n) (fun i => n - i) (fun i => ⟨[litI .i64 (n : Int), .any, litI .i64 0, litI .i64 (stepV i), litI .i64 i, .any, .any, .any, .any, .any, .any, .any, .any], [.no, .no, .no, .no, .no, .no, .no, .no, .no, .no, .no, .no, .no]⟩) 0 (by omega) ?_ ?_
  · exact wkA
  intro i hi
  simp only [litI, litB] at hi ⊢
  by_cases hlt : i < n
  rotate_left
  have hdec : decide ((i : Int) < (n : Int)) = false := by simp; omega
  · have : i = n := by omega
    subst this
    repeat' first | refine awp_seq ?_ | refine awp_block ?_ | refine awp_skip ?_ | (apply regB; (case hd => exact hdA); intro K hK) | ((refine awp_cond _ (by rfl) ?_ ?_) <;> (first | refine ttA ?_ | refine ffA ?_ | (intro hb; first | (cases hb; done) | simp only [hb] | skip))) | ((first | apply awp_exit | apply awp_ret); refine tqA ?_) | (refine ev_nil (hK _ ?_); clear hK K) | (apply ev_step0; (case hr | hσ => (simp only [go_sem, hdec]; try rfl)); (case hc => exact hcA)) | (apply ev_step; (case hr | hσ => (intros; simp only [go_sem, hdec]; try rfl)); (case hc => exact hcA); intro g u; (try clear u); (try clear g)) | fail
    all_goals (refine resR_oneA ?_; simp only [go_sem])
    exact LeA.refl _
  have hdec : decide ((i : Int) < (n : Int)) = true := by simp; omega
  have hb := stepV_bd (i + 1)
  simp only [stepV] at hb
  have w : IntKind.i64.wrap ((stepV i).tdiv 10) = (stepV i).tdiv 10 := wrap_id (by omega)
  all_goals have H := And.intro hdec w
  repeat' first | refine awp_seq ?_ | refine awp_block ?_ | refine awp_skip ?_ | (apply regB; (case hd => exact hdA); intro K hK) | ((refine awp_cond _ (by rfl) ?_ ?_) <;> (first | refine ttA ?_ | refine ffA ?_ | (intro hb; first | (cases hb; done) | simp only [hb] | skip))) | ((first | apply awp_exit | apply awp_ret); refine tqA ?_) | (refine ev_nil (hK _ ?_); clear hK K) | (apply ev_step0; (case hr | hσ => (simp only [go_sem, H]; try rfl)); (case hc => exact hcA)) | (apply ev_step; (case hr | hσ => (intros; simp only [go_sem, H]; try rfl)); (case hc => exact hcA); intro g u; (try clear u); (try clear g)) | fail
  all_goals try clear H
  refine Exists.intro (i + 1) ⟨by omega, by omega, ?_⟩
  simp only [stepV]
  exact wkA
end
section
set_option linter.unusedVariables false
set_option linter.unusedSimpArgs false
open Go.RowKit
attribute [local irreducible] Spec SpecF SpecN
attribute [local irreducible] AWp evOps evD
def wordsL : List ByteArray := [⟨#[]⟩, ⟨#[97]⟩, ⟨#[98]⟩, ⟨#[97, 98]⟩, ⟨#[97, 32, 98]⟩, ⟨#[98, 32, 97, 32, 99]⟩, ⟨#[120, 45, 121]⟩, ⟨#[45]⟩, ⟨#[49, 50]⟩, ⟨#[45, 48, 46, 53]⟩, ⟨#[97, 34, 98]⟩, ⟨#[92]⟩, ⟨#[48]⟩, ⟨#[55, 46, 50, 53]⟩, ⟨#[97, 98, 99, 100, 101, 102, 103, 104, 105, 106, 107, 108, 109, 110, 111, 112, 113, 114, 115, 116, 117, 118, 119, 120, 121, 122, 97, 98, 99, 100, 101, 102, 103, 104, 105, 106, 107, 108, 109, 110]⟩]
def wordM (n : Int) : ByteArray := wordsL.getD (n.tmod 15).toNat ⟨#[]⟩
theorem wordsL_at {i : Nat} (h : i < 15) : (wordsL.map fun b => [Dat.lit (.string b)]).getD i [] = [.lit (.string (wordsL.getD i ⟨#[]⟩))] := by
  have : i < wordsL.length := h
  simp only [List.getD_eq_getElem?_getD, List.getElem?_map, List.getElem?_eq_getElem this]; rfl
set_option maxHeartbeats 4000000 in
theorem f73_spec (n : Int) (hn : 0 ≤ n) : Spec Tryd.prog 73 [litI .i64 n] (litS (wordM n)) := by
  have h1 := Int.tmod_nonneg 15 hn
  have h2 := Int.tmod_lt_of_pos n (b := 15) (by decide)
  rw [wordM]
  obtain ⟨k, hk⟩ : ∃ k : Nat, n.tmod 15 = k := ⟨(n.tmod 15).toNat, by omega⟩
  have hx := wordsL_at (i := k) (by omega)
  rw [hk, Int.toNat_natCast]
  generalize wordsL.getD k ⟨#[]⟩ = b at *
  simp only [wordsL, List.map_cons, List.map_nil] at hx
  refine spec_of_awp (fn := Tryd.f73) Tryd.func73 (by kernel_rfl) rfl ?_
  intro w0 C0
  simp only [Tryd.ntmps73, go_sem]
  all_goals have H := And.intro hk hx
  repeat' first | refine awp_seq ?_ | (apply regB; (case hd => exact hdA); intro K hK) | (apply awp_ret; refine tqA ?_) | (refine ev_nil (hK _ ?_); clear hK K) | (apply ev_step0; (case hr | hσ => (simp only [go_sem, H]; try rfl)); (case hc => exact hcA)) | (apply ev_step; (case hr | hσ => (intros; simp only [go_sem, H]; try rfl)); (case hc => exact hcA); intro g u; (try clear u); (try clear g)) | fail
  all_goals try clear H
  all_goals (refine resR_oneA ?_; simp only [go_sem])
  exact LeA.refl _
def valM (t : Ty) (a b : Int) : Vl :=
  if (t.null && (a.tmod 5 == 0)) = true then nullV
  else if (t.k == 1) = true then boolV (b.tmod 2 == 1)
  else if (t.k == 2) = true then (if (a.tmod 4 == 1) = true then ⟨2, (b.tmod 40 - 12) * stepV t.scale.toNat, ⟨#[]⟩⟩ else ⟨2, (b.tmod 40 - 12) * 1000000, ⟨#[]⟩⟩)
  else ⟨3, 0, wordM b⟩
theorem wrap_u8 {n : Int} (h : 0 ≤ n ∧ n < 256) : IntKind.u8.wrap n = n := by
  simp [IntKind.wrap, IntKind.bits, IntKind.signed]; omega
set_option maxHeartbeats 4000000 in
set_option maxRecDepth 10000 in
theorem f50_spec (t : Ty) (a b : Int) (ht : 0 ≤ t.scale ∧ t.scale ≤ 6) (ha : 0 ≤ a ∧ a < 256) (hb : 0 ≤ b ∧ b < 256) : Spec Tryd.prog 50 [.agg (tyA t), .agg [litI .u8 a, litI .u8 b]] (.agg (vl (valM t a b))) := by
  obtain ⟨k, sc, nu⟩ := t
  obtain ⟨sn, rfl⟩ : ∃ sn : Nat, sc = sn := ⟨sc.toNat, by simp only at ht; omega⟩
  simp only at ht
  have h74 := f71_spec (b.tmod 2 == 1)
  have h76 := f72_spec sn (by omega)
  have hst := stepV_bd sn
  have hb40 := Int.tmod_lt_of_pos b (b := 40) (by decide)
  have hb40' := Int.tmod_nonneg 40 hb.1
  have h60 := f26_spec (b.tmod 40 - 12) (by omega)
  have h77 := f73_spec b hb.1
  have w1 : IntKind.i64.wrap (b.tmod 40) = b.tmod 40 := wrap_id (by omega)
  have w2 : IntKind.i64.wrap (b.tmod 40 - 12) = b.tmod 40 - 12 := wrap_id (by omega)
  have w3 : IntKind.i64.wrap ((b.tmod 40 - 12) * stepV sn) = (b.tmod 40 - 12) * stepV sn := by
    have e1 : (b.tmod 40 - 12) * stepV sn ≤ 27 * stepV sn := Int.mul_le_mul_of_nonneg_right (by omega) hst.1
    have e2 : -12 * stepV sn ≤ (b.tmod 40 - 12) * stepV sn := Int.mul_le_mul_of_nonneg_right (by omega) hst.1
    exact wrap_id (by omega)
  have w4 : IntKind.i64.wrap b = b := wrap_id (by omega)
  unfold valM
  simp only [Int.toNat_natCast]
  generalize stepV sn = sv at *
  generalize wordM b = wd at *
  cases h0 : (nu && (a.tmod 5 == 0)) with
  | true =>
    have hnu : nu = true := by cases nu <;> simp at h0 ⊢
    have ha5 : (a.tmod 5 == 0) = true := by cases nu <;> simp_all
    subst hnu
    rw [if_pos rfl]
    refine spec_of_awp (fn := Tryd.f50) Tryd.func50 (by kernel_rfl) rfl ?_
    intro w0 C0
    simp only [Tryd.ntmps50, go_sem]
    repeat' first | refine awp_seq ?_ | refine awp_block ?_ | refine awp_skip ?_ | (apply regB; (case hd => exact hdA); intro K hK) | (apply ev_guardU; (case hj | hu | hσ => (simp only [go_sem, ha5]; try rfl))) | ((first | refine awp_cond _ (by rfl) ?_ ?_ | ((first | apply ev_guardT | apply ev_guardF); (case hj | hb => (simp only [go_sem, ha5]; try rfl)))) <;> (first | refine ttA ?_ | refine ffA ?_ | (intro hb; first | (cases hb; done) | simp only [hb] | skip))) | ((first | apply awp_exit | apply awp_ret); refine tqA ?_) | (refine ev_nil (hK _ ?_); clear hK K) | (apply ev_call0; (case hys => (simp only [go_sem, ha5]; try rfl)); (case hs => first | exact f27_spec ..); (case hok | hσ => (simp only [go_sem, ha5]; try rfl))) | (apply ev_step0; (case hr | hσ => (simp only [go_sem, ha5]; try rfl)); (case hc => exact hcA)) | (apply ev_step; (case hr | hσ => (intros; simp only [go_sem, ha5]; try rfl)); (case hc => exact hcA); intro g u; (try clear u); (try clear g)) | fail
    all_goals (refine resR_oneA ?_; simp only [go_sem])
    exact LeA.refl _
  | false =>
  rw [if_neg Bool.false_ne_true]
  cases h1 : (k == 1) with
  | true =>
    rw [if_pos rfl]
    cases nu
    all_goals
      (try (rw [Bool.true_and] at h0))
      refine spec_of_awp (fn := Tryd.f50) Tryd.func50 (by kernel_rfl) rfl ?_
      intro w0 C0
      simp only [Tryd.ntmps50, go_sem]
      all_goals have H := And.intro h0 h1
      repeat' first | refine awp_seq ?_ | refine awp_block ?_ | refine awp_skip ?_ | (apply regB; (case hd => exact hdA); intro K hK) | (apply ev_guardU; (case hj | hu | hσ => (simp only [go_sem, H]; try rfl))) | ((first | refine awp_cond _ (by rfl) ?_ ?_ | ((first | apply ev_guardT | apply ev_guardF); (case hj | hb => (simp only [go_sem, H]; try rfl)))) <;> (first | refine ttA ?_ | refine ffA ?_ | (intro hb; first | (cases hb; done) | simp only [hb] | skip))) | ((first | apply awp_exit | apply awp_ret); refine tqA ?_) | (refine ev_nil (hK _ ?_); clear hK K) | (apply ev_call0; (case hys => (simp only [go_sem, H]; try rfl)); (case hs => first | exact h74 ..); (case hok | hσ => (simp only [go_sem, H]; try rfl))) | (apply ev_step0; (case hr | hσ => (simp only [go_sem, H]; try rfl)); (case hc => exact hcA)) | (apply ev_step; (case hr | hσ => (intros; simp only [go_sem, H]; try rfl)); (case hc => exact hcA); intro g u; (try clear u); (try clear g)) | fail
      all_goals try clear H
      all_goals (refine resR_oneA ?_; simp only [go_sem])
      exact LeA.refl _
  | false =>
  rw [if_neg Bool.false_ne_true]
  cases h2 : (k == 2) with
  | false =>
    rw [if_neg Bool.false_ne_true]
    cases nu
    all_goals
      (try (rw [Bool.true_and] at h0))
      refine spec_of_awp (fn := Tryd.f50) Tryd.func50 (by kernel_rfl) rfl ?_
      intro w0 C0
      simp only [Tryd.ntmps50, go_sem]
      all_goals have H := And.intro h0 (And.intro h1 (And.intro h2 w4))
      repeat' first | refine awp_seq ?_ | refine awp_block ?_ | refine awp_skip ?_ | (apply regB; (case hd => exact hdA); intro K hK) | (apply ev_guardU; (case hj | hu | hσ => (simp only [go_sem, H]; try rfl))) | ((first | refine awp_cond _ (by rfl) ?_ ?_ | ((first | apply ev_guardT | apply ev_guardF); (case hj | hb => (simp only [go_sem, H]; try rfl)))) <;> (first | refine ttA ?_ | refine ffA ?_ | (intro hb; first | (cases hb; done) | simp only [hb] | skip))) | ((first | apply awp_exit | apply awp_ret); refine tqA ?_) | (refine ev_nil (hK _ ?_); clear hK K) | (apply ev_call0; (case hys => (simp only [go_sem, H]; try rfl)); (case hs => first | exact h77 .. | exact f29_spec ..); (case hok | hσ => (simp only [go_sem, H]; try rfl))) | (apply ev_step0; (case hr | hσ => (simp only [go_sem, H]; try rfl)); (case hc => exact hcA)) | (apply ev_step; (case hr | hσ => (intros; simp only [go_sem, H]; try rfl)); (case hc => exact hcA); intro g u; (try clear u); (try clear g)) | fail
      all_goals try clear H
      all_goals (refine resR_oneA ?_; simp only [go_sem])
      exact LeA.refl _
  | true =>
  rw [if_pos rfl]
  cases h3 : (a.tmod 4 == 1) with
  | true =>
    rw [if_pos rfl]
    cases nu
    all_goals
      (try (rw [Bool.true_and] at h0))
      refine spec_of_awp (fn := Tryd.f50) Tryd.func50 (by kernel_rfl) rfl ?_
      intro w0 C0
      simp only [Tryd.ntmps50, go_sem]
      all_goals have H := And.intro h0 (And.intro h1 (And.intro h2 (And.intro h3 (And.intro w1 (And.intro w2 w3)))))
      repeat' first | refine awp_seq ?_ | refine awp_block ?_ | refine awp_skip ?_ | (apply regB; (case hd => exact hdA); intro K hK) | (apply ev_guardU; (case hj | hu | hσ => (simp only [go_sem, H]; try rfl))) | ((first | refine awp_cond _ (by rfl) ?_ ?_ | ((first | apply ev_guardT | apply ev_guardF); (case hj | hb => (simp only [go_sem, H]; try rfl)))) <;> (first | refine ttA ?_ | refine ffA ?_ | (intro hb; first | (cases hb; done) | simp only [hb] | skip))) | ((first | apply awp_exit | apply awp_ret); refine tqA ?_) | (refine ev_nil (hK _ ?_); clear hK K) | (apply ev_call0; (case hys => (simp only [go_sem, H]; try rfl)); (case hs => first | exact h76 .. | exact f28_spec ..); (case hok | hσ => (simp only [go_sem, H]; try rfl))) | (apply ev_step0; (case hr | hσ => (simp only [go_sem, H]; try rfl)); (case hc => exact hcA)) | (apply ev_step; (case hr | hσ => (intros; simp only [go_sem, H]; try rfl)); (case hc => exact hcA); intro g u; (try clear u); (try clear g)) | fail
      all_goals try clear H
      all_goals (refine resR_oneA ?_; simp only [go_sem])
      exact LeA.refl _
  | false =>
    rw [if_neg Bool.false_ne_true]
    cases nu
    all_goals
      (try (rw [Bool.true_and] at h0))
      refine spec_of_awp (fn := Tryd.f50) Tryd.func50 (by kernel_rfl) rfl ?_
      intro w0 C0
      simp only [Tryd.ntmps50, go_sem]
      all_goals have H := And.intro h0 (And.intro h1 (And.intro h2 (And.intro h3 (And.intro w1 (And.intro w2 w3)))))
      repeat' first | refine awp_seq ?_ | refine awp_block ?_ | refine awp_skip ?_ | (apply regB; (case hd => exact hdA); intro K hK) | (apply ev_guardU; (case hj | hu | hσ => (simp only [go_sem, H]; try rfl))) | ((first | refine awp_cond _ (by rfl) ?_ ?_ | ((first | apply ev_guardT | apply ev_guardF); (case hj | hb => (simp only [go_sem, H]; try rfl)))) <;> (first | refine ttA ?_ | refine ffA ?_ | (intro hb; first | (cases hb; done) | simp only [hb] | skip))) | ((first | apply awp_exit | apply awp_ret); refine tqA ?_) | (refine ev_nil (hK _ ?_); clear hK K) | (apply ev_call0; (case hys => (simp only [go_sem, H]; try rfl)); (case hs => first | exact h60 ..); (case hok | hσ => (simp only [go_sem, H]; try rfl))) | (apply ev_step0; (case hr | hσ => (simp only [go_sem, H]; try rfl)); (case hc => exact hcA)) | (apply ev_step; (case hr | hσ => (intros; simp only [go_sem, H]; try rfl)); (case hc => exact hcA); intro g u; (try clear u); (try clear g)) | fail
      all_goals try clear H
      all_goals (refine resR_oneA ?_; simp only [go_sem])
      exact LeA.refl _
end
end Go.Proofs.YtopigomfhggkoaaDoor.A
