/- The ground of the walks: regions of this program. Bytes: letters, digits, white space: the walks. Conditions on the bytes of a string: the walks. Words, numbers, kinds, white space: the walks. White space: the walk. Functions of package strings: the kit's contracts as Specs. Signs; pieces of strings: the walk. The program's Valid: the walk. The program's Valid, of numbers and signs: the walk. Valid; lines: the walks. -/
import Derived.Test.YtnppegglggcceaaT
import Derived.Test.YtnppegglggcceaaV10
import Derived.Test.YtnppegglggcceaaF1
import Derived.Test.YtnppegglggcceaaShelf
namespace Go.Proofs.Ytnppegglggcceaa.A
attribute [local go_sem] Nat.reduceAdd Nat.reduceSub Nat.reduceMul Nat.reduceLT Nat.reduceLeDiff Nat.reduceEqDiff Nat.reduceBEq reduceIte reduceCtorEq e_step_none e_slotU e_slotB e_move e_assign e_pick e_unOp e_binOp e_alloc e_box e_build e_buildSlice e_load e_store e_fieldAddr e_field e_indexAddr e_index e_slice e_sliceM e_makeSlice e_makeFunc e_convert e_extract e_nilCheck e_len e_append e_max e_min e_call e_callV e_fn e_cap_ptr e_cap_lit e_cap_sl e_cap_fn e_fnOf_clo e_fnOf_fn e_flat_fn e_clo e_ev_tmp e_ev_int e_ev_bool e_ev_string e_ev_slice e_ev_nilFunc e_ev_nilIface e_ev_pointer e_ev_agg e_ev_func e_pickT e_pickF e_not e_neg e_add e_sub e_mul e_quo e_rem e_eql e_neq e_lss e_leq e_gtr e_geq e_shl e_shr e_and e_or e_xor e_andNot e_beq e_bne e_sadd e_seql e_sneq e_b2_d e_b2_nil e_b2_nnil e_b2_agg e_lits_nil e_lits_cons e_litC e_eqR e_eqArr e_eqOnes_nil e_eqOnes_cons e_eqO_e e_eqO_n e_eqV4 e_eqV3 e_eqV2 e_eqV1 e_eqFs_nil e_eqFs_cons e_and2 e_eq1 e_eqL_i e_eqL_s e_eqL_b e_allocR e_boxR e_box_agg e_box_d e_box_own e_box_clo e_one_nil e_one_d e_one_own e_one_clo e_one_ptr e_cells_agg e_cells_d e_cells_own e_cells_clo e_cells_ptr e_ob_own e_ob_ptr e_ob_elo e_ob_d e_ob_el e_ob_agg e_load_box e_load_fzb e_load_el e_load_elo e_storeX_ptr e_storeX_d e_storeX_own e_storeX_agg e_storeX_el e_storeC' e_notIn_nil e_notIn_cons e_store_box e_storeB e_store_elo e_store_elo_agg e_storeE e_fa_ptr e_fa_el e_fa_elo e_faR e_fd e_fdR e_ia_d e_ia_row e_ia_fz e_ia_ptr e_ia_el e_ix_s e_ix_a e_len_s e_len_nil e_len_d e_len_row e_len_fz e_conv_i e_conv_s e_conv_own e_conv_sl e_extr e_maxR e_minR e_nil_ptr e_nil_el e_nil_elo e_rows_nil e_rows_d e_rows_row e_rows_fz e_rok_nil e_rok_d e_rok_row e_rok_fz e_app_row e_appR e_app_nil e_appN e_make e_bnd_none e_bnd_some e_optmap_none e_optmap_some e_slR e_slRe e_sl_s e_sl_d e_slM_d e_sl_nil e_sl_row e_sl_fz e_fill_nil e_fill_cons e_fill1 e_placeS e_plS e_placeE e_buildO e_build1 e_build2 e_build3 e_bindD e_bs e_bsR e_allD_nil e_allD_cons e_allD_el e_allD_clo e_allD2 e_allD1 e_chunk0 e_chunkS e_clP_nil e_clP_cons e_cl_d e_cl_any e_cl_el e_cl_agg e_cl_tup e_cl_clo e_cl_own e_clOwn_row e_clOwn_fz e_cl_ptr e_clPtr_box e_clBox e_clPtr_fzb e_clL_nil e_clL_cons e_ok_d e_ok_any e_ok_el e_ok_agg e_ok_tup e_ok_clo e_ok_own e_okOwn_row e_okOwn_fz e_ok_ptr e_okPtr_box e_okPtr_fzb e_okL_nil e_okL_cons e_ids_d e_ids_any e_ids_el e_ids_own e_ids_ptr e_ids_agg e_ids_tup e_ids_clo e_idsL_nil e_idsL_cons e_frz_nil e_frz_cons e_frz_row e_frz_fz e_frz_fzb e_frz_box e_frzB e_flat_lit e_flat_sl e_flat_agg e_flat_tup e_flat_any e_flat_clo e_flatL_nil e_flatL_cons e_new_lit e_new_agg e_new_tup e_new_own e_newOwn_row e_newL_nil e_newL_cons e_objD e_setMany e_takeA e_zerosA e_gdL e_idsG e_idsOp e_callV' e_callN' e_callF' e_o_move e_o_assign e_o_pick e_o_unOp e_o_binOp e_o_alloc e_o_box e_o_build e_o_buildSlice e_o_load e_o_store e_o_fieldAddr e_o_field e_o_indexAddr e_o_index e_o_slice0 e_o_slice1 e_o_slice2 e_o_slice3 e_o_sliceM e_o_makeSlice e_o_makeFunc
attribute [local go_sem] e_o_convert e_o_extract e_o_nilCheck e_o_bcall e_o_vcall litI litB litS List.map_cons List.map_nil List.getD_cons_zero List.getD_cons_succ List.getD_nil List.getElem?_cons_zero List.getElem?_cons_succ List.getElem?_nil Option.getD_some Option.getD_none Option.map_some Option.map_none List.length_cons List.length_nil List.all_cons List.all_nil Bool.and_true Bool.true_and and_true true_and and_self List.take_zero List.take_succ_cons List.drop_zero List.drop_succ_cons List.nil_append List.cons_append List.append_nil List.replicate_succ List.replicate_zero List.flatten_cons List.flatten_nil Nat.zero_add Nat.add_zero Nat.mul_one Nat.zero_mul Nat.one_mul Nat.mul_zero List.set_cons_zero List.set_cons_succ List.foldl_cons List.foldl_nil appendOk rowsOk inB sliceOk cutRows mtake mdrop List.length_append List.length_take List.length_drop if_true if_false or_false or_true true_or Bool.not_true Bool.not_false Bool.false_eq_true List.length_map Int.toNat_natCast Int.toNat_zero Int.toNat_one eq_self St.after St.put applyEff R0 T1 T2 T3 T4 T5 T6 T7 T8 T9 T12 T21 T22 T25 T26 T28 T31 T35 T37 T41 T52 T58 T62 T66 T73 T76 T77 T79 T80 T87 T95 ti1 ti2 ti3 ti4 ti5 ti6 ti7 ti8 ti9 ti12 ti21 ti22 ti25 ti26 ti28 ti31 ti35 ti37 ti41 ti52 ti58 ti62 ti66 ti73 ti76 ti77 ti79 ti80 ti87 ti95
section
set_option linter.unusedVariables false
set_option linter.unusedSimpArgs false
open Go.RowKit

theorem mixed : Try.prog.follows .mixedOrders = true := by kernel_rfl
theorem reg {w0 : World} {C0 M : Nat → Prop} {rd : Option Nat} {df : List Deferred} {σ : St} (ds : List (Option Nat)) {id : Nat} {Q : Exit → St → Prop} {l : List Oper} (hd : l.map (·.dst) = ds) (hok : (l.all opersOk = true)) (h : ∀ K : St → Prop, (∀ s, Q .normal s → K s) → evOps Try.prog T (gdL ds) l σ K) : AWp ⟨Try.prog, w0, C0, M, rd, df⟩ (.region id l.toArray false) Q σ :=
  awp_region (E := ⟨Try.prog, w0, C0, M, rd, df⟩) T T_ok hok (by rw [gdOf_L, hd]; exact h)
theorem regD {w0 : World} {C0 M : Nat → Prop} {rd : Option Nat} {df : List Deferred} {σ : St} (ds : List (Option Nat)) {id : Nat} {Q : Exit → St → Prop} {l : List Oper} (hd : l.map (·.dst) = ds) (hok : (l.all opersOk = true)) (A : List LogH) (h : ∀ K : St → Prop, (∀ s, Q .normal s → K s) → evD Try.prog T (gdL ds) l A σ K)
    (hB : lexD l.toArray A l.length 0 (Array.replicate l.length false) = true) : AWp ⟨Try.prog, w0, C0, M, rd, df⟩ (.region id l.toArray true) Q σ :=
  awp_draw (E := ⟨Try.prog, w0, C0, M, rd, df⟩) T T_ok mixed hok A (by rw [gdOf_L, hd]; exact h) hB
end
section
set_option linter.unusedVariables false
set_option linter.unusedSimpArgs false
open Go.RowKit
attribute [local irreducible] AWp evOps evD
abbrev byA (b : UInt8) : AV := litI .u8 (b.toNat : Int)
theorem u8_le (a b : UInt8) : decide ((a.toNat : Int) ≤ (b.toNat : Int)) = decide (a ≤ b) := by
  rw [Bool.eq_iff_iff, decide_eq_true_eq, decide_eq_true_eq, UInt8.le_iff_toNat_le]; omega
theorem u8_eq (a b : UInt8) : ((a.toNat : Int) == (b.toNat : Int)) = (a == b) := by
  rw [Bool.eq_iff_iff, beq_iff_eq, beq_iff_eq]
  constructor
  · intro h; exact UInt8.toNat_inj.1 (by omega)
  · intro h; rw [h]
theorem f31_spec (b : UInt8) : Spec Try.prog 31 [byA b] (litB (letterB b)) := by
  have h1 : decide ((97 : Int) ≤ (b.toNat : Int)) = decide (97 ≤ b) := u8_le 97 b
  have h2 : decide ((b.toNat : Int) ≤ 122) = decide (b ≤ 122) := u8_le b 122
  unfold letterB
  cases e1 : decide (97 ≤ b)
  all_goals
    rw [e1] at h1
    refine spec_of_awp (fn := Try.f31) Try.func31 (by kernel_rfl) rfl ?_
    intro w0 C0
    simp only [Try.ntmps31, litI, litB, litS, List.length_cons, List.length_nil, Nat.reduceAdd, Nat.reduceSub, List.replicate_succ, List.replicate_zero, List.cons_append, List.nil_append]
    repeat' first
      | refine awp_seq ?_
      | refine awp_block ?_
      | refine awp_skip ?_
      | (refine reg _ (by (simp only [List.map_cons, List.map_nil]; rfl)) rfl ?_; intro K hK)
      | (refine awp_cond _ (by rfl) ?_ ?_ <;> (intro hb; first | (cases hb; done) | (have ht : true = true := hb; clear ht hb) | (have ht : false = false := hb; clear ht hb) | (simp only [hb]) | skip))
      | (refine awp_exit ?_; simp only [thenA, blockA, scopeA, reduceIte, RetQ, Nat.reduceEqDiff])
      | (refine awp_ret ?_; simp only [thenA, blockA, scopeA, RetQ])
      | (refine ev_nil (hK _ ?_); clear hK K)
      | (apply ev_guardU; (case hj | hu | hσ => (simp only [go_sem, h1, h2]; try rfl)))
      | (refine ev_guardT _ _ (by (simp only [go_sem, h1, h2]; rfl)) (by (simp only [go_sem, h1, h2]; rfl)) ?_ ?_ <;> (intro hb; first | (cases hb; done) | (have ht : true = true := hb; clear ht hb) | (have ht : false = false := hb; clear ht hb) | (simp only [hb]) | skip))
      | (refine ev_guardF _ _ (by (simp only [go_sem, h1, h2]; rfl)) (by (simp only [go_sem, h1, h2]; rfl)) ?_ ?_ <;> (intro hb; first | (cases hb; done) | (have ht : true = true := hb; clear ht hb) | (have ht : false = false := hb; clear ht hb) | (simp only [hb]) | skip))
      | (apply ev_step0; (case hr | hσ => (simp only [go_sem, h1, h2]; try rfl)); (case hc => (first | trivial | decide | (simp only [inB, sliceOk, appendOk, rowsOk]; omega) | (simp [inB, sliceOk, appendOk, rowsOk]; omega))))
      | (apply ev_step; (case hr => (simp only [go_sem, h1, h2]; try rfl)); (case hσ => (intro g u; simp only [go_sem, h1, h2]; try rfl)); (case hc => (first | trivial | decide | (simp only [inB, sliceOk, appendOk, rowsOk]; omega) | (simp [inB, sliceOk, appendOk, rowsOk]; omega))); intro g u; (try clear u); (try clear g))
      | fail
    all_goals (refine resR_one T_ok rfl _ (by (simp only [go_sem, resA]; rfl)) (by first | trivial | (simp only [go_sem, resA])) (by first | trivial | (simp only [go_sem])) ?_; simp only [go_sem])
    exact LeA.refl _
theorem f60_spec (b : UInt8) : Spec Try.prog 60 [byA b] (litB (letterB b)) := by
  have h1 : decide ((b.toNat : Int) ≥ 97) = decide (97 ≤ b) := u8_le 97 b
  have h2 : decide ((b.toNat : Int) ≤ 122) = decide (b ≤ 122) := u8_le b 122
  unfold letterB
  cases e1 : decide (97 ≤ b)
  all_goals
    rw [e1] at h1
    refine spec_of_awp (fn := Try.f60) Try.func60 (by kernel_rfl) rfl ?_
    intro w0 C0
    simp only [Try.ntmps60, litI, litB, litS, List.length_cons, List.length_nil, Nat.reduceAdd, Nat.reduceSub, List.replicate_succ, List.replicate_zero, List.cons_append, List.nil_append]
    repeat' first
      | refine awp_seq ?_
      | refine awp_block ?_
      | refine awp_skip ?_
      | (refine reg _ (by (simp only [List.map_cons, List.map_nil]; rfl)) rfl ?_; intro K hK)
      | (refine awp_cond _ (by rfl) ?_ ?_ <;> (intro hb; first | (cases hb; done) | (have ht : true = true := hb; clear ht hb) | (have ht : false = false := hb; clear ht hb) | (simp only [hb]) | skip))
      | (refine awp_exit ?_; simp only [thenA, blockA, scopeA, reduceIte, RetQ, Nat.reduceEqDiff])
      | (refine awp_ret ?_; simp only [thenA, blockA, scopeA, RetQ])
      | (refine ev_nil (hK _ ?_); clear hK K)
      | (apply ev_guardU; (case hj | hu | hσ => (simp only [go_sem, h1, h2]; try rfl)))
      | (refine ev_guardT _ _ (by (simp only [go_sem, h1, h2]; rfl)) (by (simp only [go_sem, h1, h2]; rfl)) ?_ ?_ <;> (intro hb; first | (cases hb; done) | (have ht : true = true := hb; clear ht hb) | (have ht : false = false := hb; clear ht hb) | (simp only [hb]) | skip))
      | (refine ev_guardF _ _ (by (simp only [go_sem, h1, h2]; rfl)) (by (simp only [go_sem, h1, h2]; rfl)) ?_ ?_ <;> (intro hb; first | (cases hb; done) | (have ht : true = true := hb; clear ht hb) | (have ht : false = false := hb; clear ht hb) | (simp only [hb]) | skip))
      | (apply ev_step0; (case hr | hσ => (simp only [go_sem, h1, h2]; try rfl)); (case hc => (first | trivial | decide | (simp only [inB, sliceOk, appendOk, rowsOk]; omega) | (simp [inB, sliceOk, appendOk, rowsOk]; omega))))
      | (apply ev_step; (case hr => (simp only [go_sem, h1, h2]; try rfl)); (case hσ => (intro g u; simp only [go_sem, h1, h2]; try rfl)); (case hc => (first | trivial | decide | (simp only [inB, sliceOk, appendOk, rowsOk]; omega) | (simp [inB, sliceOk, appendOk, rowsOk]; omega))); intro g u; (try clear u); (try clear g))
      | fail
    all_goals (refine resR_one T_ok rfl _ (by (simp only [go_sem, resA]; rfl)) (by first | trivial | (simp only [go_sem, resA])) (by first | trivial | (simp only [go_sem])) ?_; simp only [go_sem])
    exact LeA.refl _
theorem f34_spec (b : UInt8) : Spec Try.prog 34 [byA b] (litB (digitB b)) := by
  have h1 : decide ((48 : Int) ≤ (b.toNat : Int)) = decide (48 ≤ b) := u8_le 48 b
  have h2 : decide ((b.toNat : Int) ≤ 57) = decide (b ≤ 57) := u8_le b 57
  unfold digitB
  cases e1 : decide (48 ≤ b)
  all_goals
    rw [e1] at h1
    refine spec_of_awp (fn := Try.f34) Try.func34 (by kernel_rfl) rfl ?_
    intro w0 C0
    simp only [Try.ntmps34, litI, litB, litS, List.length_cons, List.length_nil, Nat.reduceAdd, Nat.reduceSub, List.replicate_succ, List.replicate_zero, List.cons_append, List.nil_append]
    repeat' first
      | refine awp_seq ?_
      | refine awp_block ?_
      | refine awp_skip ?_
      | (refine reg _ (by (simp only [List.map_cons, List.map_nil]; rfl)) rfl ?_; intro K hK)
      | (refine awp_cond _ (by rfl) ?_ ?_ <;> (intro hb; first | (cases hb; done) | (have ht : true = true := hb; clear ht hb) | (have ht : false = false := hb; clear ht hb) | (simp only [hb]) | skip))
      | (refine awp_exit ?_; simp only [thenA, blockA, scopeA, reduceIte, RetQ, Nat.reduceEqDiff])
      | (refine awp_ret ?_; simp only [thenA, blockA, scopeA, RetQ])
      | (refine ev_nil (hK _ ?_); clear hK K)
      | (apply ev_guardU; (case hj | hu | hσ => (simp only [go_sem, h1, h2]; try rfl)))
      | (refine ev_guardT _ _ (by (simp only [go_sem, h1, h2]; rfl)) (by (simp only [go_sem, h1, h2]; rfl)) ?_ ?_ <;> (intro hb; first | (cases hb; done) | (have ht : true = true := hb; clear ht hb) | (have ht : false = false := hb; clear ht hb) | (simp only [hb]) | skip))
      | (refine ev_guardF _ _ (by (simp only [go_sem, h1, h2]; rfl)) (by (simp only [go_sem, h1, h2]; rfl)) ?_ ?_ <;> (intro hb; first | (cases hb; done) | (have ht : true = true := hb; clear ht hb) | (have ht : false = false := hb; clear ht hb) | (simp only [hb]) | skip))
      | (apply ev_step0; (case hr | hσ => (simp only [go_sem, h1, h2]; try rfl)); (case hc => (first | trivial | decide | (simp only [inB, sliceOk, appendOk, rowsOk]; omega) | (simp [inB, sliceOk, appendOk, rowsOk]; omega))))
      | (apply ev_step; (case hr => (simp only [go_sem, h1, h2]; try rfl)); (case hσ => (intro g u; simp only [go_sem, h1, h2]; try rfl)); (case hc => (first | trivial | decide | (simp only [inB, sliceOk, appendOk, rowsOk]; omega) | (simp [inB, sliceOk, appendOk, rowsOk]; omega))); intro g u; (try clear u); (try clear g))
      | fail
    all_goals (refine resR_one T_ok rfl _ (by (simp only [go_sem, resA]; rfl)) (by first | trivial | (simp only [go_sem, resA])) (by first | trivial | (simp only [go_sem])) ?_; simp only [go_sem])
    exact LeA.refl _
theorem f61_spec (b : UInt8) : Spec Try.prog 61 [byA b] (litB (digitB b)) := by
  have h1 : decide ((b.toNat : Int) ≥ 48) = decide (48 ≤ b) := u8_le 48 b
  have h2 : decide ((b.toNat : Int) ≤ 57) = decide (b ≤ 57) := u8_le b 57
  unfold digitB
  cases e1 : decide (48 ≤ b)
  all_goals
    rw [e1] at h1
    refine spec_of_awp (fn := Try.f61) Try.func61 (by kernel_rfl) rfl ?_
    intro w0 C0
    simp only [Try.ntmps61, litI, litB, litS, List.length_cons, List.length_nil, Nat.reduceAdd, Nat.reduceSub, List.replicate_succ, List.replicate_zero, List.cons_append, List.nil_append]
    repeat' first
      | refine awp_seq ?_
      | refine awp_block ?_
      | refine awp_skip ?_
      | (refine reg _ (by (simp only [List.map_cons, List.map_nil]; rfl)) rfl ?_; intro K hK)
      | (refine awp_cond _ (by rfl) ?_ ?_ <;> (intro hb; first | (cases hb; done) | (have ht : true = true := hb; clear ht hb) | (have ht : false = false := hb; clear ht hb) | (simp only [hb]) | skip))
      | (refine awp_exit ?_; simp only [thenA, blockA, scopeA, reduceIte, RetQ, Nat.reduceEqDiff])
      | (refine awp_ret ?_; simp only [thenA, blockA, scopeA, RetQ])
      | (refine ev_nil (hK _ ?_); clear hK K)
      | (apply ev_guardU; (case hj | hu | hσ => (simp only [go_sem, h1, h2]; try rfl)))
      | (refine ev_guardT _ _ (by (simp only [go_sem, h1, h2]; rfl)) (by (simp only [go_sem, h1, h2]; rfl)) ?_ ?_ <;> (intro hb; first | (cases hb; done) | (have ht : true = true := hb; clear ht hb) | (have ht : false = false := hb; clear ht hb) | (simp only [hb]) | skip))
      | (refine ev_guardF _ _ (by (simp only [go_sem, h1, h2]; rfl)) (by (simp only [go_sem, h1, h2]; rfl)) ?_ ?_ <;> (intro hb; first | (cases hb; done) | (have ht : true = true := hb; clear ht hb) | (have ht : false = false := hb; clear ht hb) | (simp only [hb]) | skip))
      | (apply ev_step0; (case hr | hσ => (simp only [go_sem, h1, h2]; try rfl)); (case hc => (first | trivial | decide | (simp only [inB, sliceOk, appendOk, rowsOk]; omega) | (simp [inB, sliceOk, appendOk, rowsOk]; omega))))
      | (apply ev_step; (case hr => (simp only [go_sem, h1, h2]; try rfl)); (case hσ => (intro g u; simp only [go_sem, h1, h2]; try rfl)); (case hc => (first | trivial | decide | (simp only [inB, sliceOk, appendOk, rowsOk]; omega) | (simp [inB, sliceOk, appendOk, rowsOk]; omega))); intro g u; (try clear u); (try clear g))
      | fail
    all_goals (refine resR_one T_ok rfl _ (by (simp only [go_sem, resA]; rfl)) (by first | trivial | (simp only [go_sem, resA])) (by first | trivial | (simp only [go_sem])) ?_; simp only [go_sem])
    exact LeA.refl _
def printB (b : UInt8) : Bool := decide (32 ≤ b) && decide (b ≤ 126)
theorem f36_spec (b : UInt8) : Spec Try.prog 36 [byA b] (litB (printB b)) := by
  have h1 : decide ((32 : Int) ≤ (b.toNat : Int)) = decide (32 ≤ b) := u8_le 32 b
  have h2 : decide ((b.toNat : Int) ≤ 126) = decide (b ≤ 126) := u8_le b 126
  unfold printB
  cases e1 : decide (32 ≤ b)
  all_goals
    rw [e1] at h1
    refine spec_of_awp (fn := Try.f36) Try.func36 (by kernel_rfl) rfl ?_
    intro w0 C0
    simp only [Try.ntmps36, litI, litB, litS, List.length_cons, List.length_nil, Nat.reduceAdd, Nat.reduceSub, List.replicate_succ, List.replicate_zero, List.cons_append, List.nil_append]
    repeat' first
      | refine awp_seq ?_
      | refine awp_block ?_
      | refine awp_skip ?_
      | (refine reg _ (by (simp only [List.map_cons, List.map_nil]; rfl)) rfl ?_; intro K hK)
      | (refine awp_cond _ (by rfl) ?_ ?_ <;> (intro hb; first | (cases hb; done) | (have ht : true = true := hb; clear ht hb) | (have ht : false = false := hb; clear ht hb) | (simp only [hb]) | skip))
      | (refine awp_exit ?_; simp only [thenA, blockA, scopeA, reduceIte, RetQ, Nat.reduceEqDiff])
      | (refine awp_ret ?_; simp only [thenA, blockA, scopeA, RetQ])
      | (refine ev_nil (hK _ ?_); clear hK K)
      | (apply ev_guardU; (case hj | hu | hσ => (simp only [go_sem, h1, h2]; try rfl)))
      | (refine ev_guardT _ _ (by (simp only [go_sem, h1, h2]; rfl)) (by (simp only [go_sem, h1, h2]; rfl)) ?_ ?_ <;> (intro hb; first | (cases hb; done) | (have ht : true = true := hb; clear ht hb) | (have ht : false = false := hb; clear ht hb) | (simp only [hb]) | skip))
      | (refine ev_guardF _ _ (by (simp only [go_sem, h1, h2]; rfl)) (by (simp only [go_sem, h1, h2]; rfl)) ?_ ?_ <;> (intro hb; first | (cases hb; done) | (have ht : true = true := hb; clear ht hb) | (have ht : false = false := hb; clear ht hb) | (simp only [hb]) | skip))
      | (apply ev_step0; (case hr | hσ => (simp only [go_sem, h1, h2]; try rfl)); (case hc => (first | trivial | decide | (simp only [inB, sliceOk, appendOk, rowsOk]; omega) | (simp [inB, sliceOk, appendOk, rowsOk]; omega))))
      | (apply ev_step; (case hr => (simp only [go_sem, h1, h2]; try rfl)); (case hσ => (intro g u; simp only [go_sem, h1, h2]; try rfl)); (case hc => (first | trivial | decide | (simp only [inB, sliceOk, appendOk, rowsOk]; omega) | (simp [inB, sliceOk, appendOk, rowsOk]; omega))); intro g u; (try clear u); (try clear g))
      | fail
    all_goals (refine resR_one T_ok rfl _ (by (simp only [go_sem, resA]; rfl)) (by first | trivial | (simp only [go_sem, resA])) (by first | trivial | (simp only [go_sem])) ?_; simp only [go_sem])
    exact LeA.refl _
theorem f33_spec (b : UInt8) : Spec Try.prog 33 [byA b] (litB (wordB b)) := by
  have h1 := f31_spec b
  have h2 := f34_spec b
  unfold wordB
  cases e1 : letterB b
  all_goals
    rw [e1] at h1
    refine spec_of_awp (fn := Try.f33) Try.func33 (by kernel_rfl) rfl ?_
    intro w0 C0
    simp only [Try.ntmps33, litI, litB, litS, List.length_cons, List.length_nil, Nat.reduceAdd, Nat.reduceSub, List.replicate_succ, List.replicate_zero, List.cons_append, List.nil_append]
    repeat' first
      | refine awp_seq ?_
      | refine awp_block ?_
      | refine awp_skip ?_
      | (refine reg _ (by (simp only [List.map_cons, List.map_nil]; rfl)) rfl ?_; intro K hK)
      | (refine awp_cond _ (by rfl) ?_ ?_ <;> (intro hb; first | (cases hb; done) | (have ht : true = true := hb; clear ht hb) | (have ht : false = false := hb; clear ht hb) | (simp only [hb]) | skip))
      | (refine awp_exit ?_; simp only [thenA, blockA, scopeA, reduceIte, RetQ, Nat.reduceEqDiff])
      | (refine awp_ret ?_; simp only [thenA, blockA, scopeA, RetQ])
      | (refine ev_nil (hK _ ?_); clear hK K)
      | (apply ev_guardU; (case hj | hu | hσ => (simp only [go_sem]; try rfl)))
      | (refine ev_guardT _ _ (by (simp only [go_sem]; rfl)) (by (simp only [go_sem]; rfl)) ?_ ?_ <;> (intro hb; first | (cases hb; done) | (have ht : true = true := hb; clear ht hb) | (have ht : false = false := hb; clear ht hb) | (simp only [hb]) | skip))
      | (refine ev_guardF _ _ (by (simp only [go_sem]; rfl)) (by (simp only [go_sem]; rfl)) ?_ ?_ <;> (intro hb; first | (cases hb; done) | (have ht : true = true := hb; clear ht hb) | (have ht : false = false := hb; clear ht hb) | (simp only [hb]) | skip))
      | (apply ev_call0; (case hys => (simp only [go_sem]; try rfl)); (case hs => first | exact h1 .. | exact h2 ..); (case hok | hσ => (simp only [go_sem]; try rfl)))
      | (apply ev_step0; (case hr | hσ => (simp only [go_sem]; try rfl)); (case hc => (first | trivial | decide | (simp only [inB, sliceOk, appendOk, rowsOk]; omega) | (simp [inB, sliceOk, appendOk, rowsOk]; omega))))
      | (apply ev_step; (case hr => (simp only [go_sem]; try rfl)); (case hσ => (intro g u; simp only [go_sem]; try rfl)); (case hc => (first | trivial | decide | (simp only [inB, sliceOk, appendOk, rowsOk]; omega) | (simp [inB, sliceOk, appendOk, rowsOk]; omega))); intro g u; (try clear u); (try clear g))
      | fail
    all_goals (refine resR_one T_ok rfl _ (by (simp only [go_sem, resA]; rfl)) (by first | trivial | (simp only [go_sem, resA])) (by first | trivial | (simp only [go_sem])) ?_; simp only [go_sem])
    exact LeA.refl _
theorem f68_spec (b : UInt8) : Spec Try.prog 68 [byA b] (litB (wordB b)) := by
  have h1 := f31_spec b
  have h2 := f34_spec b
  unfold wordB
  cases e1 : letterB b
  all_goals
    rw [e1] at h1
    refine spec_of_awp (fn := Try.f68) Try.func68 (by kernel_rfl) rfl ?_
    intro w0 C0
    simp only [Try.ntmps68, litI, litB, litS, List.length_cons, List.length_nil, Nat.reduceAdd, Nat.reduceSub, List.replicate_succ, List.replicate_zero, List.cons_append, List.nil_append]
    repeat' first
      | refine awp_seq ?_
      | refine awp_block ?_
      | refine awp_skip ?_
      | (refine reg _ (by (simp only [List.map_cons, List.map_nil]; rfl)) rfl ?_; intro K hK)
      | (refine awp_cond _ (by rfl) ?_ ?_ <;> (intro hb; first | (cases hb; done) | (have ht : true = true := hb; clear ht hb) | (have ht : false = false := hb; clear ht hb) | (simp only [hb]) | skip))
      | (refine awp_exit ?_; simp only [thenA, blockA, scopeA, reduceIte, RetQ, Nat.reduceEqDiff])
      | (refine awp_ret ?_; simp only [thenA, blockA, scopeA, RetQ])
      | (refine ev_nil (hK _ ?_); clear hK K)
      | (apply ev_guardU; (case hj | hu | hσ => (simp only [go_sem]; try rfl)))
      | (refine ev_guardT _ _ (by (simp only [go_sem]; rfl)) (by (simp only [go_sem]; rfl)) ?_ ?_ <;> (intro hb; first | (cases hb; done) | (have ht : true = true := hb; clear ht hb) | (have ht : false = false := hb; clear ht hb) | (simp only [hb]) | skip))
      | (refine ev_guardF _ _ (by (simp only [go_sem]; rfl)) (by (simp only [go_sem]; rfl)) ?_ ?_ <;> (intro hb; first | (cases hb; done) | (have ht : true = true := hb; clear ht hb) | (have ht : false = false := hb; clear ht hb) | (simp only [hb]) | skip))
      | (apply ev_call0; (case hys => (simp only [go_sem]; try rfl)); (case hs => first | exact h1 .. | exact h2 ..); (case hok | hσ => (simp only [go_sem]; try rfl)))
      | (apply ev_step0; (case hr | hσ => (simp only [go_sem]; try rfl)); (case hc => (first | trivial | decide | (simp only [inB, sliceOk, appendOk, rowsOk]; omega) | (simp [inB, sliceOk, appendOk, rowsOk]; omega))))
      | (apply ev_step; (case hr => (simp only [go_sem]; try rfl)); (case hσ => (intro g u; simp only [go_sem]; try rfl)); (case hc => (first | trivial | decide | (simp only [inB, sliceOk, appendOk, rowsOk]; omega) | (simp [inB, sliceOk, appendOk, rowsOk]; omega))); intro g u; (try clear u); (try clear g))
      | fail
    all_goals (refine resR_one T_ok rfl _ (by (simp only [go_sem, resA]; rfl)) (by first | trivial | (simp only [go_sem, resA])) (by first | trivial | (simp only [go_sem])) ?_; simp only [go_sem])
    exact LeA.refl _
theorem f70_spec (b : UInt8) : Spec Try.prog 70 [byA b] (litB (wsB b)) := by
  have h1 : ((b.toNat : Int) == 32) = (b == 32) := u8_eq b 32
  have h2 : ((b.toNat : Int) == 9) = (b == 9) := u8_eq b 9
  have h3 : ((b.toNat : Int) == 10) = (b == 10) := u8_eq b 10
  unfold wsB
  obtain ⟨x1, e1⟩ : ∃ x, (b == 32) = x := ⟨_, rfl⟩
  obtain ⟨x2, e2⟩ : ∃ x, (b == 9) = x := ⟨_, rfl⟩
  rw [e1] at h1 ⊢
  rw [e2] at h2 ⊢
  cases x1
  all_goals
    cases x2
    all_goals
      refine spec_of_awp (fn := Try.f70) Try.func70 (by kernel_rfl) rfl ?_
      intro w0 C0
      simp only [Try.ntmps70, litI, litB, litS, List.length_cons, List.length_nil, Nat.reduceAdd, Nat.reduceSub, List.replicate_succ, List.replicate_zero, List.cons_append, List.nil_append]
      repeat' first
        | refine awp_seq ?_
        | refine awp_block ?_
        | refine awp_skip ?_
        | (refine reg _ (by (simp only [List.map_cons, List.map_nil]; rfl)) rfl ?_; intro K hK)
        | (refine awp_cond _ (by rfl) ?_ ?_ <;> (intro hb; first | (cases hb; done) | (have ht : true = true := hb; clear ht hb) | (have ht : false = false := hb; clear ht hb) | (simp only [hb]) | skip))
        | (refine awp_exit ?_; simp only [thenA, blockA, scopeA, reduceIte, RetQ, Nat.reduceEqDiff])
        | (refine awp_ret ?_; simp only [thenA, blockA, scopeA, RetQ])
        | (refine ev_nil (hK _ ?_); clear hK K)
        | (apply ev_guardU; (case hj | hu | hσ => (simp only [go_sem, h1, h2, h3]; try rfl)))
        | (refine ev_guardT _ _ (by (simp only [go_sem, h1, h2, h3]; rfl)) (by (simp only [go_sem, h1, h2, h3]; rfl)) ?_ ?_ <;> (intro hb; first | (cases hb; done) | (have ht : true = true := hb; clear ht hb) | (have ht : false = false := hb; clear ht hb) | (simp only [hb]) | skip))
        | (refine ev_guardF _ _ (by (simp only [go_sem, h1, h2, h3]; rfl)) (by (simp only [go_sem, h1, h2, h3]; rfl)) ?_ ?_ <;> (intro hb; first | (cases hb; done) | (have ht : true = true := hb; clear ht hb) | (have ht : false = false := hb; clear ht hb) | (simp only [hb]) | skip))
        | (apply ev_step0; (case hr | hσ => (simp only [go_sem, h1, h2, h3]; try rfl)); (case hc => (first | trivial | decide | (simp only [inB, sliceOk, appendOk, rowsOk]; omega) | (simp [inB, sliceOk, appendOk, rowsOk]; omega))))
        | (apply ev_step; (case hr => (simp only [go_sem, h1, h2, h3]; try rfl)); (case hσ => (intro g u; simp only [go_sem, h1, h2, h3]; try rfl)); (case hc => (first | trivial | decide | (simp only [inB, sliceOk, appendOk, rowsOk]; omega) | (simp [inB, sliceOk, appendOk, rowsOk]; omega))); intro g u; (try clear u); (try clear g))
        | fail
      all_goals (refine resR_one T_ok rfl _ (by (simp only [go_sem, resA]; rfl)) (by first | trivial | (simp only [go_sem, resA])) (by first | trivial | (simp only [go_sem])) ?_; simp only [go_sem])
      exact LeA.refl _
theorem f71_spec (b : UInt8) : Spec Try.prog 71 [byA b] (litB (b != 10)) := by
  have h3 : ((b.toNat : Int) != 10) = (b != 10) := by
    have h : ((b.toNat : Int) == 10) = (b == 10) := u8_eq b 10
    rw [bne, h]; rfl
  refine spec_of_awp (fn := Try.f71) Try.func71 (by kernel_rfl) rfl ?_
  intro w0 C0
  simp only [Try.ntmps71, litI, litB, litS, List.length_cons, List.length_nil, Nat.reduceAdd, Nat.reduceSub, List.replicate_succ, List.replicate_zero, List.cons_append, List.nil_append]
  repeat' first
    | refine awp_seq ?_
    | refine awp_block ?_
    | refine awp_skip ?_
    | (refine reg _ (by (simp only [List.map_cons, List.map_nil]; rfl)) rfl ?_; intro K hK)
    | (refine awp_cond _ (by rfl) ?_ ?_ <;> (intro hb; first | (cases hb; done) | (have ht : true = true := hb; clear ht hb) | (have ht : false = false := hb; clear ht hb) | (simp only [hb]) | skip))
    | (refine awp_exit ?_; simp only [thenA, blockA, scopeA, reduceIte, RetQ, Nat.reduceEqDiff])
    | (refine awp_ret ?_; simp only [thenA, blockA, scopeA, RetQ])
    | (refine ev_nil (hK _ ?_); clear hK K)
    | (apply ev_step0; (case hr | hσ => (simp only [go_sem, h3]; try rfl)); (case hc => (first | trivial | decide | (simp only [inB, sliceOk, appendOk, rowsOk]; omega) | (simp [inB, sliceOk, appendOk, rowsOk]; omega))))
    | (apply ev_step; (case hr => (simp only [go_sem, h3]; try rfl)); (case hσ => (intro g u; simp only [go_sem, h3]; try rfl)); (case hc => (first | trivial | decide | (simp only [inB, sliceOk, appendOk, rowsOk]; omega) | (simp [inB, sliceOk, appendOk, rowsOk]; omega))); intro g u; (try clear u); (try clear g))
    | fail
  all_goals (refine resR_one T_ok rfl _ (by (simp only [go_sem, resA]; rfl)) (by first | trivial | (simp only [go_sem, resA])) (by first | trivial | (simp only [go_sem])) ?_; simp only [go_sem])
  exact LeA.refl _
end
section
set_option linter.unusedVariables false
set_option linter.unusedSimpArgs false
open Go.RowKit
attribute [local irreducible] AWp evOps evD
abbrev bs (s : ByteArray) : Bs := s.data.toList
theorem bs_len (s : ByteArray) : (bs s).length = s.size := by
  show s.data.toList.length = s.data.size
  exact Array.length_toList
theorem byteAt_nat (s : ByteArray) (i : Nat) : byteAt s (i : Int) = (((bs s).getD i 0).toNat : Int) := rfl
theorem drop_one (l : Bs) {i : Nat} (h : i < l.length) : l.drop i = l.getD i 0 :: l.drop (i + 1) := by
  rw [List.drop_eq_getElem_cons h]; simp [List.getD_eq_getElem?_getD, h]
set_option maxHeartbeats 4000000 in
theorem f32_spec {fv : AV} {f : Nat} {caps : List AV} (hfn : IsFn fv f caps) (s : ByteArray) (p : UInt8 → Bool) (hs : s.size ≤ 4611686018427387904) (hp : ∀ b, Spec Try.prog f ([byA b] ++ caps) (litB (p b))) : Spec Try.prog 32 [litS s, fv] (litB ((bs s).all p)) := by
  have hcl := hfn.cl
  have hok := hfn.ok
  have hids := hfn.ids
  have hl := bs_len s
  refine spec_of_awp (fn := Try.f32) Try.func32 (by kernel_rfl) rfl ?_
  intro w0 C0
  simp only [Try.ntmps32, litI, litB, litS, List.length_cons, List.length_nil, Nat.reduceAdd, Nat.reduceSub, List.replicate_succ, List.replicate_zero, List.cons_append, List.nil_append]
  repeat' first
    | refine awp_seq ?_
    | refine awp_block ?_
    | refine awp_skip ?_
    | (refine reg _ (by (simp only [List.map_cons, List.map_nil]; rfl)) rfl ?_; intro K hK)
    | (refine awp_cond _ (by rfl) ?_ ?_ <;> (intro hb; first | (cases hb; done) | (have ht : true = true := hb; clear ht hb) | (have ht : false = false := hb; clear ht hb) | (simp only [hb]) | skip))
    | (refine awp_exit ?_; simp only [thenA, blockA, scopeA, reduceIte, RetQ, Nat.reduceEqDiff])
    | (refine awp_ret ?_; simp only [thenA, blockA, scopeA, RetQ])
    | (refine ev_nil (hK _ ?_); clear hK K)
    | (apply ev_step0; (case hr | hσ => (simp only [go_sem, hcl, hok, hids]; try rfl)); (case hc => (first | trivial | decide | (simp only [inB, sliceOk, appendOk, rowsOk]; omega) | (simp [inB, sliceOk, appendOk, rowsOk]; omega))))
    | (apply ev_step; (case hr => (simp only [go_sem, hcl, hok, hids]; try rfl)); (case hσ => (intro g u; simp only [go_sem, hcl, hok, hids]; try rfl)); (case hc => (first | trivial | decide | (simp only [inB, sliceOk, appendOk, rowsOk]; omega) | (simp [inB, sliceOk, appendOk, rowsOk]; omega))); intro g u; (try clear u); (try clear g))
    | fail
  refine awp_loopI (fun i => i ≤ s.size ∧ (bs s).all p = ((bs s).drop i).all p) (fun i => s.size - i) (fun i => ⟨[litS s, fv, .any, .any, .any, .any, .any, litI .i64 s.size, litI .i64 i, .any, .any, .any, .any, .any, .any, .any, .any, .any], [.no, .no, .no, .no, .no, .no, .no, .no, .no, .no, .no, .no, .no, .no, .no, .no, .no, .no]⟩) 0 ⟨by omega, rfl⟩ ?_ ?_
  · refine Wk.mk ?_ ?_
    all_goals (repeat' first | exact trivial | exact LeA.refl _ | exact LeA.any _ | exact LeO.refl _ | exact LeO.no _ | exact LeA.nil _ | exact LeA.nilOwn _ | exact LeO.nil _ _ _ | refine LeO.box ?_ | (refine LeA.i ?_; (first | rfl | (push_cast; rfl) | (rw [wrap_id (by omega)]; push_cast; omega) | (simp [wrap_id]; omega))) | refine ⟨?_, ?_⟩)
  rintro i ⟨hi, hfi⟩
  simp only [litI, litB, litS] at hi hfi ⊢
  by_cases h1 : i < s.size
  rotate_left
  · have d1 : decide ((i : Int) < (s.size : Int)) = false := decide_eq_false (by omega)
    rw [List.drop_eq_nil_of_le (by omega)] at hfi
    repeat' first
      | refine awp_seq ?_
      | refine awp_block ?_
      | refine awp_skip ?_
      | (refine reg _ (by (simp only [List.map_cons, List.map_nil]; rfl)) rfl ?_; intro K hK)
      | (refine awp_cond _ (by rfl) ?_ ?_ <;> (intro hb; first | (cases hb; done) | (have ht : true = true := hb; clear ht hb) | (have ht : false = false := hb; clear ht hb) | (simp only [hb]) | skip))
      | (refine awp_exit ?_; simp only [thenA, blockA, scopeA, reduceIte, RetQ, Nat.reduceEqDiff])
      | (refine awp_ret ?_; simp only [thenA, blockA, scopeA, RetQ])
      | (refine ev_nil (hK _ ?_); clear hK K)
      | (apply ev_step0; (case hr | hσ => (simp only [go_sem, d1, hcl, hok, hids]; try rfl)); (case hc => (first | trivial | decide | (simp only [inB, sliceOk, appendOk, rowsOk]; omega) | (simp [inB, sliceOk, appendOk, rowsOk]; omega))))
      | (apply ev_step; (case hr => (simp only [go_sem, d1, hcl, hok, hids]; try rfl)); (case hσ => (intro g u; simp only [go_sem, d1, hcl, hok, hids]; try rfl)); (case hc => (first | trivial | decide | (simp only [inB, sliceOk, appendOk, rowsOk]; omega) | (simp [inB, sliceOk, appendOk, rowsOk]; omega))); intro g u; (try clear u); (try clear g))
      | fail
    all_goals (refine resR_one T_ok rfl _ (by (simp only [go_sem, resA]; rfl)) (by first | trivial | (simp only [go_sem, resA])) (by first | trivial | (simp only [go_sem])) ?_; simp only [go_sem])
    exact LeA.b hfi.symm
  have d1 : decide ((i : Int) < (s.size : Int)) = true := decide_eq_true (by omega)
  have hx := byteAt_nat s i
  rw [drop_one _ (by omega), List.all_cons] at hfi
  have hpx := hp ((bs s).getD i 0)
  generalize (bs s).getD i 0 = x at *
  cases hq : p x with
  | true =>
    rw [hq] at hpx
    rw [hq, Bool.true_and] at hfi
    repeat' first
      | refine awp_seq ?_
      | refine awp_block ?_
      | refine awp_skip ?_
      | (refine reg _ (by (simp only [List.map_cons, List.map_nil]; rfl)) rfl ?_; intro K hK)
      | (refine awp_cond _ (by rfl) ?_ ?_ <;> (intro hb; first | (cases hb; done) | (have ht : true = true := hb; clear ht hb) | (have ht : false = false := hb; clear ht hb) | (simp only [hb]) | skip))
      | (refine awp_exit ?_; simp only [thenA, blockA, scopeA, reduceIte, RetQ, Nat.reduceEqDiff])
      | (refine awp_ret ?_; simp only [thenA, blockA, scopeA, RetQ])
      | (refine ev_nil (hK _ ?_); clear hK K)
      | refine ev_callFn hfn _ _ (by (simp only [go_sem, d1, hx, hcl, hok, hids])) (by (simp only [go_sem, d1, hx, hcl, hok, hids]; try rfl)) (hpx) (by (simp only [go_sem, d1, hx, hcl, hok, hids])) _ (by (simp only [go_sem, d1, hx, hcl, hok, hids]; rfl)) ?_
      | (apply ev_step0; (case hr | hσ => (simp only [go_sem, d1, hx, hcl, hok, hids]; try rfl)); (case hc => (first | trivial | decide | (simp only [inB, sliceOk, appendOk, rowsOk]; omega) | (simp [inB, sliceOk, appendOk, rowsOk]; omega))))
      | (apply ev_step; (case hr => (simp only [go_sem, d1, hx, hcl, hok, hids]; try rfl)); (case hσ => (intro g u; simp only [go_sem, d1, hx, hcl, hok, hids]; try rfl)); (case hc => (first | trivial | decide | (simp only [inB, sliceOk, appendOk, rowsOk]; omega) | (simp [inB, sliceOk, appendOk, rowsOk]; omega))); intro g u; (try clear u); (try clear g))
      | fail
    refine Exists.intro (i + 1) ⟨⟨by omega, hfi⟩, by omega, ?_⟩
    refine Wk.mk ?_ ?_
    all_goals (repeat' first | exact trivial | exact LeA.refl _ | exact LeA.any _ | exact LeO.refl _ | exact LeO.no _ | exact LeA.nil _ | exact LeA.nilOwn _ | exact LeO.nil _ _ _ | refine LeO.box ?_ | (refine LeA.i ?_; (first | rfl | (push_cast; rfl) | (rw [wrap_id (by omega)]; push_cast; omega) | (simp [wrap_id]; omega))) | refine ⟨?_, ?_⟩)
  | false =>
    rw [hq] at hpx
    rw [hq, Bool.false_and] at hfi
    repeat' first
      | refine awp_seq ?_
      | refine awp_block ?_
      | refine awp_skip ?_
      | (refine reg _ (by (simp only [List.map_cons, List.map_nil]; rfl)) rfl ?_; intro K hK)
      | (refine awp_cond _ (by rfl) ?_ ?_ <;> (intro hb; first | (cases hb; done) | (have ht : true = true := hb; clear ht hb) | (have ht : false = false := hb; clear ht hb) | (simp only [hb]) | skip))
      | (refine awp_exit ?_; simp only [thenA, blockA, scopeA, reduceIte, RetQ, Nat.reduceEqDiff])
      | (refine awp_ret ?_; simp only [thenA, blockA, scopeA, RetQ])
      | (refine ev_nil (hK _ ?_); clear hK K)
      | refine ev_callFn hfn _ _ (by (simp only [go_sem, d1, hx, hcl, hok, hids])) (by (simp only [go_sem, d1, hx, hcl, hok, hids]; try rfl)) (hpx) (by (simp only [go_sem, d1, hx, hcl, hok, hids])) _ (by (simp only [go_sem, d1, hx, hcl, hok, hids]; rfl)) ?_
      | (apply ev_step0; (case hr | hσ => (simp only [go_sem, d1, hx, hcl, hok, hids]; try rfl)); (case hc => (first | trivial | decide | (simp only [inB, sliceOk, appendOk, rowsOk]; omega) | (simp [inB, sliceOk, appendOk, rowsOk]; omega))))
      | (apply ev_step; (case hr => (simp only [go_sem, d1, hx, hcl, hok, hids]; try rfl)); (case hσ => (intro g u; simp only [go_sem, d1, hx, hcl, hok, hids]; try rfl)); (case hc => (first | trivial | decide | (simp only [inB, sliceOk, appendOk, rowsOk]; omega) | (simp [inB, sliceOk, appendOk, rowsOk]; omega))); intro g u; (try clear u); (try clear g))
      | fail
    all_goals (refine resR_one T_ok rfl _ (by (simp only [go_sem, resA]; rfl)) (by first | trivial | (simp only [go_sem, resA])) (by first | trivial | (simp only [go_sem])) ?_; simp only [go_sem])
    exact LeA.b hfi.symm
set_option maxHeartbeats 4000000 in
theorem f67_spec {fv : AV} {f : Nat} {caps : List AV} (hfn : IsFn fv f caps) (s : ByteArray) (at' : Nat) (p : UInt8 → Bool) (hs : s.size ≤ 4611686018427387904) (ha : at' ≤ s.size) (hp : ∀ b, Spec Try.prog f ([byA b] ++ caps) (litB (p b))) : Spec Try.prog 67 [litS s, litI .i64 (at' : Int), fv] (litI .i64 ((at' + runN p ((bs s).drop at') : Nat) : Int)) := by
  have hcl := hfn.cl
  have hok := hfn.ok
  have hids := hfn.ids
  have hl := bs_len s
  refine spec_of_awp (fn := Try.f67) Try.func67 (by kernel_rfl) rfl ?_
  intro w0 C0
  simp only [Try.ntmps67, litI, litB, litS, List.length_cons, List.length_nil, Nat.reduceAdd, Nat.reduceSub, List.replicate_succ, List.replicate_zero, List.cons_append, List.nil_append]
  repeat' first
    | refine awp_seq ?_
    | refine awp_block ?_
    | refine awp_skip ?_
    | (refine reg _ (by (simp only [List.map_cons, List.map_nil]; rfl)) rfl ?_; intro K hK)
    | (refine awp_cond _ (by rfl) ?_ ?_ <;> (intro hb; first | (cases hb; done) | (have ht : true = true := hb; clear ht hb) | (have ht : false = false := hb; clear ht hb) | (simp only [hb]) | skip))
    | (refine awp_exit ?_; simp only [thenA, blockA, scopeA, reduceIte, RetQ, Nat.reduceEqDiff])
    | (refine awp_ret ?_; simp only [thenA, blockA, scopeA, RetQ])
    | (refine ev_nil (hK _ ?_); clear hK K)
    | (apply ev_guardU; (case hj | hu | hσ => (simp only [go_sem, hcl, hok, hids]; try rfl)))
    | (refine ev_guardT _ _ (by (simp only [go_sem, hcl, hok, hids]; rfl)) (by (simp only [go_sem, hcl, hok, hids]; rfl)) ?_ ?_ <;> (intro hb; first | (cases hb; done) | (have ht : true = true := hb; clear ht hb) | (have ht : false = false := hb; clear ht hb) | (simp only [hb]) | skip))
    | (refine ev_guardF _ _ (by (simp only [go_sem, hcl, hok, hids]; rfl)) (by (simp only [go_sem, hcl, hok, hids]; rfl)) ?_ ?_ <;> (intro hb; first | (cases hb; done) | (have ht : true = true := hb; clear ht hb) | (have ht : false = false := hb; clear ht hb) | (simp only [hb]) | skip))
    | (apply ev_step0; (case hr | hσ => (simp only [go_sem, hcl, hok, hids]; try rfl)); (case hc => (first | trivial | decide | (simp only [inB, sliceOk, appendOk, rowsOk]; omega) | (simp [inB, sliceOk, appendOk, rowsOk]; omega))))
    | (apply ev_step; (case hr => (simp only [go_sem, hcl, hok, hids]; try rfl)); (case hσ => (intro g u; simp only [go_sem, hcl, hok, hids]; try rfl)); (case hc => (first | trivial | decide | (simp only [inB, sliceOk, appendOk, rowsOk]; omega) | (simp [inB, sliceOk, appendOk, rowsOk]; omega))); intro g u; (try clear u); (try clear g))
    | fail
  refine awp_loopI (fun i => i ≤ s.size ∧ at' + runN p ((bs s).drop at') = i + runN p ((bs s).drop i)) (fun i => s.size - i) (fun i => ⟨[litS s, litI .i64 i, fv, .any, .any, .any, .any, .any, .any, .any, .any, .any, .any, .any, .any, .any, .any, .any, .any, .any, .any], [.no, .no, .no, .no, .no, .no, .no, .no, .no, .no, .no, .no, .no, .no, .no, .no, .no, .no, .no, .no, .no]⟩) at' ⟨ha, rfl⟩ ?_ ?_
  · refine Wk.mk ?_ ?_
    all_goals (repeat' first | exact trivial | exact LeA.refl _ | exact LeA.any _ | exact LeO.refl _ | exact LeO.no _ | exact LeA.nil _ | exact LeA.nilOwn _ | exact LeO.nil _ _ _ | refine LeO.box ?_ | (refine LeA.i ?_; (first | rfl | (push_cast; rfl) | (rw [wrap_id (by omega)]; push_cast; omega) | (simp [wrap_id]; omega))) | refine ⟨?_, ?_⟩)
  rintro i ⟨hi, hfi⟩
  simp only [litI, litB, litS] at hi hfi ⊢
  by_cases h1 : i < s.size
  rotate_left
  · have d1 : decide ((i : Int) < (s.size : Int)) = false := decide_eq_false (by omega)
    rw [List.drop_eq_nil_of_le (i := i) (by omega)] at hfi
    repeat' first
      | refine awp_seq ?_
      | refine awp_block ?_
      | refine awp_skip ?_
      | (refine reg _ (by (simp only [List.map_cons, List.map_nil]; rfl)) rfl ?_; intro K hK)
      | (refine awp_cond _ (by rfl) ?_ ?_ <;> (intro hb; first | (cases hb; done) | (have ht : true = true := hb; clear ht hb) | (have ht : false = false := hb; clear ht hb) | (simp only [hb]) | skip))
      | (refine awp_exit ?_; simp only [thenA, blockA, scopeA, reduceIte, RetQ, Nat.reduceEqDiff])
      | (refine awp_ret ?_; simp only [thenA, blockA, scopeA, RetQ])
      | (refine ev_nil (hK _ ?_); clear hK K)
      | (apply ev_guardU; (case hj | hu | hσ => (simp only [go_sem, d1, hcl, hok, hids]; try rfl)))
      | (refine ev_guardT _ _ (by (simp only [go_sem, d1, hcl, hok, hids]; rfl)) (by (simp only [go_sem, d1, hcl, hok, hids]; rfl)) ?_ ?_ <;> (intro hb; first | (cases hb; done) | (have ht : true = true := hb; clear ht hb) | (have ht : false = false := hb; clear ht hb) | (simp only [hb]) | skip))
      | (refine ev_guardF _ _ (by (simp only [go_sem, d1, hcl, hok, hids]; rfl)) (by (simp only [go_sem, d1, hcl, hok, hids]; rfl)) ?_ ?_ <;> (intro hb; first | (cases hb; done) | (have ht : true = true := hb; clear ht hb) | (have ht : false = false := hb; clear ht hb) | (simp only [hb]) | skip))
      | (apply ev_step0; (case hr | hσ => (simp only [go_sem, d1, hcl, hok, hids]; try rfl)); (case hc => (first | trivial | decide | (simp only [inB, sliceOk, appendOk, rowsOk]; omega) | (simp [inB, sliceOk, appendOk, rowsOk]; omega))))
      | (apply ev_step; (case hr => (simp only [go_sem, d1, hcl, hok, hids]; try rfl)); (case hσ => (intro g u; simp only [go_sem, d1, hcl, hok, hids]; try rfl)); (case hc => (first | trivial | decide | (simp only [inB, sliceOk, appendOk, rowsOk]; omega) | (simp [inB, sliceOk, appendOk, rowsOk]; omega))); intro g u; (try clear u); (try clear g))
      | fail
    all_goals (refine resR_one T_ok rfl _ (by (simp only [go_sem, resA]; rfl)) (by first | trivial | (simp only [go_sem, resA])) (by first | trivial | (simp only [go_sem])) ?_; simp only [go_sem])
    exact LeA.i (by rw [hfi]; rfl)
  have d1 : decide ((i : Int) < (s.size : Int)) = true := decide_eq_true (by omega)
  have hx := byteAt_nat s i
  rw [drop_one _ (i := i) (by omega)] at hfi
  simp only [runN] at hfi
  have hpx := hp ((bs s).getD i 0)
  generalize (bs s).getD i 0 = x at *
  cases hq : p x with
  | true =>
    rw [hq] at hpx
    rw [hq, if_pos rfl] at hfi
    repeat' first
      | refine awp_seq ?_
      | refine awp_block ?_
      | refine awp_skip ?_
      | (refine reg _ (by (simp only [List.map_cons, List.map_nil]; rfl)) rfl ?_; intro K hK)
      | (refine awp_cond _ (by rfl) ?_ ?_ <;> (intro hb; first | (cases hb; done) | (have ht : true = true := hb; clear ht hb) | (have ht : false = false := hb; clear ht hb) | (simp only [hb]) | skip))
      | (refine awp_exit ?_; simp only [thenA, blockA, scopeA, reduceIte, RetQ, Nat.reduceEqDiff])
      | (refine awp_ret ?_; simp only [thenA, blockA, scopeA, RetQ])
      | (refine ev_nil (hK _ ?_); clear hK K)
      | (apply ev_guardU; (case hj | hu | hσ => (simp only [go_sem, d1, hx, hcl, hok, hids]; try rfl)))
      | (refine ev_guardT _ _ (by (simp only [go_sem, d1, hx, hcl, hok, hids]; rfl)) (by (simp only [go_sem, d1, hx, hcl, hok, hids]; rfl)) ?_ ?_ <;> (intro hb; first | (cases hb; done) | (have ht : true = true := hb; clear ht hb) | (have ht : false = false := hb; clear ht hb) | (simp only [hb]) | skip))
      | (refine ev_guardF _ _ (by (simp only [go_sem, d1, hx, hcl, hok, hids]; rfl)) (by (simp only [go_sem, d1, hx, hcl, hok, hids]; rfl)) ?_ ?_ <;> (intro hb; first | (cases hb; done) | (have ht : true = true := hb; clear ht hb) | (have ht : false = false := hb; clear ht hb) | (simp only [hb]) | skip))
      | refine ev_callFn hfn _ _ (by (simp only [go_sem, d1, hx, hcl, hok, hids])) (by (simp only [go_sem, d1, hx, hcl, hok, hids]; try rfl)) (hpx) (by (simp only [go_sem, d1, hx, hcl, hok, hids])) _ (by (simp only [go_sem, d1, hx, hcl, hok, hids]; rfl)) ?_
      | (apply ev_step0; (case hr | hσ => (simp only [go_sem, d1, hx, hcl, hok, hids]; try rfl)); (case hc => (first | trivial | decide | (simp only [inB, sliceOk, appendOk, rowsOk]; omega) | (simp [inB, sliceOk, appendOk, rowsOk]; omega))))
      | (apply ev_step; (case hr => (simp only [go_sem, d1, hx, hcl, hok, hids]; try rfl)); (case hσ => (intro g u; simp only [go_sem, d1, hx, hcl, hok, hids]; try rfl)); (case hc => (first | trivial | decide | (simp only [inB, sliceOk, appendOk, rowsOk]; omega) | (simp [inB, sliceOk, appendOk, rowsOk]; omega))); intro g u; (try clear u); (try clear g))
      | fail
    refine Exists.intro (i + 1) ⟨⟨by omega, by omega⟩, by omega, ?_⟩
    refine Wk.mk ?_ ?_
    all_goals (repeat' first | exact trivial | exact LeA.refl _ | exact LeA.any _ | exact LeO.refl _ | exact LeO.no _ | exact LeA.nil _ | exact LeA.nilOwn _ | exact LeO.nil _ _ _ | refine LeO.box ?_ | (refine LeA.i ?_; (first | rfl | (push_cast; rfl) | (rw [wrap_id (by omega)]; push_cast; omega) | (simp [wrap_id]; omega))) | refine ⟨?_, ?_⟩)
  | false =>
    rw [hq] at hpx
    rw [hq, if_neg Bool.false_ne_true] at hfi
    repeat' first
      | refine awp_seq ?_
      | refine awp_block ?_
      | refine awp_skip ?_
      | (refine reg _ (by (simp only [List.map_cons, List.map_nil]; rfl)) rfl ?_; intro K hK)
      | (refine awp_cond _ (by rfl) ?_ ?_ <;> (intro hb; first | (cases hb; done) | (have ht : true = true := hb; clear ht hb) | (have ht : false = false := hb; clear ht hb) | (simp only [hb]) | skip))
      | (refine awp_exit ?_; simp only [thenA, blockA, scopeA, reduceIte, RetQ, Nat.reduceEqDiff])
      | (refine awp_ret ?_; simp only [thenA, blockA, scopeA, RetQ])
      | (refine ev_nil (hK _ ?_); clear hK K)
      | (apply ev_guardU; (case hj | hu | hσ => (simp only [go_sem, d1, hx, hcl, hok, hids]; try rfl)))
      | (refine ev_guardT _ _ (by (simp only [go_sem, d1, hx, hcl, hok, hids]; rfl)) (by (simp only [go_sem, d1, hx, hcl, hok, hids]; rfl)) ?_ ?_ <;> (intro hb; first | (cases hb; done) | (have ht : true = true := hb; clear ht hb) | (have ht : false = false := hb; clear ht hb) | (simp only [hb]) | skip))
      | (refine ev_guardF _ _ (by (simp only [go_sem, d1, hx, hcl, hok, hids]; rfl)) (by (simp only [go_sem, d1, hx, hcl, hok, hids]; rfl)) ?_ ?_ <;> (intro hb; first | (cases hb; done) | (have ht : true = true := hb; clear ht hb) | (have ht : false = false := hb; clear ht hb) | (simp only [hb]) | skip))
      | refine ev_callFn hfn _ _ (by (simp only [go_sem, d1, hx, hcl, hok, hids])) (by (simp only [go_sem, d1, hx, hcl, hok, hids]; try rfl)) (hpx) (by (simp only [go_sem, d1, hx, hcl, hok, hids])) _ (by (simp only [go_sem, d1, hx, hcl, hok, hids]; rfl)) ?_
      | (apply ev_step0; (case hr | hσ => (simp only [go_sem, d1, hx, hcl, hok, hids]; try rfl)); (case hc => (first | trivial | decide | (simp only [inB, sliceOk, appendOk, rowsOk]; omega) | (simp [inB, sliceOk, appendOk, rowsOk]; omega))))
      | (apply ev_step; (case hr => (simp only [go_sem, d1, hx, hcl, hok, hids]; try rfl)); (case hσ => (intro g u; simp only [go_sem, d1, hx, hcl, hok, hids]; try rfl)); (case hc => (first | trivial | decide | (simp only [inB, sliceOk, appendOk, rowsOk]; omega) | (simp [inB, sliceOk, appendOk, rowsOk]; omega))); intro g u; (try clear u); (try clear g))
      | fail
    all_goals (refine resR_one T_ok rfl _ (by (simp only [go_sem, resA]; rfl)) (by first | trivial | (simp only [go_sem, resA])) (by first | trivial | (simp only [go_sem])) ?_; simp only [go_sem])
    exact LeA.i (by rw [hfi]; rfl)
end
section
set_option linter.unusedVariables false
set_option linter.unusedSimpArgs false
open Go.RowKit
attribute [local irreducible] AWp evOps evD
/-- A piece of a string. -/
abbrev subS (s : ByteArray) (a b : Nat) : ByteArray := s.extract a b
theorem f54_spec (b : UInt8) : Spec Try.prog 54 [byA b] (litI .i64 (kindB b : Int)) := by
  have h1 := f31_spec b
  have h2 := f34_spec b
  have h3 : ((b.toNat : Int) == 34) = (b == 34) := u8_eq b 34
  unfold kindB
  cases e1 : letterB b with
  | true =>
    rw [e1] at h1
    refine spec_of_awp (fn := Try.f54) Try.func54 (by kernel_rfl) rfl ?_
    intro w0 C0
    simp only [Try.ntmps54, litI, litB, litS, List.length_cons, List.length_nil, Nat.reduceAdd, Nat.reduceSub, List.replicate_succ, List.replicate_zero, List.cons_append, List.nil_append]
    repeat' first
      | refine awp_seq ?_
      | refine awp_block ?_
      | refine awp_skip ?_
      | (refine reg _ (by (simp only [List.map_cons, List.map_nil]; rfl)) rfl ?_; intro K hK)
      | (refine awp_cond _ (by rfl) ?_ ?_ <;> (intro hb; first | (cases hb; done) | (have ht : true = true := hb; clear ht hb) | (have ht : false = false := hb; clear ht hb) | (simp only [hb]) | skip))
      | (refine awp_exit ?_; simp only [thenA, blockA, scopeA, reduceIte, RetQ, Nat.reduceEqDiff])
      | (refine awp_ret ?_; simp only [thenA, blockA, scopeA, RetQ])
      | (refine ev_nil (hK _ ?_); clear hK K)
      | (apply ev_call0; (case hys => (simp only [go_sem]; try rfl)); (case hs => first | exact h1 ..); (case hok | hσ => (simp only [go_sem]; try rfl)))
      | (apply ev_step0; (case hr | hσ => (simp only [go_sem]; try rfl)); (case hc => (first | trivial | decide | (simp only [inB, sliceOk, appendOk, rowsOk]; omega) | (simp [inB, sliceOk, appendOk, rowsOk]; omega))))
      | (apply ev_step; (case hr => (simp only [go_sem]; try rfl)); (case hσ => (intro g u; simp only [go_sem]; try rfl)); (case hc => (first | trivial | decide | (simp only [inB, sliceOk, appendOk, rowsOk]; omega) | (simp [inB, sliceOk, appendOk, rowsOk]; omega))); intro g u; (try clear u); (try clear g))
      | fail
    all_goals (refine resR_one T_ok rfl _ (by (simp only [go_sem, resA]; rfl)) (by first | trivial | (simp only [go_sem, resA])) (by first | trivial | (simp only [go_sem])) ?_; simp only [go_sem])
    exact LeA.refl _
  | false =>
    rw [e1] at h1
    simp only [Bool.false_eq_true, if_false]
    cases e2 : digitB b with
    | true =>
      rw [e2] at h2
      refine spec_of_awp (fn := Try.f54) Try.func54 (by kernel_rfl) rfl ?_
      intro w0 C0
      simp only [Try.ntmps54, litI, litB, litS, List.length_cons, List.length_nil, Nat.reduceAdd, Nat.reduceSub, List.replicate_succ, List.replicate_zero, List.cons_append, List.nil_append]
      repeat' first
        | refine awp_seq ?_
        | refine awp_block ?_
        | refine awp_skip ?_
        | (refine reg _ (by (simp only [List.map_cons, List.map_nil]; rfl)) rfl ?_; intro K hK)
        | (refine awp_cond _ (by rfl) ?_ ?_ <;> (intro hb; first | (cases hb; done) | (have ht : true = true := hb; clear ht hb) | (have ht : false = false := hb; clear ht hb) | (simp only [hb]) | skip))
        | (refine awp_exit ?_; simp only [thenA, blockA, scopeA, reduceIte, RetQ, Nat.reduceEqDiff])
        | (refine awp_ret ?_; simp only [thenA, blockA, scopeA, RetQ])
        | (refine ev_nil (hK _ ?_); clear hK K)
        | (apply ev_call0; (case hys => (simp only [go_sem]; try rfl)); (case hs => first | exact h1 .. | exact h2 ..); (case hok | hσ => (simp only [go_sem]; try rfl)))
        | (apply ev_step0; (case hr | hσ => (simp only [go_sem]; try rfl)); (case hc => (first | trivial | decide | (simp only [inB, sliceOk, appendOk, rowsOk]; omega) | (simp [inB, sliceOk, appendOk, rowsOk]; omega))))
        | (apply ev_step; (case hr => (simp only [go_sem]; try rfl)); (case hσ => (intro g u; simp only [go_sem]; try rfl)); (case hc => (first | trivial | decide | (simp only [inB, sliceOk, appendOk, rowsOk]; omega) | (simp [inB, sliceOk, appendOk, rowsOk]; omega))); intro g u; (try clear u); (try clear g))
        | fail
      all_goals (refine resR_one T_ok rfl _ (by (simp only [go_sem, resA]; rfl)) (by first | trivial | (simp only [go_sem, resA])) (by first | trivial | (simp only [go_sem])) ?_; simp only [go_sem])
      exact LeA.refl _
    | false =>
      rw [e2] at h2
      simp only [Bool.false_eq_true, if_false]
      by_cases e3 : b = 34
      · rw [if_pos e3]
        have h4 : ((b.toNat : Int) == 34) = true := by rw [h3]; simpa using e3
        refine spec_of_awp (fn := Try.f54) Try.func54 (by kernel_rfl) rfl ?_
        intro w0 C0
        simp only [Try.ntmps54, litI, litB, litS, List.length_cons, List.length_nil, Nat.reduceAdd, Nat.reduceSub, List.replicate_succ, List.replicate_zero, List.cons_append, List.nil_append]
        repeat' first
          | refine awp_seq ?_
          | refine awp_block ?_
          | refine awp_skip ?_
          | (refine reg _ (by (simp only [List.map_cons, List.map_nil]; rfl)) rfl ?_; intro K hK)
          | (refine awp_cond _ (by rfl) ?_ ?_ <;> (intro hb; first | (cases hb; done) | (have ht : true = true := hb; clear ht hb) | (have ht : false = false := hb; clear ht hb) | (simp only [hb]) | skip))
          | (refine awp_exit ?_; simp only [thenA, blockA, scopeA, reduceIte, RetQ, Nat.reduceEqDiff])
          | (refine awp_ret ?_; simp only [thenA, blockA, scopeA, RetQ])
          | (refine ev_nil (hK _ ?_); clear hK K)
          | (apply ev_call0; (case hys => (simp only [go_sem, h4]; try rfl)); (case hs => first | exact h1 .. | exact h2 ..); (case hok | hσ => (simp only [go_sem, h4]; try rfl)))
          | (apply ev_step0; (case hr | hσ => (simp only [go_sem, h4]; try rfl)); (case hc => (first | trivial | decide | (simp only [inB, sliceOk, appendOk, rowsOk]; omega) | (simp [inB, sliceOk, appendOk, rowsOk]; omega))))
          | (apply ev_step; (case hr => (simp only [go_sem, h4]; try rfl)); (case hσ => (intro g u; simp only [go_sem, h4]; try rfl)); (case hc => (first | trivial | decide | (simp only [inB, sliceOk, appendOk, rowsOk]; omega) | (simp [inB, sliceOk, appendOk, rowsOk]; omega))); intro g u; (try clear u); (try clear g))
          | fail
        all_goals (refine resR_one T_ok rfl _ (by (simp only [go_sem, resA]; rfl)) (by first | trivial | (simp only [go_sem, resA])) (by first | trivial | (simp only [go_sem])) ?_; simp only [go_sem])
        exact LeA.refl _
      · rw [if_neg e3]
        have h4 : ((b.toNat : Int) == 34) = false := by rw [h3]; simpa using e3
        refine spec_of_awp (fn := Try.f54) Try.func54 (by kernel_rfl) rfl ?_
        intro w0 C0
        simp only [Try.ntmps54, litI, litB, litS, List.length_cons, List.length_nil, Nat.reduceAdd, Nat.reduceSub, List.replicate_succ, List.replicate_zero, List.cons_append, List.nil_append]
        repeat' first
          | refine awp_seq ?_
          | refine awp_block ?_
          | refine awp_skip ?_
          | (refine reg _ (by (simp only [List.map_cons, List.map_nil]; rfl)) rfl ?_; intro K hK)
          | (refine awp_cond _ (by rfl) ?_ ?_ <;> (intro hb; first | (cases hb; done) | (have ht : true = true := hb; clear ht hb) | (have ht : false = false := hb; clear ht hb) | (simp only [hb]) | skip))
          | (refine awp_exit ?_; simp only [thenA, blockA, scopeA, reduceIte, RetQ, Nat.reduceEqDiff])
          | (refine awp_ret ?_; simp only [thenA, blockA, scopeA, RetQ])
          | (refine ev_nil (hK _ ?_); clear hK K)
          | (apply ev_call0; (case hys => (simp only [go_sem, h4]; try rfl)); (case hs => first | exact h1 .. | exact h2 ..); (case hok | hσ => (simp only [go_sem, h4]; try rfl)))
          | (apply ev_step0; (case hr | hσ => (simp only [go_sem, h4]; try rfl)); (case hc => (first | trivial | decide | (simp only [inB, sliceOk, appendOk, rowsOk]; omega) | (simp [inB, sliceOk, appendOk, rowsOk]; omega))))
          | (apply ev_step; (case hr => (simp only [go_sem, h4]; try rfl)); (case hσ => (intro g u; simp only [go_sem, h4]; try rfl)); (case hc => (first | trivial | decide | (simp only [inB, sliceOk, appendOk, rowsOk]; omega) | (simp [inB, sliceOk, appendOk, rowsOk]; omega))); intro g u; (try clear u); (try clear g))
          | fail
        all_goals (refine resR_one T_ok rfl _ (by (simp only [go_sem, resA]; rfl)) (by first | trivial | (simp only [go_sem, resA])) (by first | trivial | (simp only [go_sem])) ?_; simp only [go_sem])
        exact LeA.refl _
set_option maxHeartbeats 4000000 in
theorem f49_spec (s : ByteArray) (a : Nat) (hs : s.size ≤ 4611686018427387904) (ha : a ≤ s.size) : Spec Try.prog 49 [litS s, litI .i64 (a : Int)] (.tup [litS (subS s a (a + runN wordB ((bs s).drop a))), litI .i64 ((a + runN wordB ((bs s).drop a) : Nat) : Int)]) := by
  have h67 := f67_spec (IsFn.lit 68) s a wordB hs ha (fun b => f68_spec b)
  have hl := bs_len s
  have hle := runN_le wordB ((bs s).drop a)
  rw [List.length_drop] at hle
  generalize runN wordB ((bs s).drop a) = n at *
  obtain ⟨e, he⟩ : ∃ e, a + n = e := ⟨_, rfl⟩
  rw [he] at h67 ⊢
  refine spec_of_awp (fn := Try.f49) Try.func49 (by kernel_rfl) rfl ?_
  intro w0 C0
  simp only [Try.ntmps49, litI, litB, litS, List.length_cons, List.length_nil, Nat.reduceAdd, Nat.reduceSub, List.replicate_succ, List.replicate_zero, List.cons_append, List.nil_append]
  repeat' first
    | refine awp_seq ?_
    | refine awp_block ?_
    | refine awp_skip ?_
    | (refine reg _ (by (simp only [List.map_cons, List.map_nil]; rfl)) rfl ?_; intro K hK)
    | (refine awp_cond _ (by rfl) ?_ ?_ <;> (intro hb; first | (cases hb; done) | (have ht : true = true := hb; clear ht hb) | (have ht : false = false := hb; clear ht hb) | (simp only [hb]) | skip))
    | (refine awp_exit ?_; simp only [thenA, blockA, scopeA, reduceIte, RetQ, Nat.reduceEqDiff])
    | (refine awp_ret ?_; simp only [thenA, blockA, scopeA, RetQ])
    | (refine ev_nil (hK _ ?_); clear hK K)
    | (apply ev_call0; (case hys => (simp only [go_sem]; try rfl)); (case hs => first | exact h67 ..); (case hok | hσ => (simp only [go_sem]; try rfl)))
    | (apply ev_step0; (case hr | hσ => (simp only [go_sem]; try rfl)); (case hc => (first | trivial | decide | (simp only [inB, sliceOk, appendOk, rowsOk]; omega) | (simp [inB, sliceOk, appendOk, rowsOk]; omega))))
    | (apply ev_step; (case hr => (simp only [go_sem]; try rfl)); (case hσ => (intro g u; simp only [go_sem]; try rfl)); (case hc => (first | trivial | decide | (simp only [inB, sliceOk, appendOk, rowsOk]; omega) | (simp [inB, sliceOk, appendOk, rowsOk]; omega))); intro g u; (try clear u); (try clear g))
    | fail
  all_goals (refine resR_more T_ok rfl (by decide) _ (by (simp only [go_sem, resA]; rfl)) (by (intro rv hrv; simp only [List.mem_cons, List.not_mem_nil, or_false] at hrv; rcases hrv with rfl | rfl <;> first | trivial | simp only [go_sem, resA])) (by first | trivial | (simp only [go_sem])) ?_; simp only [go_sem])
  exact ⟨LeA.refl _, LeA.refl _, trivial⟩
/-- The end of a number. -/
theorem numN_eq (l : Bs) : numN l = if l.getD (runN digitB l) 0 = 46 ∧ digitB (l.getD (runN digitB l + 1) 0) = true then runN digitB l + 1 + runN digitB (l.drop (runN digitB l + 1)) else runN digitB l := rfl
set_option maxHeartbeats 4000000 in
theorem f50_spec (s : ByteArray) (a : Nat) (hs : s.size ≤ 4611686018427387904) (ha : a ≤ s.size) : Spec Try.prog 50 [litS s, litI .i64 (a : Int)] (.tup [litS (if letterB (((bs s).drop a).getD (numN ((bs s).drop a)) 0) = true then ⟨#[]⟩ else subS s a (a + numN ((bs s).drop a))), litI .i64 ((a + numN ((bs s).drop a) : Nat) : Int)]) := by
  have h67 := f67_spec (IsFn.lit 34) s a digitB hs ha (fun b => f34_spec b)
  have hl := bs_len s
  have hle := runN_le digitB ((bs s).drop a)
  have hle2 := numN_le ((bs s).drop a)
  rw [List.length_drop] at hle hle2
  have hN := numN_eq ((bs s).drop a)
  rw [drop_getD, drop_getD, List.drop_drop] at hN
  rw [drop_getD]
  generalize runN digitB ((bs s).drop a) = n at *
  obtain ⟨e, he⟩ : ∃ e, a + n = e := ⟨_, rfl⟩
  rw [show a + (n + 1) = e + 1 from by omega, he] at hN
  rw [he] at h67
  have w1 : IntKind.i64.wrap ((e : Int) + 1) = ((e + 1 : Nat) : Int) := by rw [wrap_id (by omega)]; push_cast; rfl
  have hx1 := byteAt_nat s e
  have hx2 := byteAt_nat s (e + 1)
  have hq1 : ((((bs s).getD e 0).toNat : Int) == 46) = ((bs s).getD e 0 == 46) := u8_eq _ 46
  have h34 := f34_spec ((bs s).getD (e + 1) 0)
  obtain ⟨m, hm⟩ : ∃ m, a + numN ((bs s).drop a) = m := ⟨_, rfl⟩
  rw [hm]
  have hx3 := byteAt_nat s m
  have h31 := f31_spec ((bs s).getD m 0)
  obtain ⟨q, hq⟩ : ∃ q, letterB ((bs s).getD m 0) = q := ⟨_, rfl⟩
  rw [hq] at h31 ⊢
  obtain ⟨b5, d5⟩ : ∃ b, decide ((m : Int) < (s.size : Int)) = b := ⟨_, rfl⟩
  have hbq : b5 = false → q = false := fun h => by
    rw [h] at d5
    have := of_decide_eq_false d5
    rw [← hq, getD_out (by omega)]; rfl
  by_cases h1 : e + 1 < s.size
  · have d1 : decide (((e + 1 : Nat) : Int) < (s.size : Int)) = true := decide_eq_true (by omega)
    by_cases h2 : (bs s).getD e 0 = 46
    · have hq2 : ((((bs s).getD e 0).toNat : Int) == 46) = true := by rw [hq1, h2]; rfl
      clear hq1
      cases h3 : digitB ((bs s).getD (e + 1) 0) with
      | true =>
        have h67b := f67_spec (IsFn.lit 34) s (e + 1) digitB hs (by omega) (fun b => f34_spec b)
        rw [if_pos ⟨h2, h3⟩] at hN
        rw [show e + 1 + runN digitB ((bs s).drop (e + 1)) = m from by omega] at h67b
        rw [h3] at h34
        have hml : m ≤ s.size := by omega
        generalize (bs s).getD e 0 = y1 at *
        generalize (bs s).getD (e + 1) 0 = y2 at *
        cases b5 with
        | false =>
          obtain rfl := hbq rfl
          simp only [Bool.false_eq_true, if_false]
          refine spec_of_awp (fn := Try.f50) Try.func50 (by kernel_rfl) rfl ?_
          intro w0 C0
          simp only [Try.ntmps50, litI, litB, litS, List.length_cons, List.length_nil, Nat.reduceAdd, Nat.reduceSub, List.replicate_succ, List.replicate_zero, List.cons_append, List.nil_append]
          repeat' first
            | refine awp_seq ?_
            | refine awp_block ?_
            | refine awp_skip ?_
            | (refine reg _ (by (simp only [List.map_cons, List.map_nil]; rfl)) rfl ?_; intro K hK)
            | (refine awp_cond _ (by rfl) ?_ ?_ <;> (intro hb; first | (cases hb; done) | (have ht : true = true := hb; clear ht hb) | (have ht : false = false := hb; clear ht hb) | (simp only [hb]) | skip))
            | (refine awp_exit ?_; simp only [thenA, blockA, scopeA, reduceIte, RetQ, Nat.reduceEqDiff])
            | (refine awp_ret ?_; simp only [thenA, blockA, scopeA, RetQ])
            | (refine ev_nil (hK _ ?_); clear hK K)
            | (apply ev_guardU; (case hj | hu | hσ => (simp only [go_sem, d1, w1, hx1, hx2, hq2, d5]; try rfl)))
            | (refine ev_guardT _ _ (by (simp only [go_sem, d1, w1, hx1, hx2, hq2, d5]; rfl)) (by (simp only [go_sem, d1, w1, hx1, hx2, hq2, d5]; rfl)) ?_ ?_ <;> (intro hb; first | (cases hb; done) | (have ht : true = true := hb; clear ht hb) | (have ht : false = false := hb; clear ht hb) | (simp only [hb]) | skip))
            | (refine ev_guardF _ _ (by (simp only [go_sem, d1, w1, hx1, hx2, hq2, d5]; rfl)) (by (simp only [go_sem, d1, w1, hx1, hx2, hq2, d5]; rfl)) ?_ ?_ <;> (intro hb; first | (cases hb; done) | (have ht : true = true := hb; clear ht hb) | (have ht : false = false := hb; clear ht hb) | (simp only [hb]) | skip))
            | (apply ev_call0; (case hys => (simp only [go_sem, d1, w1, hx1, hx2, hq2, d5]; try rfl)); (case hs => first | exact h67 .. | exact h67b .. | exact h34 ..); (case hok | hσ => (simp only [go_sem, d1, w1, hx1, hx2, hq2, d5]; try rfl)))
            | (apply ev_step0; (case hr | hσ => (simp only [go_sem, d1, w1, hx1, hx2, hq2, d5]; try rfl)); (case hc => (first | trivial | decide | (simp only [inB, sliceOk, appendOk, rowsOk]; omega) | (simp [inB, sliceOk, appendOk, rowsOk]; omega))))
            | (apply ev_step; (case hr => (simp only [go_sem, d1, w1, hx1, hx2, hq2, d5]; try rfl)); (case hσ => (intro g u; simp only [go_sem, d1, w1, hx1, hx2, hq2, d5]; try rfl)); (case hc => (first | trivial | decide | (simp only [inB, sliceOk, appendOk, rowsOk]; omega) | (simp [inB, sliceOk, appendOk, rowsOk]; omega))); intro g u; (try clear u); (try clear g))
            | fail
          all_goals (refine resR_more T_ok rfl (by decide) _ (by (simp only [go_sem, resA]; rfl)) (by (intro rv hrv; simp only [List.mem_cons, List.not_mem_nil, or_false] at hrv; rcases hrv with rfl | rfl <;> first | trivial | simp only [go_sem, resA])) (by first | trivial | (simp only [go_sem])) ?_; simp only [go_sem])
          exact ⟨LeA.refl _, LeA.refl _, trivial⟩
        | true =>
          have hm5 : m < s.size := by have := of_decide_eq_true d5; omega
          cases q
          all_goals
            simp only [Bool.false_eq_true, if_false, if_true]
            refine spec_of_awp (fn := Try.f50) Try.func50 (by kernel_rfl) rfl ?_
            intro w0 C0
            simp only [Try.ntmps50, litI, litB, litS, List.length_cons, List.length_nil, Nat.reduceAdd, Nat.reduceSub, List.replicate_succ, List.replicate_zero, List.cons_append, List.nil_append]
            repeat' first
              | refine awp_seq ?_
              | refine awp_block ?_
              | refine awp_skip ?_
              | (refine reg _ (by (simp only [List.map_cons, List.map_nil]; rfl)) rfl ?_; intro K hK)
              | (refine awp_cond _ (by rfl) ?_ ?_ <;> (intro hb; first | (cases hb; done) | (have ht : true = true := hb; clear ht hb) | (have ht : false = false := hb; clear ht hb) | (simp only [hb]) | skip))
              | (refine awp_exit ?_; simp only [thenA, blockA, scopeA, reduceIte, RetQ, Nat.reduceEqDiff])
              | (refine awp_ret ?_; simp only [thenA, blockA, scopeA, RetQ])
              | (refine ev_nil (hK _ ?_); clear hK K)
              | (apply ev_guardU; (case hj | hu | hσ => (simp only [go_sem, d1, w1, hx1, hx2, hq2, d5, hx3]; try rfl)))
              | (refine ev_guardT _ _ (by (simp only [go_sem, d1, w1, hx1, hx2, hq2, d5, hx3]; rfl)) (by (simp only [go_sem, d1, w1, hx1, hx2, hq2, d5, hx3]; rfl)) ?_ ?_ <;> (intro hb; first | (cases hb; done) | (have ht : true = true := hb; clear ht hb) | (have ht : false = false := hb; clear ht hb) | (simp only [hb]) | skip))
              | (refine ev_guardF _ _ (by (simp only [go_sem, d1, w1, hx1, hx2, hq2, d5, hx3]; rfl)) (by (simp only [go_sem, d1, w1, hx1, hx2, hq2, d5, hx3]; rfl)) ?_ ?_ <;> (intro hb; first | (cases hb; done) | (have ht : true = true := hb; clear ht hb) | (have ht : false = false := hb; clear ht hb) | (simp only [hb]) | skip))
              | (apply ev_call0; (case hys => (simp only [go_sem, d1, w1, hx1, hx2, hq2, d5, hx3]; try rfl)); (case hs => first | exact h67 .. | exact h67b .. | exact h34 .. | exact h31 ..); (case hok | hσ => (simp only [go_sem, d1, w1, hx1, hx2, hq2, d5, hx3]; try rfl)))
              | (apply ev_step0; (case hr | hσ => (simp only [go_sem, d1, w1, hx1, hx2, hq2, d5, hx3]; try rfl)); (case hc => (first | trivial | decide | (simp only [inB, sliceOk, appendOk, rowsOk]; omega) | (simp [inB, sliceOk, appendOk, rowsOk]; omega))))
              | (apply ev_step; (case hr => (simp only [go_sem, d1, w1, hx1, hx2, hq2, d5, hx3]; try rfl)); (case hσ => (intro g u; simp only [go_sem, d1, w1, hx1, hx2, hq2, d5, hx3]; try rfl)); (case hc => (first | trivial | decide | (simp only [inB, sliceOk, appendOk, rowsOk]; omega) | (simp [inB, sliceOk, appendOk, rowsOk]; omega))); intro g u; (try clear u); (try clear g))
              | fail
            all_goals (refine resR_more T_ok rfl (by decide) _ (by (simp only [go_sem, resA]; rfl)) (by (intro rv hrv; simp only [List.mem_cons, List.not_mem_nil, or_false] at hrv; rcases hrv with rfl | rfl <;> first | trivial | simp only [go_sem, resA])) (by first | trivial | (simp only [go_sem])) ?_; simp only [go_sem])
            exact ⟨LeA.refl _, LeA.refl _, trivial⟩
      | false =>
        rw [if_neg (fun e => by rw [h3] at e; exact Bool.false_ne_true e.2)] at hN
        rw [h3] at h34
        have hme : m = e := by omega
        subst hme
        generalize (bs s).getD (m + 1) 0 = y2 at *
        generalize (bs s).getD m 0 = y1 at *
        cases b5 with
        | false =>
          obtain rfl := hbq rfl
          simp only [Bool.false_eq_true, if_false]
          refine spec_of_awp (fn := Try.f50) Try.func50 (by kernel_rfl) rfl ?_
          intro w0 C0
          simp only [Try.ntmps50, litI, litB, litS, List.length_cons, List.length_nil, Nat.reduceAdd, Nat.reduceSub, List.replicate_succ, List.replicate_zero, List.cons_append, List.nil_append]
          repeat' first
            | refine awp_seq ?_
            | refine awp_block ?_
            | refine awp_skip ?_
            | (refine reg _ (by (simp only [List.map_cons, List.map_nil]; rfl)) rfl ?_; intro K hK)
            | (refine awp_cond _ (by rfl) ?_ ?_ <;> (intro hb; first | (cases hb; done) | (have ht : true = true := hb; clear ht hb) | (have ht : false = false := hb; clear ht hb) | (simp only [hb]) | skip))
            | (refine awp_exit ?_; simp only [thenA, blockA, scopeA, reduceIte, RetQ, Nat.reduceEqDiff])
            | (refine awp_ret ?_; simp only [thenA, blockA, scopeA, RetQ])
            | (refine ev_nil (hK _ ?_); clear hK K)
            | (apply ev_guardU; (case hj | hu | hσ => (simp only [go_sem, d1, w1, hx1, hx2, hq2, d5]; try rfl)))
            | (refine ev_guardT _ _ (by (simp only [go_sem, d1, w1, hx1, hx2, hq2, d5]; rfl)) (by (simp only [go_sem, d1, w1, hx1, hx2, hq2, d5]; rfl)) ?_ ?_ <;> (intro hb; first | (cases hb; done) | (have ht : true = true := hb; clear ht hb) | (have ht : false = false := hb; clear ht hb) | (simp only [hb]) | skip))
            | (refine ev_guardF _ _ (by (simp only [go_sem, d1, w1, hx1, hx2, hq2, d5]; rfl)) (by (simp only [go_sem, d1, w1, hx1, hx2, hq2, d5]; rfl)) ?_ ?_ <;> (intro hb; first | (cases hb; done) | (have ht : true = true := hb; clear ht hb) | (have ht : false = false := hb; clear ht hb) | (simp only [hb]) | skip))
            | (apply ev_call0; (case hys => (simp only [go_sem, d1, w1, hx1, hx2, hq2, d5]; try rfl)); (case hs => first | exact h67 .. | exact h34 ..); (case hok | hσ => (simp only [go_sem, d1, w1, hx1, hx2, hq2, d5]; try rfl)))
            | (apply ev_step0; (case hr | hσ => (simp only [go_sem, d1, w1, hx1, hx2, hq2, d5]; try rfl)); (case hc => (first | trivial | decide | (simp only [inB, sliceOk, appendOk, rowsOk]; omega) | (simp [inB, sliceOk, appendOk, rowsOk]; omega))))
            | (apply ev_step; (case hr => (simp only [go_sem, d1, w1, hx1, hx2, hq2, d5]; try rfl)); (case hσ => (intro g u; simp only [go_sem, d1, w1, hx1, hx2, hq2, d5]; try rfl)); (case hc => (first | trivial | decide | (simp only [inB, sliceOk, appendOk, rowsOk]; omega) | (simp [inB, sliceOk, appendOk, rowsOk]; omega))); intro g u; (try clear u); (try clear g))
            | fail
          all_goals (refine resR_more T_ok rfl (by decide) _ (by (simp only [go_sem, resA]; rfl)) (by (intro rv hrv; simp only [List.mem_cons, List.not_mem_nil, or_false] at hrv; rcases hrv with rfl | rfl <;> first | trivial | simp only [go_sem, resA])) (by first | trivial | (simp only [go_sem])) ?_; simp only [go_sem])
          exact ⟨LeA.refl _, LeA.refl _, trivial⟩
        | true =>
          have hm5 : m < s.size := by have := of_decide_eq_true d5; omega
          cases q
          all_goals
            simp only [Bool.false_eq_true, if_false, if_true]
            refine spec_of_awp (fn := Try.f50) Try.func50 (by kernel_rfl) rfl ?_
            intro w0 C0
            simp only [Try.ntmps50, litI, litB, litS, List.length_cons, List.length_nil, Nat.reduceAdd, Nat.reduceSub, List.replicate_succ, List.replicate_zero, List.cons_append, List.nil_append]
            repeat' first
              | refine awp_seq ?_
              | refine awp_block ?_
              | refine awp_skip ?_
              | (refine reg _ (by (simp only [List.map_cons, List.map_nil]; rfl)) rfl ?_; intro K hK)
              | (refine awp_cond _ (by rfl) ?_ ?_ <;> (intro hb; first | (cases hb; done) | (have ht : true = true := hb; clear ht hb) | (have ht : false = false := hb; clear ht hb) | (simp only [hb]) | skip))
              | (refine awp_exit ?_; simp only [thenA, blockA, scopeA, reduceIte, RetQ, Nat.reduceEqDiff])
              | (refine awp_ret ?_; simp only [thenA, blockA, scopeA, RetQ])
              | (refine ev_nil (hK _ ?_); clear hK K)
              | (apply ev_guardU; (case hj | hu | hσ => (simp only [go_sem, d1, w1, hx1, hx2, hq2, d5, hx3]; try rfl)))
              | (refine ev_guardT _ _ (by (simp only [go_sem, d1, w1, hx1, hx2, hq2, d5, hx3]; rfl)) (by (simp only [go_sem, d1, w1, hx1, hx2, hq2, d5, hx3]; rfl)) ?_ ?_ <;> (intro hb; first | (cases hb; done) | (have ht : true = true := hb; clear ht hb) | (have ht : false = false := hb; clear ht hb) | (simp only [hb]) | skip))
              | (refine ev_guardF _ _ (by (simp only [go_sem, d1, w1, hx1, hx2, hq2, d5, hx3]; rfl)) (by (simp only [go_sem, d1, w1, hx1, hx2, hq2, d5, hx3]; rfl)) ?_ ?_ <;> (intro hb; first | (cases hb; done) | (have ht : true = true := hb; clear ht hb) | (have ht : false = false := hb; clear ht hb) | (simp only [hb]) | skip))
              | (apply ev_call0; (case hys => (simp only [go_sem, d1, w1, hx1, hx2, hq2, d5, hx3]; try rfl)); (case hs => first | exact h67 .. | exact h34 .. | exact h31 ..); (case hok | hσ => (simp only [go_sem, d1, w1, hx1, hx2, hq2, d5, hx3]; try rfl)))
              | (apply ev_step0; (case hr | hσ => (simp only [go_sem, d1, w1, hx1, hx2, hq2, d5, hx3]; try rfl)); (case hc => (first | trivial | decide | (simp only [inB, sliceOk, appendOk, rowsOk]; omega) | (simp [inB, sliceOk, appendOk, rowsOk]; omega))))
              | (apply ev_step; (case hr => (simp only [go_sem, d1, w1, hx1, hx2, hq2, d5, hx3]; try rfl)); (case hσ => (intro g u; simp only [go_sem, d1, w1, hx1, hx2, hq2, d5, hx3]; try rfl)); (case hc => (first | trivial | decide | (simp only [inB, sliceOk, appendOk, rowsOk]; omega) | (simp [inB, sliceOk, appendOk, rowsOk]; omega))); intro g u; (try clear u); (try clear g))
              | fail
            all_goals (refine resR_more T_ok rfl (by decide) _ (by (simp only [go_sem, resA]; rfl)) (by (intro rv hrv; simp only [List.mem_cons, List.not_mem_nil, or_false] at hrv; rcases hrv with rfl | rfl <;> first | trivial | simp only [go_sem, resA])) (by first | trivial | (simp only [go_sem])) ?_; simp only [go_sem])
            exact ⟨LeA.refl _, LeA.refl _, trivial⟩
    · have hq2 : ((((bs s).getD e 0).toNat : Int) == 46) = false := by rw [hq1]; simpa using h2
      clear hq1
      rw [if_neg (fun e => h2 e.1)] at hN
      have hme : m = e := by omega
      subst hme
      generalize (bs s).getD m 0 = y1 at *
      cases b5 with
      | false =>
        obtain rfl := hbq rfl
        simp only [Bool.false_eq_true, if_false]
        refine spec_of_awp (fn := Try.f50) Try.func50 (by kernel_rfl) rfl ?_
        intro w0 C0
        simp only [Try.ntmps50, litI, litB, litS, List.length_cons, List.length_nil, Nat.reduceAdd, Nat.reduceSub, List.replicate_succ, List.replicate_zero, List.cons_append, List.nil_append]
        repeat' first
          | refine awp_seq ?_
          | refine awp_block ?_
          | refine awp_skip ?_
          | (refine reg _ (by (simp only [List.map_cons, List.map_nil]; rfl)) rfl ?_; intro K hK)
          | (refine awp_cond _ (by rfl) ?_ ?_ <;> (intro hb; first | (cases hb; done) | (have ht : true = true := hb; clear ht hb) | (have ht : false = false := hb; clear ht hb) | (simp only [hb]) | skip))
          | (refine awp_exit ?_; simp only [thenA, blockA, scopeA, reduceIte, RetQ, Nat.reduceEqDiff])
          | (refine awp_ret ?_; simp only [thenA, blockA, scopeA, RetQ])
          | (refine ev_nil (hK _ ?_); clear hK K)
          | (apply ev_guardU; (case hj | hu | hσ => (simp only [go_sem, d1, w1, hx1, hq2, d5]; try rfl)))
          | (refine ev_guardT _ _ (by (simp only [go_sem, d1, w1, hx1, hq2, d5]; rfl)) (by (simp only [go_sem, d1, w1, hx1, hq2, d5]; rfl)) ?_ ?_ <;> (intro hb; first | (cases hb; done) | (have ht : true = true := hb; clear ht hb) | (have ht : false = false := hb; clear ht hb) | (simp only [hb]) | skip))
          | (refine ev_guardF _ _ (by (simp only [go_sem, d1, w1, hx1, hq2, d5]; rfl)) (by (simp only [go_sem, d1, w1, hx1, hq2, d5]; rfl)) ?_ ?_ <;> (intro hb; first | (cases hb; done) | (have ht : true = true := hb; clear ht hb) | (have ht : false = false := hb; clear ht hb) | (simp only [hb]) | skip))
          | (apply ev_call0; (case hys => (simp only [go_sem, d1, w1, hx1, hq2, d5]; try rfl)); (case hs => first | exact h67 ..); (case hok | hσ => (simp only [go_sem, d1, w1, hx1, hq2, d5]; try rfl)))
          | (apply ev_step0; (case hr | hσ => (simp only [go_sem, d1, w1, hx1, hq2, d5]; try rfl)); (case hc => (first | trivial | decide | (simp only [inB, sliceOk, appendOk, rowsOk]; omega) | (simp [inB, sliceOk, appendOk, rowsOk]; omega))))
          | (apply ev_step; (case hr => (simp only [go_sem, d1, w1, hx1, hq2, d5]; try rfl)); (case hσ => (intro g u; simp only [go_sem, d1, w1, hx1, hq2, d5]; try rfl)); (case hc => (first | trivial | decide | (simp only [inB, sliceOk, appendOk, rowsOk]; omega) | (simp [inB, sliceOk, appendOk, rowsOk]; omega))); intro g u; (try clear u); (try clear g))
          | fail
        all_goals (refine resR_more T_ok rfl (by decide) _ (by (simp only [go_sem, resA]; rfl)) (by (intro rv hrv; simp only [List.mem_cons, List.not_mem_nil, or_false] at hrv; rcases hrv with rfl | rfl <;> first | trivial | simp only [go_sem, resA])) (by first | trivial | (simp only [go_sem])) ?_; simp only [go_sem])
        exact ⟨LeA.refl _, LeA.refl _, trivial⟩
      | true =>
        have hm5 : m < s.size := by have := of_decide_eq_true d5; omega
        cases q
        all_goals
          simp only [Bool.false_eq_true, if_false, if_true]
          refine spec_of_awp (fn := Try.f50) Try.func50 (by kernel_rfl) rfl ?_
          intro w0 C0
          simp only [Try.ntmps50, litI, litB, litS, List.length_cons, List.length_nil, Nat.reduceAdd, Nat.reduceSub, List.replicate_succ, List.replicate_zero, List.cons_append, List.nil_append]
          repeat' first
            | refine awp_seq ?_
            | refine awp_block ?_
            | refine awp_skip ?_
            | (refine reg _ (by (simp only [List.map_cons, List.map_nil]; rfl)) rfl ?_; intro K hK)
            | (refine awp_cond _ (by rfl) ?_ ?_ <;> (intro hb; first | (cases hb; done) | (have ht : true = true := hb; clear ht hb) | (have ht : false = false := hb; clear ht hb) | (simp only [hb]) | skip))
            | (refine awp_exit ?_; simp only [thenA, blockA, scopeA, reduceIte, RetQ, Nat.reduceEqDiff])
            | (refine awp_ret ?_; simp only [thenA, blockA, scopeA, RetQ])
            | (refine ev_nil (hK _ ?_); clear hK K)
            | (apply ev_guardU; (case hj | hu | hσ => (simp only [go_sem, d1, w1, hx1, hq2, d5, hx3]; try rfl)))
            | (refine ev_guardT _ _ (by (simp only [go_sem, d1, w1, hx1, hq2, d5, hx3]; rfl)) (by (simp only [go_sem, d1, w1, hx1, hq2, d5, hx3]; rfl)) ?_ ?_ <;> (intro hb; first | (cases hb; done) | (have ht : true = true := hb; clear ht hb) | (have ht : false = false := hb; clear ht hb) | (simp only [hb]) | skip))
            | (refine ev_guardF _ _ (by (simp only [go_sem, d1, w1, hx1, hq2, d5, hx3]; rfl)) (by (simp only [go_sem, d1, w1, hx1, hq2, d5, hx3]; rfl)) ?_ ?_ <;> (intro hb; first | (cases hb; done) | (have ht : true = true := hb; clear ht hb) | (have ht : false = false := hb; clear ht hb) | (simp only [hb]) | skip))
            | (apply ev_call0; (case hys => (simp only [go_sem, d1, w1, hx1, hq2, d5, hx3]; try rfl)); (case hs => first | exact h67 .. | exact h31 ..); (case hok | hσ => (simp only [go_sem, d1, w1, hx1, hq2, d5, hx3]; try rfl)))
            | (apply ev_step0; (case hr | hσ => (simp only [go_sem, d1, w1, hx1, hq2, d5, hx3]; try rfl)); (case hc => (first | trivial | decide | (simp only [inB, sliceOk, appendOk, rowsOk]; omega) | (simp [inB, sliceOk, appendOk, rowsOk]; omega))))
            | (apply ev_step; (case hr => (simp only [go_sem, d1, w1, hx1, hq2, d5, hx3]; try rfl)); (case hσ => (intro g u; simp only [go_sem, d1, w1, hx1, hq2, d5, hx3]; try rfl)); (case hc => (first | trivial | decide | (simp only [inB, sliceOk, appendOk, rowsOk]; omega) | (simp [inB, sliceOk, appendOk, rowsOk]; omega))); intro g u; (try clear u); (try clear g))
            | fail
          all_goals (refine resR_more T_ok rfl (by decide) _ (by (simp only [go_sem, resA]; rfl)) (by (intro rv hrv; simp only [List.mem_cons, List.not_mem_nil, or_false] at hrv; rcases hrv with rfl | rfl <;> first | trivial | simp only [go_sem, resA])) (by first | trivial | (simp only [go_sem])) ?_; simp only [go_sem])
          exact ⟨LeA.refl _, LeA.refl _, trivial⟩
  · have d1 : decide (((e + 1 : Nat) : Int) < (s.size : Int)) = false := decide_eq_false (by omega)
    rw [if_neg (fun e => by rw [getD_out (i := _ + 1) (by omega), digit0] at e; exact Bool.false_ne_true e.2)] at hN
    have hme : m = e := by omega
    subst hme
    cases b5 with
    | false =>
      obtain rfl := hbq rfl
      simp only [Bool.false_eq_true, if_false]
      refine spec_of_awp (fn := Try.f50) Try.func50 (by kernel_rfl) rfl ?_
      intro w0 C0
      simp only [Try.ntmps50, litI, litB, litS, List.length_cons, List.length_nil, Nat.reduceAdd, Nat.reduceSub, List.replicate_succ, List.replicate_zero, List.cons_append, List.nil_append]
      repeat' first
        | refine awp_seq ?_
        | refine awp_block ?_
        | refine awp_skip ?_
        | (refine reg _ (by (simp only [List.map_cons, List.map_nil]; rfl)) rfl ?_; intro K hK)
        | (refine awp_cond _ (by rfl) ?_ ?_ <;> (intro hb; first | (cases hb; done) | (have ht : true = true := hb; clear ht hb) | (have ht : false = false := hb; clear ht hb) | (simp only [hb]) | skip))
        | (refine awp_exit ?_; simp only [thenA, blockA, scopeA, reduceIte, RetQ, Nat.reduceEqDiff])
        | (refine awp_ret ?_; simp only [thenA, blockA, scopeA, RetQ])
        | (refine ev_nil (hK _ ?_); clear hK K)
        | (apply ev_guardU; (case hj | hu | hσ => (simp only [go_sem, d1, w1, d5]; try rfl)))
        | (refine ev_guardT _ _ (by (simp only [go_sem, d1, w1, d5]; rfl)) (by (simp only [go_sem, d1, w1, d5]; rfl)) ?_ ?_ <;> (intro hb; first | (cases hb; done) | (have ht : true = true := hb; clear ht hb) | (have ht : false = false := hb; clear ht hb) | (simp only [hb]) | skip))
        | (refine ev_guardF _ _ (by (simp only [go_sem, d1, w1, d5]; rfl)) (by (simp only [go_sem, d1, w1, d5]; rfl)) ?_ ?_ <;> (intro hb; first | (cases hb; done) | (have ht : true = true := hb; clear ht hb) | (have ht : false = false := hb; clear ht hb) | (simp only [hb]) | skip))
        | (apply ev_call0; (case hys => (simp only [go_sem, d1, w1, d5]; try rfl)); (case hs => first | exact h67 ..); (case hok | hσ => (simp only [go_sem, d1, w1, d5]; try rfl)))
        | (apply ev_step0; (case hr | hσ => (simp only [go_sem, d1, w1, d5]; try rfl)); (case hc => (first | trivial | decide | (simp only [inB, sliceOk, appendOk, rowsOk]; omega) | (simp [inB, sliceOk, appendOk, rowsOk]; omega))))
        | (apply ev_step; (case hr => (simp only [go_sem, d1, w1, d5]; try rfl)); (case hσ => (intro g u; simp only [go_sem, d1, w1, d5]; try rfl)); (case hc => (first | trivial | decide | (simp only [inB, sliceOk, appendOk, rowsOk]; omega) | (simp [inB, sliceOk, appendOk, rowsOk]; omega))); intro g u; (try clear u); (try clear g))
        | fail
      all_goals (refine resR_more T_ok rfl (by decide) _ (by (simp only [go_sem, resA]; rfl)) (by (intro rv hrv; simp only [List.mem_cons, List.not_mem_nil, or_false] at hrv; rcases hrv with rfl | rfl <;> first | trivial | simp only [go_sem, resA])) (by first | trivial | (simp only [go_sem])) ?_; simp only [go_sem])
      exact ⟨LeA.refl _, LeA.refl _, trivial⟩
    | true =>
      have hm5 : m < s.size := by have := of_decide_eq_true d5; omega
      cases q
      all_goals
        simp only [Bool.false_eq_true, if_false, if_true]
        refine spec_of_awp (fn := Try.f50) Try.func50 (by kernel_rfl) rfl ?_
        intro w0 C0
        simp only [Try.ntmps50, litI, litB, litS, List.length_cons, List.length_nil, Nat.reduceAdd, Nat.reduceSub, List.replicate_succ, List.replicate_zero, List.cons_append, List.nil_append]
        repeat' first
          | refine awp_seq ?_
          | refine awp_block ?_
          | refine awp_skip ?_
          | (refine reg _ (by (simp only [List.map_cons, List.map_nil]; rfl)) rfl ?_; intro K hK)
          | (refine awp_cond _ (by rfl) ?_ ?_ <;> (intro hb; first | (cases hb; done) | (have ht : true = true := hb; clear ht hb) | (have ht : false = false := hb; clear ht hb) | (simp only [hb]) | skip))
          | (refine awp_exit ?_; simp only [thenA, blockA, scopeA, reduceIte, RetQ, Nat.reduceEqDiff])
          | (refine awp_ret ?_; simp only [thenA, blockA, scopeA, RetQ])
          | (refine ev_nil (hK _ ?_); clear hK K)
          | (apply ev_guardU; (case hj | hu | hσ => (simp only [go_sem, d1, w1, d5, hx3]; try rfl)))
          | (refine ev_guardT _ _ (by (simp only [go_sem, d1, w1, d5, hx3]; rfl)) (by (simp only [go_sem, d1, w1, d5, hx3]; rfl)) ?_ ?_ <;> (intro hb; first | (cases hb; done) | (have ht : true = true := hb; clear ht hb) | (have ht : false = false := hb; clear ht hb) | (simp only [hb]) | skip))
          | (refine ev_guardF _ _ (by (simp only [go_sem, d1, w1, d5, hx3]; rfl)) (by (simp only [go_sem, d1, w1, d5, hx3]; rfl)) ?_ ?_ <;> (intro hb; first | (cases hb; done) | (have ht : true = true := hb; clear ht hb) | (have ht : false = false := hb; clear ht hb) | (simp only [hb]) | skip))
          | (apply ev_call0; (case hys => (simp only [go_sem, d1, w1, d5, hx3]; try rfl)); (case hs => first | exact h67 .. | exact h31 ..); (case hok | hσ => (simp only [go_sem, d1, w1, d5, hx3]; try rfl)))
          | (apply ev_step0; (case hr | hσ => (simp only [go_sem, d1, w1, d5, hx3]; try rfl)); (case hc => (first | trivial | decide | (simp only [inB, sliceOk, appendOk, rowsOk]; omega) | (simp [inB, sliceOk, appendOk, rowsOk]; omega))))
          | (apply ev_step; (case hr => (simp only [go_sem, d1, w1, d5, hx3]; try rfl)); (case hσ => (intro g u; simp only [go_sem, d1, w1, d5, hx3]; try rfl)); (case hc => (first | trivial | decide | (simp only [inB, sliceOk, appendOk, rowsOk]; omega) | (simp [inB, sliceOk, appendOk, rowsOk]; omega))); intro g u; (try clear u); (try clear g))
          | fail
        all_goals (refine resR_more T_ok rfl (by decide) _ (by (simp only [go_sem, resA]; rfl)) (by (intro rv hrv; simp only [List.mem_cons, List.not_mem_nil, or_false] at hrv; rcases hrv with rfl | rfl <;> first | trivial | simp only [go_sem, resA])) (by first | trivial | (simp only [go_sem])) ?_; simp only [go_sem])
        exact ⟨LeA.refl _, LeA.refl _, trivial⟩
theorem skip_eq (l : Bs) : skipF false l = if l.getD (runN wsB l) 0 = 35 then skipF true (l.drop (runN wsB l)) + runN wsB l else runN wsB l := by
  induction l with
  | nil => rfl
  | cons b l ih =>
    by_cases hb : wsB b = true
    · simp only [skipF, runN, if_pos hb]
      rw [ih, Nat.add_comm 1 (runN wsB l), List.getD_cons_succ, List.drop_succ_cons]
      split <;> omega
    · simp only [skipF, runN, if_neg hb, List.getD_cons_zero, List.drop_zero, Nat.add_zero]
      split
      · rename_i hc; subst hc; rfl
      · rfl
theorem skip_com_eq (l : Bs) : skipF true l = if runN (fun b => b != 10) l < l.length then runN (fun b => b != 10) l + skipF false (l.drop (runN (fun b => b != 10) l)) else l.length := by
  induction l with
  | nil => rfl
  | cons b l ih =>
    by_cases hb : b = 10
    · subst hb
      have h1 : runN (fun b => b != 10) (10 :: l) = 0 := by simp only [runN]; rw [if_neg (by decide)]
      rw [h1, if_pos (by simp), List.drop_zero, Nat.zero_add]
      simp only [skipF, show ((10 : UInt8) != 10) = false from rfl, show wsB 10 = true from rfl, if_true]
    · have hb' : (b != 10) = true := by simpa using hb
      have h1 : runN (fun b => b != 10) (b :: l) = runN (fun b => b != 10) l + 1 := by simp only [runN, hb', if_true]; omega
      rw [h1, List.drop_succ_cons, List.length_cons]
      simp only [skipF, hb']
      rw [ih]
      split
      · rw [if_pos (by omega)]; omega
      · rw [if_neg (by omega)]; omega
end
section
set_option linter.unusedVariables false
set_option linter.unusedSimpArgs false
open Go.RowKit
attribute [local irreducible] AWp evOps evD
theorem runN_rest (p : UInt8 → Bool) : ∀ l : Bs, runN p (l.drop (runN p l)) = 0
  | [] => rfl
  | b :: l => by
    by_cases hp : p b = true
    · have : runN p (b :: l) = runN p l + 1 := by simp only [runN, if_pos hp]; omega
      rw [this, List.drop_succ_cons]; exact runN_rest p l
    · have : runN p (b :: l) = 0 := by simp only [runN, if_neg hp]
      rw [this, List.drop_zero, this]
def comB (b : UInt8) : Bool := b != 10
theorem runN_pos' {p : UInt8 → Bool} (l : Bs) (hl : 0 < l.length) (h : p (l.getD 0 0) = true) : 1 ≤ runN p l := by
  cases l with
  | nil => simp at hl
  | cons b l =>
    have : p b = true := h
    simp only [runN, if_pos this]; omega
theorem skip_A {l : Bs} (h : l.getD (runN wsB l) 0 = 35) : runN wsB l < l.length ∧ 1 ≤ runN comB (l.drop (runN wsB l)) ∧ runN wsB l + runN comB (l.drop (runN wsB l)) ≤ l.length ∧
    skipF false l = runN wsB l + runN comB (l.drop (runN wsB l)) + skipF false (l.drop (runN wsB l + runN comB (l.drop (runN wsB l)))) := by
  have h1 : runN wsB l < l.length := by
    apply Classical.byContradiction; intro hc
    rw [getD_out (by omega)] at h; exact absurd h (by decide)
  have h2 := runN_le comB (l.drop (runN wsB l))
  rw [List.length_drop] at h2
  have h3 : 1 ≤ runN comB (l.drop (runN wsB l)) := runN_pos' _ (by rw [List.length_drop]; omega) (by rw [drop_getD, Nat.add_zero, h]; rfl)
  refine ⟨h1, h3, by omega, ?_⟩
  have e1 := skip_eq l
  rw [if_pos h, skip_com_eq] at e1
  change skipF false l = (if runN comB (l.drop (runN wsB l)) < (l.drop (runN wsB l)).length then runN comB (l.drop (runN wsB l)) + skipF false ((l.drop (runN wsB l)).drop (runN comB (l.drop (runN wsB l)))) else (l.drop (runN wsB l)).length) + runN wsB l at e1
  rw [List.drop_drop] at e1
  split at e1
  · omega
  · rename_i hge
    rw [List.length_drop] at hge e1
    rw [List.drop_eq_nil_of_le (i := runN wsB l + _) (by omega)]
    show _ = _ + 0
    omega
theorem skip_B {l : Bs} (h : l.getD (runN wsB l) 0 ≠ 35) : skipF false l = runN wsB l ∧ skipF false (l.drop (runN wsB l)) = 0 := by
  have e1 := skip_eq l
  rw [if_neg h] at e1
  refine ⟨e1, ?_⟩
  have e2 := skip_eq (l.drop (runN wsB l))
  rw [runN_rest, drop_getD, Nat.add_zero, if_neg h] at e2
  exact e2
set_option maxHeartbeats 4000000 in
theorem f53_spec (s : ByteArray) (a : Nat) (hs : s.size ≤ 4611686018427387904) (ha : a ≤ s.size) : Spec Try.prog 53 [litS s, litI .i64 (a : Int)] (litI .i64 ((a + skipF false ((bs s).drop a) : Nat) : Int)) := by
  have hl := bs_len s
  have c67 := fun i hi => f67_spec (IsFn.lit 70) s i wsB hs hi (fun b => f70_spec b)
  have c71 := fun i hi => f67_spec (IsFn.lit 71) s i comB hs hi (fun b => f71_spec b)
  obtain ⟨z, hz⟩ : ∃ z, a + skipF false ((bs s).drop a) = z := ⟨_, rfl⟩
  rw [hz]
  refine spec_of_awp (fn := Try.f53) Try.func53 (by kernel_rfl) rfl ?_
  intro w0 C0
  simp only [Try.ntmps53, litI, litB, litS, List.length_cons, List.length_nil, Nat.reduceAdd, Nat.reduceSub, List.replicate_succ, List.replicate_zero, List.cons_append, List.nil_append]
  repeat' first
    | refine awp_seq ?_
    | refine awp_block ?_
    | refine awp_skip ?_
    | (refine reg _ (by (simp only [List.map_cons, List.map_nil]; rfl)) rfl ?_; intro K hK)
    | (refine awp_cond _ (by rfl) ?_ ?_ <;> (intro hb; first | (cases hb; done) | (have ht : true = true := hb; clear ht hb) | (have ht : false = false := hb; clear ht hb) | (simp only [hb]) | skip))
    | (refine awp_exit ?_; simp only [thenA, blockA, scopeA, reduceIte, RetQ, Nat.reduceEqDiff])
    | (refine awp_ret ?_; simp only [thenA, blockA, scopeA, RetQ])
    | (refine ev_nil (hK _ ?_); clear hK K)
    | (apply ev_guardU; (case hj | hu | hσ => (simp only [go_sem]; try rfl)))
    | (refine ev_guardT _ _ (by (simp only [go_sem]; rfl)) (by (simp only [go_sem]; rfl)) ?_ ?_ <;> (intro hb; first | (cases hb; done) | (have ht : true = true := hb; clear ht hb) | (have ht : false = false := hb; clear ht hb) | (simp only [hb]) | skip))
    | (refine ev_guardF _ _ (by (simp only [go_sem]; rfl)) (by (simp only [go_sem]; rfl)) ?_ ?_ <;> (intro hb; first | (cases hb; done) | (have ht : true = true := hb; clear ht hb) | (have ht : false = false := hb; clear ht hb) | (simp only [hb]) | skip))
    | (apply ev_step0; (case hr | hσ => (simp only [go_sem]; try rfl)); (case hc => (first | trivial | decide | (simp only [inB, sliceOk, appendOk, rowsOk]; omega) | (simp [inB, sliceOk, appendOk, rowsOk]; omega))))
    | (apply ev_step; (case hr => (simp only [go_sem]; try rfl)); (case hσ => (intro g u; simp only [go_sem]; try rfl)); (case hc => (first | trivial | decide | (simp only [inB, sliceOk, appendOk, rowsOk]; omega) | (simp [inB, sliceOk, appendOk, rowsOk]; omega))); intro g u; (try clear u); (try clear g))
    | fail
  refine awp_loopI (fun i => i ≤ s.size ∧ z = i + skipF false ((bs s).drop i)) (fun i => s.size - i) (fun i => ⟨[litS s, litI .i64 i, .any, .any, .any, .any, .any, .any, .any, .any, .any, .any, .any, .any, .any, .any, .any, .any, .any, .any, .any, .any, .any, .any, .any, .any, .any], [.no, .no, .no, .no, .no, .no, .no, .no, .no, .no, .no, .no, .no, .no, .no, .no, .no, .no, .no, .no, .no, .no, .no, .no, .no, .no, .no]⟩) a ⟨ha, hz.symm⟩ ?_ ?_
  · refine Wk.mk ?_ ?_
    all_goals (repeat' first | exact trivial | exact LeA.refl _ | exact LeA.any _ | exact LeO.refl _ | exact LeO.no _ | exact LeA.nil _ | exact LeA.nilOwn _ | exact LeO.nil _ _ _ | refine LeO.box ?_ | (refine LeA.i ?_; (first | rfl | (push_cast; rfl) | (rw [wrap_id (by omega)]; push_cast; omega) | (simp [wrap_id]; omega))) | refine ⟨?_, ?_⟩)
  rintro i ⟨hi, hfi⟩
  simp only [litI, litB, litS] at hi hfi ⊢
  have h67 := c67 i hi
  have hle := runN_le wsB ((bs s).drop i)
  rw [List.length_drop] at hle
  obtain ⟨e, he⟩ : ∃ e, i + runN wsB ((bs s).drop i) = e := ⟨_, rfl⟩
  have hx := byteAt_nat s e
  have hq1 : ((((bs s).getD e 0).toNat : Int) == 35) = ((bs s).getD e 0 == 35) := u8_eq _ 35
  have hge : ((bs s).drop i).getD (runN wsB ((bs s).drop i)) 0 = (bs s).getD e 0 := by rw [drop_getD, he]
  by_cases h35 : (bs s).getD e 0 = 35
  · obtain ⟨k1, k2, k3, k4⟩ := skip_A (l := (bs s).drop i) (by rw [hge]; exact h35)
    rw [List.length_drop] at k1 k3
    rw [List.drop_drop, List.drop_drop, show i + (runN wsB ((bs s).drop i) + runN comB ((bs s).drop (i + runN wsB ((bs s).drop i)))) = e + runN comB ((bs s).drop e) from by rw [he]; omega, he] at k4
    rw [List.drop_drop, he] at k2 k3
    have h71 := c71 e (by omega)
    rw [he] at h67
    have hlt : e < s.size := by omega
    have d1 : decide ((e : Int) < (s.size : Int)) = true := decide_eq_true (by omega)
    rw [h35] at hq1
    have hq2 : ((((bs s).getD e 0).toNat : Int) == 35) = true := by rw [h35]; rfl
    obtain ⟨e2, he2⟩ : ∃ e2, e + runN comB ((bs s).drop e) = e2 := ⟨_, rfl⟩
    rw [he2] at h71 k4
    have d2 : ((e2 : Int) == (i : Int)) = false := by simp; omega
    clear hq1
    generalize (bs s).getD e 0 = y at *
    repeat' first
      | refine awp_seq ?_
      | refine awp_block ?_
      | refine awp_skip ?_
      | (refine reg _ (by (simp only [List.map_cons, List.map_nil]; rfl)) rfl ?_; intro K hK)
      | (refine awp_cond _ (by rfl) ?_ ?_ <;> (intro hb; first | (cases hb; done) | (have ht : true = true := hb; clear ht hb) | (have ht : false = false := hb; clear ht hb) | (simp only [hb]) | skip))
      | (refine awp_exit ?_; simp only [thenA, blockA, scopeA, reduceIte, RetQ, Nat.reduceEqDiff])
      | (refine awp_ret ?_; simp only [thenA, blockA, scopeA, RetQ])
      | (refine ev_nil (hK _ ?_); clear hK K)
      | (apply ev_guardU; (case hj | hu | hσ => (simp only [go_sem, d1, hx, hq2, d2]; try rfl)))
      | (refine ev_guardT _ _ (by (simp only [go_sem, d1, hx, hq2, d2]; rfl)) (by (simp only [go_sem, d1, hx, hq2, d2]; rfl)) ?_ ?_ <;> (intro hb; first | (cases hb; done) | (have ht : true = true := hb; clear ht hb) | (have ht : false = false := hb; clear ht hb) | (simp only [hb]) | skip))
      | (refine ev_guardF _ _ (by (simp only [go_sem, d1, hx, hq2, d2]; rfl)) (by (simp only [go_sem, d1, hx, hq2, d2]; rfl)) ?_ ?_ <;> (intro hb; first | (cases hb; done) | (have ht : true = true := hb; clear ht hb) | (have ht : false = false := hb; clear ht hb) | (simp only [hb]) | skip))
      | (apply ev_call0; (case hys => (simp only [go_sem, d1, hx, hq2, d2]; try rfl)); (case hs => first | exact h67 .. | exact h71 ..); (case hok | hσ => (simp only [go_sem, d1, hx, hq2, d2]; try rfl)))
      | (apply ev_step0; (case hr | hσ => (simp only [go_sem, d1, hx, hq2, d2]; try rfl)); (case hc => (first | trivial | decide | (simp only [inB, sliceOk, appendOk, rowsOk]; omega) | (simp [inB, sliceOk, appendOk, rowsOk]; omega))))
      | (apply ev_step; (case hr => (simp only [go_sem, d1, hx, hq2, d2]; try rfl)); (case hσ => (intro g u; simp only [go_sem, d1, hx, hq2, d2]; try rfl)); (case hc => (first | trivial | decide | (simp only [inB, sliceOk, appendOk, rowsOk]; omega) | (simp [inB, sliceOk, appendOk, rowsOk]; omega))); intro g u; (try clear u); (try clear g))
      | fail
    refine Exists.intro e2 ⟨⟨by omega, by omega⟩, by omega, ?_⟩
    refine Wk.mk ?_ ?_
    all_goals (repeat' first | exact trivial | exact LeA.refl _ | exact LeA.any _ | exact LeO.refl _ | exact LeO.no _ | exact LeA.nil _ | exact LeA.nilOwn _ | exact LeO.nil _ _ _ | refine LeO.box ?_ | (refine LeA.i ?_; (first | rfl | (push_cast; rfl) | (rw [wrap_id (by omega)]; push_cast; omega) | (simp [wrap_id]; omega))) | refine ⟨?_, ?_⟩)
  · obtain ⟨k1, k2⟩ := skip_B (l := (bs s).drop i) (by rw [hge]; exact h35)
    rw [List.drop_drop, he] at k2
    rw [he] at h67
    have hq2 : ((((bs s).getD e 0).toNat : Int) == 35) = false := by rw [hq1]; simpa using h35
    obtain ⟨b1, d1⟩ : ∃ b, decide ((e : Int) < (s.size : Int)) = b := ⟨_, rfl⟩
    clear hq1 hge
    by_cases h0 : e = i
    · have d2 : ((e : Int) == (i : Int)) = true := by rw [h0]; simp
      have hzi : z = i := by omega
      cases b1 with
      | true =>
        have hlt : e < s.size := by have := of_decide_eq_true d1; omega
        generalize (bs s).getD e 0 = y at *
        repeat' first
          | refine awp_seq ?_
          | refine awp_block ?_
          | refine awp_skip ?_
          | (refine reg _ (by (simp only [List.map_cons, List.map_nil]; rfl)) rfl ?_; intro K hK)
          | (refine awp_cond _ (by rfl) ?_ ?_ <;> (intro hb; first | (cases hb; done) | (have ht : true = true := hb; clear ht hb) | (have ht : false = false := hb; clear ht hb) | (simp only [hb]) | skip))
          | (refine awp_exit ?_; simp only [thenA, blockA, scopeA, reduceIte, RetQ, Nat.reduceEqDiff])
          | (refine awp_ret ?_; simp only [thenA, blockA, scopeA, RetQ])
          | (refine ev_nil (hK _ ?_); clear hK K)
          | (apply ev_guardU; (case hj | hu | hσ => (simp only [go_sem, d1, hx, hq2, d2]; try rfl)))
          | (refine ev_guardT _ _ (by (simp only [go_sem, d1, hx, hq2, d2]; rfl)) (by (simp only [go_sem, d1, hx, hq2, d2]; rfl)) ?_ ?_ <;> (intro hb; first | (cases hb; done) | (have ht : true = true := hb; clear ht hb) | (have ht : false = false := hb; clear ht hb) | (simp only [hb]) | skip))
          | (refine ev_guardF _ _ (by (simp only [go_sem, d1, hx, hq2, d2]; rfl)) (by (simp only [go_sem, d1, hx, hq2, d2]; rfl)) ?_ ?_ <;> (intro hb; first | (cases hb; done) | (have ht : true = true := hb; clear ht hb) | (have ht : false = false := hb; clear ht hb) | (simp only [hb]) | skip))
          | (apply ev_call0; (case hys => (simp only [go_sem, d1, hx, hq2, d2]; try rfl)); (case hs => first | exact h67 ..); (case hok | hσ => (simp only [go_sem, d1, hx, hq2, d2]; try rfl)))
          | (apply ev_step0; (case hr | hσ => (simp only [go_sem, d1, hx, hq2, d2]; try rfl)); (case hc => (first | trivial | decide | (simp only [inB, sliceOk, appendOk, rowsOk]; omega) | (simp [inB, sliceOk, appendOk, rowsOk]; omega))))
          | (apply ev_step; (case hr => (simp only [go_sem, d1, hx, hq2, d2]; try rfl)); (case hσ => (intro g u; simp only [go_sem, d1, hx, hq2, d2]; try rfl)); (case hc => (first | trivial | decide | (simp only [inB, sliceOk, appendOk, rowsOk]; omega) | (simp [inB, sliceOk, appendOk, rowsOk]; omega))); intro g u; (try clear u); (try clear g))
          | fail
        all_goals (refine resR_one T_ok rfl _ (by (simp only [go_sem, resA]; rfl)) (by first | trivial | (simp only [go_sem, resA])) (by first | trivial | (simp only [go_sem])) ?_; simp only [go_sem])
        exact LeA.i (by rw [hzi])
      | false =>
        repeat' first
          | refine awp_seq ?_
          | refine awp_block ?_
          | refine awp_skip ?_
          | (refine reg _ (by (simp only [List.map_cons, List.map_nil]; rfl)) rfl ?_; intro K hK)
          | (refine awp_cond _ (by rfl) ?_ ?_ <;> (intro hb; first | (cases hb; done) | (have ht : true = true := hb; clear ht hb) | (have ht : false = false := hb; clear ht hb) | (simp only [hb]) | skip))
          | (refine awp_exit ?_; simp only [thenA, blockA, scopeA, reduceIte, RetQ, Nat.reduceEqDiff])
          | (refine awp_ret ?_; simp only [thenA, blockA, scopeA, RetQ])
          | (refine ev_nil (hK _ ?_); clear hK K)
          | (apply ev_guardU; (case hj | hu | hσ => (simp only [go_sem, d1, d2]; try rfl)))
          | (refine ev_guardT _ _ (by (simp only [go_sem, d1, d2]; rfl)) (by (simp only [go_sem, d1, d2]; rfl)) ?_ ?_ <;> (intro hb; first | (cases hb; done) | (have ht : true = true := hb; clear ht hb) | (have ht : false = false := hb; clear ht hb) | (simp only [hb]) | skip))
          | (refine ev_guardF _ _ (by (simp only [go_sem, d1, d2]; rfl)) (by (simp only [go_sem, d1, d2]; rfl)) ?_ ?_ <;> (intro hb; first | (cases hb; done) | (have ht : true = true := hb; clear ht hb) | (have ht : false = false := hb; clear ht hb) | (simp only [hb]) | skip))
          | (apply ev_call0; (case hys => (simp only [go_sem, d1, d2]; try rfl)); (case hs => first | exact h67 ..); (case hok | hσ => (simp only [go_sem, d1, d2]; try rfl)))
          | (apply ev_step0; (case hr | hσ => (simp only [go_sem, d1, d2]; try rfl)); (case hc => (first | trivial | decide | (simp only [inB, sliceOk, appendOk, rowsOk]; omega) | (simp [inB, sliceOk, appendOk, rowsOk]; omega))))
          | (apply ev_step; (case hr => (simp only [go_sem, d1, d2]; try rfl)); (case hσ => (intro g u; simp only [go_sem, d1, d2]; try rfl)); (case hc => (first | trivial | decide | (simp only [inB, sliceOk, appendOk, rowsOk]; omega) | (simp [inB, sliceOk, appendOk, rowsOk]; omega))); intro g u; (try clear u); (try clear g))
          | fail
        all_goals (refine resR_one T_ok rfl _ (by (simp only [go_sem, resA]; rfl)) (by first | trivial | (simp only [go_sem, resA])) (by first | trivial | (simp only [go_sem])) ?_; simp only [go_sem])
        exact LeA.i (by rw [hzi])
    · have d2 : ((e : Int) == (i : Int)) = false := by simp; omega
      cases b1 with
      | true =>
        have hlt : e < s.size := by have := of_decide_eq_true d1; omega
        generalize (bs s).getD e 0 = y at *
        repeat' first
          | refine awp_seq ?_
          | refine awp_block ?_
          | refine awp_skip ?_
          | (refine reg _ (by (simp only [List.map_cons, List.map_nil]; rfl)) rfl ?_; intro K hK)
          | (refine awp_cond _ (by rfl) ?_ ?_ <;> (intro hb; first | (cases hb; done) | (have ht : true = true := hb; clear ht hb) | (have ht : false = false := hb; clear ht hb) | (simp only [hb]) | skip))
          | (refine awp_exit ?_; simp only [thenA, blockA, scopeA, reduceIte, RetQ, Nat.reduceEqDiff])
          | (refine awp_ret ?_; simp only [thenA, blockA, scopeA, RetQ])
          | (refine ev_nil (hK _ ?_); clear hK K)
          | (apply ev_guardU; (case hj | hu | hσ => (simp only [go_sem, d1, hx, hq2, d2]; try rfl)))
          | (refine ev_guardT _ _ (by (simp only [go_sem, d1, hx, hq2, d2]; rfl)) (by (simp only [go_sem, d1, hx, hq2, d2]; rfl)) ?_ ?_ <;> (intro hb; first | (cases hb; done) | (have ht : true = true := hb; clear ht hb) | (have ht : false = false := hb; clear ht hb) | (simp only [hb]) | skip))
          | (refine ev_guardF _ _ (by (simp only [go_sem, d1, hx, hq2, d2]; rfl)) (by (simp only [go_sem, d1, hx, hq2, d2]; rfl)) ?_ ?_ <;> (intro hb; first | (cases hb; done) | (have ht : true = true := hb; clear ht hb) | (have ht : false = false := hb; clear ht hb) | (simp only [hb]) | skip))
          | (apply ev_call0; (case hys => (simp only [go_sem, d1, hx, hq2, d2]; try rfl)); (case hs => first | exact h67 ..); (case hok | hσ => (simp only [go_sem, d1, hx, hq2, d2]; try rfl)))
          | (apply ev_step0; (case hr | hσ => (simp only [go_sem, d1, hx, hq2, d2]; try rfl)); (case hc => (first | trivial | decide | (simp only [inB, sliceOk, appendOk, rowsOk]; omega) | (simp [inB, sliceOk, appendOk, rowsOk]; omega))))
          | (apply ev_step; (case hr => (simp only [go_sem, d1, hx, hq2, d2]; try rfl)); (case hσ => (intro g u; simp only [go_sem, d1, hx, hq2, d2]; try rfl)); (case hc => (first | trivial | decide | (simp only [inB, sliceOk, appendOk, rowsOk]; omega) | (simp [inB, sliceOk, appendOk, rowsOk]; omega))); intro g u; (try clear u); (try clear g))
          | fail
        refine Exists.intro e ⟨⟨by omega, by omega⟩, by omega, ?_⟩
        refine Wk.mk ?_ ?_
        all_goals (repeat' first | exact trivial | exact LeA.refl _ | exact LeA.any _ | exact LeO.refl _ | exact LeO.no _ | exact LeA.nil _ | exact LeA.nilOwn _ | exact LeO.nil _ _ _ | refine LeO.box ?_ | (refine LeA.i ?_; (first | rfl | (push_cast; rfl) | (rw [wrap_id (by omega)]; push_cast; omega) | (simp [wrap_id]; omega))) | refine ⟨?_, ?_⟩)
      | false =>
        repeat' first
          | refine awp_seq ?_
          | refine awp_block ?_
          | refine awp_skip ?_
          | (refine reg _ (by (simp only [List.map_cons, List.map_nil]; rfl)) rfl ?_; intro K hK)
          | (refine awp_cond _ (by rfl) ?_ ?_ <;> (intro hb; first | (cases hb; done) | (have ht : true = true := hb; clear ht hb) | (have ht : false = false := hb; clear ht hb) | (simp only [hb]) | skip))
          | (refine awp_exit ?_; simp only [thenA, blockA, scopeA, reduceIte, RetQ, Nat.reduceEqDiff])
          | (refine awp_ret ?_; simp only [thenA, blockA, scopeA, RetQ])
          | (refine ev_nil (hK _ ?_); clear hK K)
          | (apply ev_guardU; (case hj | hu | hσ => (simp only [go_sem, d1, d2]; try rfl)))
          | (refine ev_guardT _ _ (by (simp only [go_sem, d1, d2]; rfl)) (by (simp only [go_sem, d1, d2]; rfl)) ?_ ?_ <;> (intro hb; first | (cases hb; done) | (have ht : true = true := hb; clear ht hb) | (have ht : false = false := hb; clear ht hb) | (simp only [hb]) | skip))
          | (refine ev_guardF _ _ (by (simp only [go_sem, d1, d2]; rfl)) (by (simp only [go_sem, d1, d2]; rfl)) ?_ ?_ <;> (intro hb; first | (cases hb; done) | (have ht : true = true := hb; clear ht hb) | (have ht : false = false := hb; clear ht hb) | (simp only [hb]) | skip))
          | (apply ev_call0; (case hys => (simp only [go_sem, d1, d2]; try rfl)); (case hs => first | exact h67 ..); (case hok | hσ => (simp only [go_sem, d1, d2]; try rfl)))
          | (apply ev_step0; (case hr | hσ => (simp only [go_sem, d1, d2]; try rfl)); (case hc => (first | trivial | decide | (simp only [inB, sliceOk, appendOk, rowsOk]; omega) | (simp [inB, sliceOk, appendOk, rowsOk]; omega))))
          | (apply ev_step; (case hr => (simp only [go_sem, d1, d2]; try rfl)); (case hσ => (intro g u; simp only [go_sem, d1, d2]; try rfl)); (case hc => (first | trivial | decide | (simp only [inB, sliceOk, appendOk, rowsOk]; omega) | (simp [inB, sliceOk, appendOk, rowsOk]; omega))); intro g u; (try clear u); (try clear g))
          | fail
        refine Exists.intro e ⟨⟨by omega, by omega⟩, by omega, ?_⟩
        refine Wk.mk ?_ ?_
        all_goals (repeat' first | exact trivial | exact LeA.refl _ | exact LeA.any _ | exact LeO.refl _ | exact LeO.no _ | exact LeA.nil _ | exact LeA.nilOwn _ | exact LeO.nil _ _ _ | refine LeO.box ?_ | (refine LeA.i ?_; (first | rfl | (push_cast; rfl) | (rw [wrap_id (by omega)]; push_cast; omega) | (simp [wrap_id]; omega))) | refine ⟨?_, ?_⟩)
end
section
set_option linter.unusedVariables false
set_option linter.unusedSimpArgs false
open Go.RowKit
attribute [local irreducible] AWp evOps evD
theorem str_cell (s : ByteArray) : (Value.string s).oneCell' = true := rfl
theorem f69_spec (s p : ByteArray) : Spec Try.prog 69 [litS s, litS p] (litB (Go.Lib.hasPrefix (bs s) (bs p))) :=
  Spec.ofCallsL (xs := [.string s, .string p]) ⟨_, Try.func69, by decide, by decide⟩ rfl fun w _ => (Try.strings_HasPrefix s p w).mono fun e w' h => ⟨h.1, 0, h.2⟩
theorem f37_spec (s p : ByteArray) (hs : s.size < 4294967281) : Spec Try.prog 37 [litS s, litS p] (litB (Go.Lib.contains (bs s) (bs p))) :=
  Spec.ofCallsL (xs := [.string s, .string p]) ⟨_, Try.func37, by decide, by decide⟩ rfl fun w hw => (Try.strings_Contains_shaped s p w hw hs).mono fun e w' h => ⟨h.1, 0, h.2⟩
theorem f56_spec (s : ByteArray) (c : UInt8) : Spec Try.prog 56 [litS s, litS ⟨#[c]⟩] (litI .i64 (Go.Lib.countByte (bs s) c : Int)) :=
  Spec.ofCallsL (xs := [.string s, .string ⟨#[c]⟩]) ⟨_, Try.func56, by decide, by decide⟩ rfl fun w _ => (Try.strings_Count_one s c w).mono fun e w' h => ⟨h.1, 0, h.2⟩
theorem f57_spec (s p : ByteArray) (hs : s.size < 4611686018427387904) : Spec Try.prog 57 [litS s, litS p] (litI .i64 (Go.Lib.lastIndex (bs s) (bs p))) :=
  Spec.ofCallsL (xs := [.string s, .string p]) ⟨_, Try.func57, by decide, by decide⟩ rfl fun w _ => (Try.strings_LastIndex s p hs w).mono fun e w' h => ⟨h.1, 0, h.2⟩
theorem f35_spec (s p : ByteArray) (hs : s.size < 4294967281) : Spec Try.prog 35 [litS s, litS p] (.tup [litS ⟨(Go.Lib.cut (bs s) (bs p)).1.toArray⟩, litS ⟨(Go.Lib.cut (bs s) (bs p)).2.1.toArray⟩, litB (Go.Lib.cut (bs s) (bs p)).2.2]) :=
  Spec.ofCalls (xs := [.string s, .string p]) ⟨_, Try.func35, by decide, by decide⟩ (fun m => by
    simp only [Has]
    exact ⟨_, rfl, by simp only [HasL, Has, Rep]; exact ⟨⟨rfl, rfl⟩, ⟨rfl, rfl⟩, ⟨rfl, rfl⟩, trivial⟩⟩) fun w hw => Try.strings_Cut_shaped s p w hw hs
end
section
set_option linter.unusedVariables false
set_option linter.unusedSimpArgs false
open Go.RowKit
attribute [local irreducible] AWp evOps evD
theorem bs_sub (s : ByteArray) (a b : Nat) : bs (s.extract a b) = ((bs s).drop a).take (b - a) := by
  show (s.extract a b).data.toList = _
  rw [ByteArray.data_extract, Array.toList_extract, List.extract_eq_take_drop]
def signN (l : Bs) : Nat := if [60, 61].isPrefixOf l = true then 2 else 1
theorem signN_le {l : Bs} (h : 0 < l.length) : signN l ≤ l.length := by
  unfold signN
  split
  · rename_i hp
    obtain ⟨t, ht⟩ := List.isPrefixOf_iff_prefix.1 hp
    rw [← ht]; simp
  · omega
set_option maxHeartbeats 4000000 in
theorem f52_spec (s : ByteArray) (a : Nat) (hs : s.size ≤ 4611686018427387904) (ha : a < s.size) : Spec Try.prog 52 [litS s, litI .i64 (a : Int)] (.tup [litS (subS s a (a + signN ((bs s).drop a))), litI .i64 ((a + signN ((bs s).drop a) : Nat) : Int)]) := by
  have hl := bs_len s
  have h69 := f69_spec (s.extract a s.size) ⟨#[60, 61]⟩
  have he : bs (s.extract a s.size) = (bs s).drop a := by
    rw [bs_sub, List.take_of_length_le (by rw [List.length_drop]; omega)]
  have hp : Go.Lib.hasPrefix (bs (s.extract a s.size)) (bs ⟨#[60, 61]⟩) = [60, 61].isPrefixOf ((bs s).drop a) := by rw [he]; rfl
  rw [hp] at h69
  have hle := signN_le (l := (bs s).drop a) (by rw [List.length_drop]; omega)
  rw [List.length_drop] at hle
  unfold signN at hle ⊢
  have w1 : IntKind.i64.wrap ((a : Int) + 1) = ((a + 1 : Nat) : Int) := by rw [wrap_id (by omega)]; push_cast; rfl
  have w2 : IntKind.i64.wrap (((a + 1 : Nat) : Int) + 1) = ((a + 2 : Nat) : Int) := by rw [wrap_id (by omega)]; push_cast; omega
  cases hq : [60, 61].isPrefixOf ((bs s).drop a) with
  | true =>
    rw [hq, if_pos rfl] at hle
    rw [hq] at h69
    simp only [if_true]
    refine spec_of_awp (fn := Try.f52) Try.func52 (by kernel_rfl) rfl ?_
    intro w0 C0
    simp only [Try.ntmps52, litI, litB, litS, List.length_cons, List.length_nil, Nat.reduceAdd, Nat.reduceSub, List.replicate_succ, List.replicate_zero, List.cons_append, List.nil_append]
    repeat' first
      | refine awp_seq ?_
      | refine awp_block ?_
      | refine awp_skip ?_
      | (refine reg _ (by (simp only [List.map_cons, List.map_nil]; rfl)) rfl ?_; intro K hK)
      | (refine awp_cond _ (by rfl) ?_ ?_ <;> (intro hb; first | (cases hb; done) | (have ht : true = true := hb; clear ht hb) | (have ht : false = false := hb; clear ht hb) | (simp only [hb]) | skip))
      | (refine awp_exit ?_; simp only [thenA, blockA, scopeA, reduceIte, RetQ, Nat.reduceEqDiff])
      | (refine awp_ret ?_; simp only [thenA, blockA, scopeA, RetQ])
      | (refine ev_nil (hK _ ?_); clear hK K)
      | (apply ev_call0; (case hys => (simp only [go_sem, w1, w2]; try rfl)); (case hs => first | exact h69 ..); (case hok | hσ => (simp only [go_sem, w1, w2]; try rfl)))
      | (apply ev_step0; (case hr | hσ => (simp only [go_sem, w1, w2]; try rfl)); (case hc => (first | trivial | decide | (simp only [inB, sliceOk, appendOk, rowsOk]; omega) | (simp [inB, sliceOk, appendOk, rowsOk]; omega))))
      | (apply ev_step; (case hr => (simp only [go_sem, w1, w2]; try rfl)); (case hσ => (intro g u; simp only [go_sem, w1, w2]; try rfl)); (case hc => (first | trivial | decide | (simp only [inB, sliceOk, appendOk, rowsOk]; omega) | (simp [inB, sliceOk, appendOk, rowsOk]; omega))); intro g u; (try clear u); (try clear g))
      | fail
    all_goals (refine resR_more T_ok rfl (by decide) _ (by (simp only [go_sem, resA]; rfl)) (by (intro rv hrv; simp only [List.mem_cons, List.not_mem_nil, or_false] at hrv; rcases hrv with rfl | rfl <;> first | trivial | simp only [go_sem, resA])) (by first | trivial | (simp only [go_sem])) ?_; simp only [go_sem])
    exact ⟨LeA.refl _, LeA.refl _, trivial⟩
  | false =>
    rw [hq, if_neg Bool.false_ne_true] at hle
    rw [hq] at h69
    simp only [Bool.false_eq_true, if_false]
    refine spec_of_awp (fn := Try.f52) Try.func52 (by kernel_rfl) rfl ?_
    intro w0 C0
    simp only [Try.ntmps52, litI, litB, litS, List.length_cons, List.length_nil, Nat.reduceAdd, Nat.reduceSub, List.replicate_succ, List.replicate_zero, List.cons_append, List.nil_append]
    repeat' first
      | refine awp_seq ?_
      | refine awp_block ?_
      | refine awp_skip ?_
      | (refine reg _ (by (simp only [List.map_cons, List.map_nil]; rfl)) rfl ?_; intro K hK)
      | (refine awp_cond _ (by rfl) ?_ ?_ <;> (intro hb; first | (cases hb; done) | (have ht : true = true := hb; clear ht hb) | (have ht : false = false := hb; clear ht hb) | (simp only [hb]) | skip))
      | (refine awp_exit ?_; simp only [thenA, blockA, scopeA, reduceIte, RetQ, Nat.reduceEqDiff])
      | (refine awp_ret ?_; simp only [thenA, blockA, scopeA, RetQ])
      | (refine ev_nil (hK _ ?_); clear hK K)
      | (apply ev_call0; (case hys => (simp only [go_sem, w1, w2]; try rfl)); (case hs => first | exact h69 ..); (case hok | hσ => (simp only [go_sem, w1, w2]; try rfl)))
      | (apply ev_step0; (case hr | hσ => (simp only [go_sem, w1, w2]; try rfl)); (case hc => (first | trivial | decide | (simp only [inB, sliceOk, appendOk, rowsOk]; omega) | (simp [inB, sliceOk, appendOk, rowsOk]; omega))))
      | (apply ev_step; (case hr => (simp only [go_sem, w1, w2]; try rfl)); (case hσ => (intro g u; simp only [go_sem, w1, w2]; try rfl)); (case hc => (first | trivial | decide | (simp only [inB, sliceOk, appendOk, rowsOk]; omega) | (simp [inB, sliceOk, appendOk, rowsOk]; omega))); intro g u; (try clear u); (try clear g))
      | fail
    all_goals (refine resR_more T_ok rfl (by decide) _ (by (simp only [go_sem, resA]; rfl)) (by (intro rv hrv; simp only [List.mem_cons, List.not_mem_nil, or_false] at hrv; rcases hrv with rfl | rfl <;> first | trivial | simp only [go_sem, resA])) (by first | trivial | (simp only [go_sem])) ?_; simp only [go_sem])
    exact ⟨LeA.refl _, LeA.refl _, trivial⟩
end
section
set_option linter.unusedVariables false
set_option linter.unusedSimpArgs false
open Go.RowKit
attribute [local irreducible] AWp evOps evD
theorem str_empty (s : ByteArray) : (s.toList == ByteArray.toList ⟨#[]⟩) = decide (s.size = 0) := by
  have e : ByteArray.toList ⟨#[]⟩ = [] := by rw [ByteArray.toList_eq]
  rw [e, ByteArray.toList_eq, Bool.eq_iff_iff, beq_iff_eq, decide_eq_true_eq, ← List.length_eq_zero_iff, show s.data.toList.length = s.size from bs_len s]
abbrev tokA (k : Int) (s : ByteArray) (a : Int) : List AV := [litI .i64 k, litS s, litI .i64 a]
def validZ (k : Int) (c : Bs) : Bool := validB k.toNat c
theorem plain_print (c : Bs) : plainB c = c.all printB := rfl
set_option maxHeartbeats 8000000 in
set_option maxRecDepth 10000 in
theorem f14_word (s : ByteArray) (a : Int) (hs : s.size ≤ 1000000) : Spec Try.prog 14 [.agg (tokA 1 s a)] (litB (validB 1 (bs s))) := by
  have hl := bs_len s
  have he := str_empty s
  have h31 := f31_spec ((bs s).getD 0 0)
  have h32 := f32_spec (IsFn.lit 33) s wordB (by omega) (fun b => f33_spec b)
  have hx : byteAt s 0 = (((bs s).getD 0 0).toNat : Int) := rfl
  have hv : validB 1 (bs s) = (letterB ((bs s).getD 0 0) && ((bs s).all wordB && decide (s.size ≤ 16))) := by
    show (letterB _ && (decide _ && decide _)) = _
    rw [hl]
    congr 2
    rw [Bool.eq_iff_iff, decide_eq_true_eq, ← hl, runN_eq_all]
  by_cases h0 : s.size = 0
  · rw [decide_eq_true h0] at he
    have : validB 1 (bs s) = false := by rw [hv, getD_out (by omega), letter0]; rfl
    rw [this]
    refine spec_of_awp (fn := Try.f14) Try.func14 (by kernel_rfl) rfl ?_
    intro w0 C0
    simp only [Try.ntmps14, litI, litB, litS, List.length_cons, List.length_nil, Nat.reduceAdd, Nat.reduceSub, List.replicate_succ, List.replicate_zero, List.cons_append, List.nil_append]
    repeat' first
      | refine awp_seq ?_
      | refine awp_block ?_
      | refine awp_skip ?_
      | (refine reg _ (by (simp only [List.map_cons, List.map_nil]; rfl)) rfl ?_; intro K hK)
      | (refine awp_cond _ (by rfl) ?_ ?_ <;> (intro hb; first | (cases hb; done) | (have ht : true = true := hb; clear ht hb) | (have ht : false = false := hb; clear ht hb) | (simp only [hb]) | skip))
      | (refine awp_exit ?_; simp only [thenA, blockA, scopeA, reduceIte, RetQ, Nat.reduceEqDiff])
      | (refine awp_ret ?_; simp only [thenA, blockA, scopeA, RetQ])
      | (refine ev_nil (hK _ ?_); clear hK K)
      | (apply ev_guardU; (case hj | hu | hσ => (simp only [go_sem, he]; try rfl)))
      | (refine ev_guardT _ _ (by (simp only [go_sem, he]; rfl)) (by (simp only [go_sem, he]; rfl)) ?_ ?_ <;> (intro hb; first | (cases hb; done) | (have ht : true = true := hb; clear ht hb) | (have ht : false = false := hb; clear ht hb) | (simp only [hb]) | skip))
      | (refine ev_guardF _ _ (by (simp only [go_sem, he]; rfl)) (by (simp only [go_sem, he]; rfl)) ?_ ?_ <;> (intro hb; first | (cases hb; done) | (have ht : true = true := hb; clear ht hb) | (have ht : false = false := hb; clear ht hb) | (simp only [hb]) | skip))
      | (apply ev_step0; (case hr | hσ => (simp only [go_sem, he]; try rfl)); (case hc => (first | trivial | decide | (simp only [inB, sliceOk, appendOk, rowsOk]; omega) | (simp [inB, sliceOk, appendOk, rowsOk]; omega))))
      | (apply ev_step; (case hr => (simp only [go_sem, he]; try rfl)); (case hσ => (intro g u; simp only [go_sem, he]; try rfl)); (case hc => (first | trivial | decide | (simp only [inB, sliceOk, appendOk, rowsOk]; omega) | (simp [inB, sliceOk, appendOk, rowsOk]; omega))); intro g u; (try clear u); (try clear g))
      | fail
    all_goals (refine resR_one T_ok rfl _ (by (simp only [go_sem, resA]; rfl)) (by first | trivial | (simp only [go_sem, resA])) (by first | trivial | (simp only [go_sem])) ?_; simp only [go_sem])
    exact LeA.refl _
  rw [decide_eq_false h0] at he
  by_cases h1 : s.size ≤ 16
  · have d1 : decide ((s.size : Int) ≤ 16) = true := decide_eq_true (by omega)
    rw [hv, decide_eq_true h1, Bool.and_true]
    generalize (bs s).getD 0 0 = y at *
    generalize (bs s).all wordB = b4 at *
    cases hq : letterB y
    all_goals
      rw [hq] at h31
      simp only [Bool.false_and, Bool.true_and]
      refine spec_of_awp (fn := Try.f14) Try.func14 (by kernel_rfl) rfl ?_
      intro w0 C0
      simp only [Try.ntmps14, litI, litB, litS, List.length_cons, List.length_nil, Nat.reduceAdd, Nat.reduceSub, List.replicate_succ, List.replicate_zero, List.cons_append, List.nil_append]
      repeat' first
        | refine awp_seq ?_
        | refine awp_block ?_
        | refine awp_skip ?_
        | (refine reg _ (by (simp only [List.map_cons, List.map_nil]; rfl)) rfl ?_; intro K hK)
        | (refine awp_cond _ (by rfl) ?_ ?_ <;> (intro hb; first | (cases hb; done) | (have ht : true = true := hb; clear ht hb) | (have ht : false = false := hb; clear ht hb) | (simp only [hb]) | skip))
        | (refine awp_exit ?_; simp only [thenA, blockA, scopeA, reduceIte, RetQ, Nat.reduceEqDiff])
        | (refine awp_ret ?_; simp only [thenA, blockA, scopeA, RetQ])
        | (refine ev_nil (hK _ ?_); clear hK K)
        | (apply ev_guardU; (case hj | hu | hσ => (simp only [go_sem, he, d1, hx]; try rfl)))
        | (refine ev_guardT _ _ (by (simp only [go_sem, he, d1, hx]; rfl)) (by (simp only [go_sem, he, d1, hx]; rfl)) ?_ ?_ <;> (intro hb; first | (cases hb; done) | (have ht : true = true := hb; clear ht hb) | (have ht : false = false := hb; clear ht hb) | (simp only [hb]) | skip))
        | (refine ev_guardF _ _ (by (simp only [go_sem, he, d1, hx]; rfl)) (by (simp only [go_sem, he, d1, hx]; rfl)) ?_ ?_ <;> (intro hb; first | (cases hb; done) | (have ht : true = true := hb; clear ht hb) | (have ht : false = false := hb; clear ht hb) | (simp only [hb]) | skip))
        | (apply ev_call0; (case hys => (simp only [go_sem, he, d1, hx]; try rfl)); (case hs => first | exact h31 .. | exact h32 ..); (case hok | hσ => (simp only [go_sem, he, d1, hx]; try rfl)))
        | (apply ev_step0; (case hr | hσ => (simp only [go_sem, he, d1, hx]; try rfl)); (case hc => (first | trivial | decide | (simp only [inB, sliceOk, appendOk, rowsOk]; omega) | (simp [inB, sliceOk, appendOk, rowsOk]; omega))))
        | (apply ev_step; (case hr => (simp only [go_sem, he, d1, hx]; try rfl)); (case hσ => (intro g u; simp only [go_sem, he, d1, hx]; try rfl)); (case hc => (first | trivial | decide | (simp only [inB, sliceOk, appendOk, rowsOk]; omega) | (simp [inB, sliceOk, appendOk, rowsOk]; omega))); intro g u; (try clear u); (try clear g))
        | fail
      all_goals (refine resR_one T_ok rfl _ (by (simp only [go_sem, resA]; rfl)) (by first | trivial | (simp only [go_sem, resA])) (by first | trivial | (simp only [go_sem])) ?_; simp only [go_sem])
      exact LeA.refl _
  · have d1 : decide ((s.size : Int) ≤ 16) = false := decide_eq_false (by omega)
    rw [hv, decide_eq_false h1, Bool.and_false, Bool.and_false]
    refine spec_of_awp (fn := Try.f14) Try.func14 (by kernel_rfl) rfl ?_
    intro w0 C0
    simp only [Try.ntmps14, litI, litB, litS, List.length_cons, List.length_nil, Nat.reduceAdd, Nat.reduceSub, List.replicate_succ, List.replicate_zero, List.cons_append, List.nil_append]
    repeat' first
      | refine awp_seq ?_
      | refine awp_block ?_
      | refine awp_skip ?_
      | (refine reg _ (by (simp only [List.map_cons, List.map_nil]; rfl)) rfl ?_; intro K hK)
      | (refine awp_cond _ (by rfl) ?_ ?_ <;> (intro hb; first | (cases hb; done) | (have ht : true = true := hb; clear ht hb) | (have ht : false = false := hb; clear ht hb) | (simp only [hb]) | skip))
      | (refine awp_exit ?_; simp only [thenA, blockA, scopeA, reduceIte, RetQ, Nat.reduceEqDiff])
      | (refine awp_ret ?_; simp only [thenA, blockA, scopeA, RetQ])
      | (refine ev_nil (hK _ ?_); clear hK K)
      | (apply ev_guardU; (case hj | hu | hσ => (simp only [go_sem, he, d1]; try rfl)))
      | (refine ev_guardT _ _ (by (simp only [go_sem, he, d1]; rfl)) (by (simp only [go_sem, he, d1]; rfl)) ?_ ?_ <;> (intro hb; first | (cases hb; done) | (have ht : true = true := hb; clear ht hb) | (have ht : false = false := hb; clear ht hb) | (simp only [hb]) | skip))
      | (refine ev_guardF _ _ (by (simp only [go_sem, he, d1]; rfl)) (by (simp only [go_sem, he, d1]; rfl)) ?_ ?_ <;> (intro hb; first | (cases hb; done) | (have ht : true = true := hb; clear ht hb) | (have ht : false = false := hb; clear ht hb) | (simp only [hb]) | skip))
      | (apply ev_step0; (case hr | hσ => (simp only [go_sem, he, d1]; try rfl)); (case hc => (first | trivial | decide | (simp only [inB, sliceOk, appendOk, rowsOk]; omega) | (simp [inB, sliceOk, appendOk, rowsOk]; omega))))
      | (apply ev_step; (case hr => (simp only [go_sem, he, d1]; try rfl)); (case hσ => (intro g u; simp only [go_sem, he, d1]; try rfl)); (case hc => (first | trivial | decide | (simp only [inB, sliceOk, appendOk, rowsOk]; omega) | (simp [inB, sliceOk, appendOk, rowsOk]; omega))); intro g u; (try clear u); (try clear g))
      | fail
    all_goals (refine resR_one T_ok rfl _ (by (simp only [go_sem, resA]; rfl)) (by first | trivial | (simp only [go_sem, resA])) (by first | trivial | (simp only [go_sem])) ?_; simp only [go_sem])
    exact LeA.refl _
set_option maxHeartbeats 8000000 in
set_option maxRecDepth 10000 in
theorem f14_text (s : ByteArray) (a : Int) (hs : s.size ≤ 1000000) : Spec Try.prog 14 [.agg (tokA 3 s a)] (litB (validB 3 (bs s))) := by
  have hl := bs_len s
  have h32 := f32_spec (IsFn.lit 36) s printB (by omega) (fun b => f36_spec b)
  have hv : validB 3 (bs s) = (decide (s.size ≤ 40) && (bs s).all printB) := by
    show (decide _ && plainB _) = _
    rw [hl]; rfl
  rw [hv]
  generalize (bs s).all printB = b4 at *
  by_cases h1 : s.size ≤ 40
  · have d1 : decide ((s.size : Int) ≤ 40) = true := decide_eq_true (by omega)
    rw [decide_eq_true h1, Bool.true_and]
    refine spec_of_awp (fn := Try.f14) Try.func14 (by kernel_rfl) rfl ?_
    intro w0 C0
    simp only [Try.ntmps14, litI, litB, litS, List.length_cons, List.length_nil, Nat.reduceAdd, Nat.reduceSub, List.replicate_succ, List.replicate_zero, List.cons_append, List.nil_append]
    repeat' first
      | refine awp_seq ?_
      | refine awp_block ?_
      | refine awp_skip ?_
      | (refine reg _ (by (simp only [List.map_cons, List.map_nil]; rfl)) rfl ?_; intro K hK)
      | (refine awp_cond _ (by rfl) ?_ ?_ <;> (intro hb; first | (cases hb; done) | (have ht : true = true := hb; clear ht hb) | (have ht : false = false := hb; clear ht hb) | (simp only [hb]) | skip))
      | (refine awp_exit ?_; simp only [thenA, blockA, scopeA, reduceIte, RetQ, Nat.reduceEqDiff])
      | (refine awp_ret ?_; simp only [thenA, blockA, scopeA, RetQ])
      | (refine ev_nil (hK _ ?_); clear hK K)
      | (apply ev_guardU; (case hj | hu | hσ => (simp only [go_sem, d1]; try rfl)))
      | (refine ev_guardT _ _ (by (simp only [go_sem, d1]; rfl)) (by (simp only [go_sem, d1]; rfl)) ?_ ?_ <;> (intro hb; first | (cases hb; done) | (have ht : true = true := hb; clear ht hb) | (have ht : false = false := hb; clear ht hb) | (simp only [hb]) | skip))
      | (refine ev_guardF _ _ (by (simp only [go_sem, d1]; rfl)) (by (simp only [go_sem, d1]; rfl)) ?_ ?_ <;> (intro hb; first | (cases hb; done) | (have ht : true = true := hb; clear ht hb) | (have ht : false = false := hb; clear ht hb) | (simp only [hb]) | skip))
      | (apply ev_call0; (case hys => (simp only [go_sem, d1]; try rfl)); (case hs => first | exact h32 ..); (case hok | hσ => (simp only [go_sem, d1]; try rfl)))
      | (apply ev_step0; (case hr | hσ => (simp only [go_sem, d1]; try rfl)); (case hc => (first | trivial | decide | (simp only [inB, sliceOk, appendOk, rowsOk]; omega) | (simp [inB, sliceOk, appendOk, rowsOk]; omega))))
      | (apply ev_step; (case hr => (simp only [go_sem, d1]; try rfl)); (case hσ => (intro g u; simp only [go_sem, d1]; try rfl)); (case hc => (first | trivial | decide | (simp only [inB, sliceOk, appendOk, rowsOk]; omega) | (simp [inB, sliceOk, appendOk, rowsOk]; omega))); intro g u; (try clear u); (try clear g))
      | fail
    all_goals (refine resR_one T_ok rfl _ (by (simp only [go_sem, resA]; rfl)) (by first | trivial | (simp only [go_sem, resA])) (by first | trivial | (simp only [go_sem])) ?_; simp only [go_sem])
    exact LeA.refl _
  · have d1 : decide ((s.size : Int) ≤ 40) = false := decide_eq_false (by omega)
    rw [decide_eq_false h1, Bool.false_and]
    refine spec_of_awp (fn := Try.f14) Try.func14 (by kernel_rfl) rfl ?_
    intro w0 C0
    simp only [Try.ntmps14, litI, litB, litS, List.length_cons, List.length_nil, Nat.reduceAdd, Nat.reduceSub, List.replicate_succ, List.replicate_zero, List.cons_append, List.nil_append]
    repeat' first
      | refine awp_seq ?_
      | refine awp_block ?_
      | refine awp_skip ?_
      | (refine reg _ (by (simp only [List.map_cons, List.map_nil]; rfl)) rfl ?_; intro K hK)
      | (refine awp_cond _ (by rfl) ?_ ?_ <;> (intro hb; first | (cases hb; done) | (have ht : true = true := hb; clear ht hb) | (have ht : false = false := hb; clear ht hb) | (simp only [hb]) | skip))
      | (refine awp_exit ?_; simp only [thenA, blockA, scopeA, reduceIte, RetQ, Nat.reduceEqDiff])
      | (refine awp_ret ?_; simp only [thenA, blockA, scopeA, RetQ])
      | (refine ev_nil (hK _ ?_); clear hK K)
      | (apply ev_guardU; (case hj | hu | hσ => (simp only [go_sem, d1]; try rfl)))
      | (refine ev_guardT _ _ (by (simp only [go_sem, d1]; rfl)) (by (simp only [go_sem, d1]; rfl)) ?_ ?_ <;> (intro hb; first | (cases hb; done) | (have ht : true = true := hb; clear ht hb) | (have ht : false = false := hb; clear ht hb) | (simp only [hb]) | skip))
      | (refine ev_guardF _ _ (by (simp only [go_sem, d1]; rfl)) (by (simp only [go_sem, d1]; rfl)) ?_ ?_ <;> (intro hb; first | (cases hb; done) | (have ht : true = true := hb; clear ht hb) | (have ht : false = false := hb; clear ht hb) | (simp only [hb]) | skip))
      | (apply ev_step0; (case hr | hσ => (simp only [go_sem, d1]; try rfl)); (case hc => (first | trivial | decide | (simp only [inB, sliceOk, appendOk, rowsOk]; omega) | (simp [inB, sliceOk, appendOk, rowsOk]; omega))))
      | (apply ev_step; (case hr => (simp only [go_sem, d1]; try rfl)); (case hσ => (intro g u; simp only [go_sem, d1]; try rfl)); (case hc => (first | trivial | decide | (simp only [inB, sliceOk, appendOk, rowsOk]; omega) | (simp [inB, sliceOk, appendOk, rowsOk]; omega))); intro g u; (try clear u); (try clear g))
      | fail
    all_goals (refine resR_one T_ok rfl _ (by (simp only [go_sem, resA]; rfl)) (by first | trivial | (simp only [go_sem, resA])) (by first | trivial | (simp only [go_sem])) ?_; simp only [go_sem])
    exact LeA.refl _
set_option maxHeartbeats 8000000 in
theorem f14_none (k : Int) (s : ByteArray) (a : Int) (hk : k ≠ 1 ∧ k ≠ 2 ∧ k ≠ 3 ∧ k ≠ 4) : Spec Try.prog 14 [.agg (tokA k s a)] (litB false) := by
  have d1 : (k == 1) = false := by simpa using hk.1
  have d2 : (k == 2) = false := by simpa using hk.2.1
  have d3 : (k == 3) = false := by simpa using hk.2.2.1
  have d4 : (k == 4) = false := by simpa using hk.2.2.2
  refine spec_of_awp (fn := Try.f14) Try.func14 (by kernel_rfl) rfl ?_
  intro w0 C0
  simp only [Try.ntmps14, litI, litB, litS, List.length_cons, List.length_nil, Nat.reduceAdd, Nat.reduceSub, List.replicate_succ, List.replicate_zero, List.cons_append, List.nil_append]
  repeat' first
    | refine awp_seq ?_
    | refine awp_block ?_
    | refine awp_skip ?_
    | (refine reg _ (by (simp only [List.map_cons, List.map_nil]; rfl)) rfl ?_; intro K hK)
    | (refine awp_cond _ (by rfl) ?_ ?_ <;> (intro hb; first | (cases hb; done) | (have ht : true = true := hb; clear ht hb) | (have ht : false = false := hb; clear ht hb) | (simp only [hb]) | skip))
    | (refine awp_exit ?_; simp only [thenA, blockA, scopeA, reduceIte, RetQ, Nat.reduceEqDiff])
    | (refine awp_ret ?_; simp only [thenA, blockA, scopeA, RetQ])
    | (refine ev_nil (hK _ ?_); clear hK K)
    | (apply ev_guardU; (case hj | hu | hσ => (simp only [go_sem, d1, d2, d3, d4]; try rfl)))
    | (refine ev_guardT _ _ (by (simp only [go_sem, d1, d2, d3, d4]; rfl)) (by (simp only [go_sem, d1, d2, d3, d4]; rfl)) ?_ ?_ <;> (intro hb; first | (cases hb; done) | (have ht : true = true := hb; clear ht hb) | (have ht : false = false := hb; clear ht hb) | (simp only [hb]) | skip))
    | (refine ev_guardF _ _ (by (simp only [go_sem, d1, d2, d3, d4]; rfl)) (by (simp only [go_sem, d1, d2, d3, d4]; rfl)) ?_ ?_ <;> (intro hb; first | (cases hb; done) | (have ht : true = true := hb; clear ht hb) | (have ht : false = false := hb; clear ht hb) | (simp only [hb]) | skip))
    | (apply ev_step0; (case hr | hσ => (simp only [go_sem, d1, d2, d3, d4]; try rfl)); (case hc => (first | trivial | decide | (simp only [inB, sliceOk, appendOk, rowsOk]; omega) | (simp [inB, sliceOk, appendOk, rowsOk]; omega))))
    | (apply ev_step; (case hr => (simp only [go_sem, d1, d2, d3, d4]; try rfl)); (case hσ => (intro g u; simp only [go_sem, d1, d2, d3, d4]; try rfl)); (case hc => (first | trivial | decide | (simp only [inB, sliceOk, appendOk, rowsOk]; omega) | (simp [inB, sliceOk, appendOk, rowsOk]; omega))); intro g u; (try clear u); (try clear g))
    | fail
  all_goals (refine resR_one T_ok rfl _ (by (simp only [go_sem, resA]; rfl)) (by first | trivial | (simp only [go_sem, resA])) (by first | trivial | (simp only [go_sem])) ?_; simp only [go_sem])
  exact LeA.refl _
end
section
set_option linter.unusedVariables false
set_option linter.unusedSimpArgs false
open Go.RowKit
attribute [local irreducible] AWp evOps evD
theorem bs_app (a b : ByteArray) : bs (a ++ b) = bs a ++ bs b := by
  show (a ++ b).data.toList = _
  rw [ByteArray.data_append, Array.toList_append]
set_option maxHeartbeats 8000000 in
set_option maxRecDepth 10000 in
theorem f14_sign (s : ByteArray) (a : Int) (hs : s.size ≤ 1000000) : Spec Try.prog 14 [.agg (tokA 4 s a)] (litB (validB 4 (bs s))) := by
  have hl := bs_len s
  have he := str_empty s
  have h1 := f37_spec s ⟨#[32]⟩ (by omega)
  have h2 := f37_spec ⟨#[32, 40, 32, 41, 32, 44, 32, 59, 32, 58, 32, 46, 32, 61, 32, 60, 32, 60, 61, 32, 43, 32, 45, 32, 42, 32]⟩ (⟨#[32]⟩ ++ s ++ ⟨#[32]⟩) (by decide)
  have hz1 : (⟨#[32]⟩ : ByteArray).size = 1 := rfl
  have hz2 : (⟨#[32]⟩ ++ s : ByteArray).size = 1 + s.size := by rw [ByteArray.size_append]; rfl
  have e1 : bs (⟨#[32]⟩ ++ s ++ ⟨#[32]⟩) = 32 :: (bs s ++ [32]) := by rw [bs_app, bs_app]; rfl
  have e2 : bs ⟨#[32, 40, 32, 41, 32, 44, 32, 59, 32, 58, 32, 46, 32, 61, 32, 60, 32, 60, 61, 32, 43, 32, 45, 32, 42, 32]⟩ = signsS := rfl
  have e3 : bs ⟨#[32]⟩ = [32] := rfl
  rw [e1, e2] at h2
  rw [e3] at h1
  have hv := sign_lib (bs s)
  obtain ⟨n0, h0⟩ : ∃ b, decide (s.size = 0) = b := ⟨_, rfl⟩
  rw [h0] at he
  have hne : (bs s ≠ []) ↔ n0 = false := by
    rw [← h0, decide_eq_false_iff_not, ← hl, List.length_eq_zero_iff]
  rw [hne] at hv
  generalize Go.Lib.contains (bs s) [32] = q1 at *
  generalize Go.Lib.contains signsS (32 :: (bs s ++ [32])) = q2 at *
  generalize validB 4 (bs s) = v at *
  have hvv : v = (!n0 && (!q1 && q2)) := by
    rw [Bool.eq_iff_iff, ← hv]; simp
  subst hvv
  cases n0
  all_goals
    cases q1
    all_goals
      simp only [Bool.not_false, Bool.not_true, Bool.true_and, Bool.false_and]
      refine spec_of_awp (fn := Try.f14) Try.func14 (by kernel_rfl) rfl ?_
      intro w0 C0
      simp only [Try.ntmps14, litI, litB, litS, List.length_cons, List.length_nil, Nat.reduceAdd, Nat.reduceSub, List.replicate_succ, List.replicate_zero, List.cons_append, List.nil_append]
      repeat' first
        | refine awp_seq ?_
        | refine awp_block ?_
        | refine awp_skip ?_
        | (refine reg _ (by (simp only [List.map_cons, List.map_nil]; rfl)) rfl ?_; intro K hK)
        | (refine awp_cond _ (by rfl) ?_ ?_ <;> (intro hb; first | (cases hb; done) | (have ht : true = true := hb; clear ht hb) | (have ht : false = false := hb; clear ht hb) | (simp only [hb]) | skip))
        | (refine awp_exit ?_; simp only [thenA, blockA, scopeA, reduceIte, RetQ, Nat.reduceEqDiff])
        | (refine awp_ret ?_; simp only [thenA, blockA, scopeA, RetQ])
        | (refine ev_nil (hK _ ?_); clear hK K)
        | (apply ev_guardU; (case hj | hu | hσ => (simp only [go_sem, he]; try rfl)))
        | (refine ev_guardT _ _ (by (simp only [go_sem, he]; rfl)) (by (simp only [go_sem, he]; rfl)) ?_ ?_ <;> (intro hb; first | (cases hb; done) | (have ht : true = true := hb; clear ht hb) | (have ht : false = false := hb; clear ht hb) | (simp only [hb]) | skip))
        | (refine ev_guardF _ _ (by (simp only [go_sem, he]; rfl)) (by (simp only [go_sem, he]; rfl)) ?_ ?_ <;> (intro hb; first | (cases hb; done) | (have ht : true = true := hb; clear ht hb) | (have ht : false = false := hb; clear ht hb) | (simp only [hb]) | skip))
        | (apply ev_call0; (case hys => (simp only [go_sem, he]; try rfl)); (case hs => first | exact h1 .. | exact h2 ..); (case hok | hσ => (simp only [go_sem, he]; try rfl)))
        | (apply ev_step0; (case hr | hσ => (simp only [go_sem, he]; try rfl)); (case hc => (first | trivial | decide | (simp only [inB, sliceOk, appendOk, rowsOk]; omega) | (simp [inB, sliceOk, appendOk, rowsOk]; omega))))
        | (apply ev_step; (case hr => (simp only [go_sem, he]; try rfl)); (case hσ => (intro g u; simp only [go_sem, he]; try rfl)); (case hc => (first | trivial | decide | (simp only [inB, sliceOk, appendOk, rowsOk]; omega) | (simp [inB, sliceOk, appendOk, rowsOk]; omega))); intro g u; (try clear u); (try clear g))
        | fail
      all_goals (refine resR_one T_ok rfl _ (by (simp only [go_sem, resA]; rfl)) (by first | trivial | (simp only [go_sem, resA])) (by first | trivial | (simp only [go_sem])) ?_; simp only [go_sem])
      exact LeA.refl _
theorem numP_cut (c : Bs) : numP c = (decide (c.length ≤ 40) && (!(Go.Lib.cut c [46]).1.isEmpty && ((Go.Lib.cut c [46]).1.all digitB && (!(Go.Lib.cut c [46]).2.2 || (!(Go.Lib.cut c [46]).2.1.isEmpty && (Go.Lib.cut c [46]).2.1.all digitB))))) := by
  have hle := runN_le dotB c
  rw [cut_dot]
  unfold numP
  dsimp only
  by_cases h : runN dotB c < c.length
  · rw [if_pos h, decide_eq_false (p := runN dotB c = c.length) (by omega)]; rfl
  · rw [if_neg h, decide_eq_true (p := runN dotB c = c.length) (by omega), List.take_of_length_le (by omega)]; rfl
theorem isEmpty_size (w : Bs) : ((⟨w.toArray⟩ : ByteArray).toList == ByteArray.toList ⟨#[]⟩) = w.isEmpty := by
  rw [str_empty, Bool.eq_iff_iff, decide_eq_true_eq, List.isEmpty_iff, ← bs_len, List.length_eq_zero_iff]
set_option maxHeartbeats 16000000 in
set_option maxRecDepth 10000 in
theorem f14_num (s : ByteArray) (a : Int) (hs : s.size ≤ 1000000) : Spec Try.prog 14 [.agg (tokA 2 s a)] (litB (validB 2 (bs s))) := by
  have hl := bs_len s
  have h35 := f35_spec s ⟨#[46]⟩ (by omega)
  have e1 : bs ⟨#[46]⟩ = [46] := rfl
  rw [e1] at h35
  rw [← numP_eq, numP_cut, hl]
  have hc1 : (Go.Lib.cut (bs s) [46]).1.length ≤ s.size ∧ (Go.Lib.cut (bs s) [46]).2.1.length ≤ s.size := by
    rw [cut_dot, ← hl]
    split
    · exact ⟨by simp; omega, by simp⟩
    · exact ⟨Nat.le_refl _, by simp⟩
  generalize (Go.Lib.cut (bs s) [46]).1 = w at *
  generalize (Go.Lib.cut (bs s) [46]).2.1 = pl at *
  generalize (Go.Lib.cut (bs s) [46]).2.2 = b4 at *
  have hw1 := isEmpty_size w
  have hw2 := isEmpty_size pl
  have h32a := f32_spec (IsFn.lit 34) ⟨w.toArray⟩ digitB (by rw [← bs_len]; show w.length ≤ _; omega) (fun b => f34_spec b)
  have h32b := f32_spec (IsFn.lit 34) ⟨pl.toArray⟩ digitB (by rw [← bs_len]; show pl.length ≤ _; omega) (fun b => f34_spec b)
  rw [show bs ⟨w.toArray⟩ = w from rfl] at h32a
  rw [show bs ⟨pl.toArray⟩ = pl from rfl] at h32b
  generalize w.all digitB = b3 at *
  generalize pl.all digitB = b6 at *
  generalize w.isEmpty = n2 at *
  generalize pl.isEmpty = n5 at *
  have d1 : decide ((s.size : Int) ≤ 40) = decide (s.size ≤ 40) := by rw [Bool.eq_iff_iff, decide_eq_true_eq, decide_eq_true_eq]; omega
  generalize decide (s.size ≤ 40) = b1 at *
  cases b1 <;> cases n2 <;> cases b3 <;> cases b4 <;> cases n5
  all_goals
    simp only [Bool.not_false, Bool.not_true, Bool.true_and, Bool.false_and, Bool.false_or, Bool.true_or]
    refine spec_of_awp (fn := Try.f14) Try.func14 (by kernel_rfl) rfl ?_
    intro w0 C0
    simp only [Try.ntmps14, litI, litB, litS, List.length_cons, List.length_nil, Nat.reduceAdd, Nat.reduceSub, List.replicate_succ, List.replicate_zero, List.cons_append, List.nil_append]
    repeat' first
      | refine awp_seq ?_
      | refine awp_block ?_
      | refine awp_skip ?_
      | (refine reg _ (by (simp only [List.map_cons, List.map_nil]; rfl)) rfl ?_; intro K hK)
      | (refine awp_cond _ (by rfl) ?_ ?_ <;> (intro hb; first | (cases hb; done) | (have ht : true = true := hb; clear ht hb) | (have ht : false = false := hb; clear ht hb) | (simp only [hb]) | skip))
      | (refine awp_exit ?_; simp only [thenA, blockA, scopeA, reduceIte, RetQ, Nat.reduceEqDiff])
      | (refine awp_ret ?_; simp only [thenA, blockA, scopeA, RetQ])
      | (refine ev_nil (hK _ ?_); clear hK K)
      | (apply ev_guardU; (case hj | hu | hσ => (simp only [go_sem, d1, hw1, hw2]; try rfl)))
      | (refine ev_guardT _ _ (by (simp only [go_sem, d1, hw1, hw2]; rfl)) (by (simp only [go_sem, d1, hw1, hw2]; rfl)) ?_ ?_ <;> (intro hb; first | (cases hb; done) | (have ht : true = true := hb; clear ht hb) | (have ht : false = false := hb; clear ht hb) | (simp only [hb]) | skip))
      | (refine ev_guardF _ _ (by (simp only [go_sem, d1, hw1, hw2]; rfl)) (by (simp only [go_sem, d1, hw1, hw2]; rfl)) ?_ ?_ <;> (intro hb; first | (cases hb; done) | (have ht : true = true := hb; clear ht hb) | (have ht : false = false := hb; clear ht hb) | (simp only [hb]) | skip))
      | (apply ev_call0; (case hys => (simp only [go_sem, d1, hw1, hw2]; try rfl)); (case hs => first | exact h35 .. | exact h32a .. | exact h32b ..); (case hok | hσ => (simp only [go_sem, d1, hw1, hw2]; try rfl)))
      | (apply ev_step0; (case hr | hσ => (simp only [go_sem, d1, hw1, hw2]; try rfl)); (case hc => (first | trivial | decide | (simp only [inB, sliceOk, appendOk, rowsOk]; omega) | (simp [inB, sliceOk, appendOk, rowsOk]; omega))))
      | (apply ev_step; (case hr => (simp only [go_sem, d1, hw1, hw2]; try rfl)); (case hσ => (intro g u; simp only [go_sem, d1, hw1, hw2]; try rfl)); (case hc => (first | trivial | decide | (simp only [inB, sliceOk, appendOk, rowsOk]; omega) | (simp [inB, sliceOk, appendOk, rowsOk]; omega))); intro g u; (try clear u); (try clear g))
      | fail
    all_goals (refine resR_one T_ok rfl _ (by (simp only [go_sem, resA]; rfl)) (by first | trivial | (simp only [go_sem, resA])) (by first | trivial | (simp only [go_sem])) ?_; simp only [go_sem])
    exact LeA.refl _
end
section
set_option linter.unusedVariables false
set_option linter.unusedSimpArgs false
open Go.RowKit
attribute [local irreducible] AWp evOps evD
theorem f14_spec (k : Int) (s : ByteArray) (a : Int) (hs : s.size ≤ 1000000) : Spec Try.prog 14 [.agg (tokA k s a)] (litB (validZ k (bs s))) := by
  by_cases h1 : k = 1
  · subst h1; exact f14_word s a hs
  by_cases h2 : k = 2
  · subst h2; exact f14_num s a hs
  by_cases h3 : k = 3
  · subst h3; exact f14_text s a hs
  by_cases h4 : k = 4
  · subst h4; exact f14_sign s a hs
  have : validZ k (bs s) = false := by
    unfold validZ
    obtain ⟨n, hn⟩ : ∃ n, k.toNat = n := ⟨_, rfl⟩
    rw [hn]
    match n, hn with
    | 0, _ => rfl
    | 1, h => exact absurd (show k = 1 by omega) h1
    | 2, h => exact absurd (show k = 2 by omega) h2
    | 3, h => exact absurd (show k = 3 by omega) h3
    | 4, h => exact absurd (show k = 4 by omega) h4
    | n + 5, _ => rfl
  rw [this]
  exact f14_none k s a ⟨h1, h2, h3, h4⟩
/-- The offset that is meant. -/
def atN (n : Nat) (a : Int) : Nat := (max 0 (min a (n : Int))).toNat
theorem atN_le (n : Nat) (a : Int) : atN n a ≤ n := by unfold atN; omega
set_option maxHeartbeats 4000000 in
theorem f30_spec (s : ByteArray) (a : Int) (hs : s.size ≤ 1000000) : Spec Try.prog 30 [litS s, litI .i64 a] (.tup [litI .i64 ((1 + feeds ((bs s).take (atN s.size a)) : Nat) : Int), litI .i64 ((atN s.size a : Int) + 1 - (behind ((bs s).take (atN s.size a)) : Int))]) := by
  have hl := bs_len s
  have hi := atN_le s.size a
  obtain ⟨x, hx1⟩ : ∃ x, (if (s.size : Int) < a then (s.size : Int) else a) = x := ⟨_, rfl⟩
  have hm : (if x > 0 then x else 0) = (atN s.size a : Int) := by
    unfold atN
    rw [← hx1]
    split <;> split <;> omega
  generalize atN s.size a = i at *
  have hb : bs (s.extract 0 i) = (bs s).take i := by rw [bs_sub]; rfl
  have hsz : (s.extract 0 i).size = i := by rw [← bs_len, hb, List.length_take]; omega
  have h56 := f56_spec (s.extract 0 i) 10
  have h57 := f57_spec (s.extract 0 i) ⟨#[10]⟩ (by omega)
  rw [hb, feeds_count] at h56
  have e2 : bs ⟨#[10]⟩ = [10] := rfl
  have hlf := last_feed ((bs s).take i)
  rw [hb, e2] at h57
  have hf : feeds ((bs s).take i) ≤ i := by
    have : ∀ l : Bs, feeds l ≤ l.length := fun l => by
      induction l with
      | nil => exact Nat.le_refl _
      | cons b l ih => simp only [feeds, List.length_cons]; split <;> omega
    have := this ((bs s).take i)
    rw [List.length_take] at this; omega
  have hbh := behind_le ((bs s).take i)
  rw [List.length_take] at hbh
  generalize feeds ((bs s).take i) = fn at *
  generalize behind ((bs s).take i) = bh at *
  generalize Go.Lib.lastIndex ((bs s).take i) [10] = li at *
  have hli : li = (bh : Int) - 1 := by omega
  subst hli
  have w1 : IntKind.i64.wrap (1 + (fn : Int)) = ((1 + fn : Nat) : Int) := by rw [wrap_id (by omega)]; push_cast; rfl
  have w2 : IntKind.i64.wrap ((i : Int) - ((bh : Int) - 1)) = (i : Int) + 1 - (bh : Int) := by rw [wrap_id (by omega)]; omega
  refine spec_of_awp (fn := Try.f30) Try.func30 (by kernel_rfl) rfl ?_
  intro w0 C0
  simp only [Try.ntmps30, litI, litB, litS, List.length_cons, List.length_nil, Nat.reduceAdd, Nat.reduceSub, List.replicate_succ, List.replicate_zero, List.cons_append, List.nil_append]
  repeat' first
    | refine awp_seq ?_
    | refine awp_block ?_
    | refine awp_skip ?_
    | (refine reg _ (by (simp only [List.map_cons, List.map_nil]; rfl)) rfl ?_; intro K hK)
    | (refine awp_cond _ (by rfl) ?_ ?_ <;> (intro hb; first | (cases hb; done) | (have ht : true = true := hb; clear ht hb) | (have ht : false = false := hb; clear ht hb) | (simp only [hb]) | skip))
    | (refine awp_exit ?_; simp only [thenA, blockA, scopeA, reduceIte, RetQ, Nat.reduceEqDiff])
    | (refine awp_ret ?_; simp only [thenA, blockA, scopeA, RetQ])
    | (refine ev_nil (hK _ ?_); clear hK K)
    | (apply ev_call0; (case hys => (simp only [go_sem, Int.reduceToNat, hx1, hm, w1, w2, hsz]; try rfl)); (case hs => first | exact h56 .. | exact h57 ..); (case hok | hσ => (simp only [go_sem, Int.reduceToNat, hx1, hm, w1, w2, hsz]; try rfl)))
    | (apply ev_step0; (case hr | hσ => (simp only [go_sem, Int.reduceToNat, hx1, hm, w1, w2, hsz]; try rfl)); (case hc => (first | trivial | decide | (simp only [inB, sliceOk, appendOk, rowsOk]; omega) | (simp [inB, sliceOk, appendOk, rowsOk]; omega))))
    | (apply ev_step; (case hr => (simp only [go_sem, Int.reduceToNat, hx1, hm, w1, w2, hsz]; try rfl)); (case hσ => (intro g u; simp only [go_sem, Int.reduceToNat, hx1, hm, w1, w2, hsz]; try rfl)); (case hc => (first | trivial | decide | (simp only [inB, sliceOk, appendOk, rowsOk]; omega) | (simp [inB, sliceOk, appendOk, rowsOk]; omega))); intro g u; (try clear u); (try clear g))
    | fail
  all_goals (refine resR_more T_ok rfl (by decide) _ (by (simp only [go_sem, resA]; rfl)) (by (intro rv hrv; simp only [List.mem_cons, List.not_mem_nil, or_false] at hrv; rcases hrv with rfl | rfl <;> first | trivial | simp only [go_sem, resA])) (by first | trivial | (simp only [go_sem])) ?_; simp only [go_sem])
  exact ⟨LeA.refl _, LeA.refl _, trivial⟩
end
end Go.Proofs.Ytnppegglggcceaa.A
