/- union, AppendSeq, Collect, Add. Collect, Add. Contains, Index; the join of cuts. Join of replicas. DeleteFunc over a row of one's own; Drop. -/
import Derived.Test.YtalbfikfbejnfaaZ3
import Derived.Test.YtalbfikfbejnfaaE2
import Derived.Test.YtalbfikfbejnfaaE3
import Derived.Test.YtalbfikfbejnfaaE4
/- union, AppendSeq, Collect, Add. -/
set_option linter.unusedVariables false
set_option linter.unusedSimpArgs false
namespace Go.Proofs.Ytalbfikfbejnfaa.A
open Go.RowKit
attribute [local go_sem] Nat.reduceAdd Nat.reduceSub Nat.reduceMul Nat.reduceLT Nat.reduceLeDiff Nat.reduceEqDiff Nat.reduceBEq reduceIte reduceCtorEq e_step_none e_slotU e_slotB e_move e_assign e_pick e_unOp e_binOp e_alloc e_box e_build e_buildSlice e_load e_store e_fieldAddr e_field e_indexAddr e_index e_slice e_makeSlice e_makeFunc e_convert e_extract e_nilCheck e_len e_append e_max e_min e_call e_callV e_clo e_ev_tmp e_ev_int e_ev_bool e_ev_string e_ev_slice e_ev_nilFunc e_ev_nilIface e_ev_pointer e_ev_agg e_ev_func e_pickT e_pickF e_not e_neg e_add e_sub e_mul e_quo e_rem e_eql e_neq e_lss e_leq e_gtr e_geq e_beq e_bne e_sadd e_seql e_sneq e_b2_d e_b2_nil e_b2_nnil e_b2_agg e_lits_nil e_lits_cons e_litC e_eqR e_eqO_e e_eqO_n e_eqV4 e_eqV3 e_eqV2 e_eqV1 e_eqFs_nil e_eqFs_cons e_and2 e_eq1 e_eqL_i e_eqL_s e_eqL_b e_allocR e_boxR e_box_agg e_box_d e_box_own e_box_clo e_one_nil e_one_d e_one_own e_one_clo e_one_ptr e_cells_agg e_cells_d e_cells_own e_cells_clo e_cells_ptr e_ob_own e_ob_ptr e_ob_elo e_ob_d e_ob_el e_ob_agg e_load_box e_load_fzb e_load_el e_load_elo e_store_box e_storeB e_store_elo e_store_elo_agg e_storeE e_fa_ptr e_fa_el e_fa_elo e_faR e_fd e_fdR e_ia_d e_ia_row e_ia_fz e_ia_ptr e_ia_el e_ix_s e_ix_a e_len_s e_len_nil e_len_d e_len_row e_len_fz e_conv_i e_conv_s e_extr e_maxR e_minR e_nil_ptr e_nil_el e_nil_elo e_rows_nil e_rows_d e_rows_row e_rows_fz e_rok_nil e_rok_d e_rok_row e_rok_fz e_app_row e_appR e_app_nil e_appN e_make e_bnd_none e_bnd_some e_optmap_none e_optmap_some e_slR e_slRe e_sl_s e_sl_d e_sl_nil e_sl_row e_sl_fz e_fill_nil e_fill_cons e_fill1 e_placeS e_plS e_placeE e_buildO e_build1 e_build2 e_build3 e_bindD e_bs e_bsR e_allD_nil e_allD_cons e_allD1 e_chunk0 e_chunkS e_clP_nil e_clP_cons e_cl_d e_cl_any e_cl_el e_cl_agg e_cl_tup e_cl_clo e_cl_own e_clOwn_row e_clOwn_fz e_cl_ptr e_clPtr_box e_clBox e_clPtr_fzb e_clL_nil e_clL_cons e_ok_d e_ok_any e_ok_el e_ok_agg e_ok_tup e_ok_clo e_ok_own e_okOwn_row e_okOwn_fz e_ok_ptr e_okPtr_box e_okPtr_fzb e_okL_nil e_okL_cons e_ids_d e_ids_any e_ids_el e_ids_own e_ids_ptr e_ids_agg e_ids_tup e_ids_clo e_idsL_nil e_idsL_cons e_frz_nil e_frz_cons e_frz_row e_frz_fz e_frz_fzb e_frz_box e_frzB e_flat_lit e_flat_sl e_flat_agg e_flat_tup e_flat_any e_flat_clo e_flatL_nil e_flatL_cons e_objD e_setMany e_takeA e_zerosA e_gdL e_idsG e_idsOp e_callV' e_callF' e_o_move e_o_assign e_o_pick e_o_unOp e_o_binOp e_o_alloc e_o_box e_o_build e_o_buildSlice e_o_load e_o_store e_o_fieldAddr e_o_field e_o_indexAddr e_o_index e_o_slice0 e_o_slice1 e_o_slice2 e_o_slice3 e_o_makeSlice e_o_makeFunc e_o_convert e_o_extract e_o_nilCheck e_o_bcall e_o_vcall litI litB litS List.map_cons List.map_nil List.getD_cons_zero List.getD_cons_succ List.getD_nil List.getElem?_cons_zero List.getElem?_cons_succ List.getElem?_nil Option.getD_some Option.getD_none Option.map_some Option.map_none List.length_cons List.length_nil List.all_cons List.all_nil Bool.and_true Bool.true_and and_true true_and and_self
attribute [local go_sem] List.take_zero List.take_succ_cons List.drop_zero List.drop_succ_cons List.nil_append List.cons_append List.append_nil List.replicate_succ List.replicate_zero List.flatten_cons List.flatten_nil Nat.zero_add Nat.add_zero Nat.mul_one Nat.zero_mul Nat.one_mul Nat.mul_zero List.set_cons_zero List.set_cons_succ List.foldl_cons List.foldl_nil appendOk rowsOk inB sliceOk cutRows mtake mdrop List.length_append List.length_take List.length_drop if_true if_false or_false or_true true_or Bool.not_true Bool.not_false Bool.false_eq_true List.length_map Int.toNat_natCast Int.toNat_zero Int.toNat_one eq_self St.after St.put applyEff R0 T1 T2 T3 T4 T5 T6 T7 T8 T9 T10 T11 T12 T13 T14 T15 T16 T17 T18 T19 T20 T21 T22 T23 T24 T25 T26 T27 T28 T29 T30 T31 T32 T33 T34 T35 T36 T37 T38 T39 T40 T41 T42 T43 T44 T45 T46 T47 T48 T49 T50 T51 T52 T53 T54 T55 T56 T57 T58 T59 T60 T61 T62 T63 T64 T65 T66 T67 T68 T69 T70 T71 T72 T73 T74 T75 T76 T77 T78 T79 T80 T81 T82 T83 T84 T85 T86 T87 T88 T89 T90 T91 T92 T93 T94 T95 T96 T97 T98 T99 T100 T101 T102 T103 T105 T106 T107 T108 T109 T110 T111 T112 T113 T114 T117 T118 T119 T120 T121 T122 T123 T124 T125 T126 T127 T130 T131 T132 T133 T134 ti1 ti2 ti3 ti4 ti5 ti6 ti7 ti8 ti9 ti10 ti11 ti12 ti13 ti14 ti15 ti16 ti17 ti18 ti19 ti20 ti21 ti22 ti23 ti24 ti25 ti26 ti27 ti28 ti29 ti30 ti31 ti32 ti33 ti34 ti35 ti36 ti37 ti38 ti39 ti40 ti41 ti42 ti43 ti44 ti45 ti46 ti47 ti48 ti49 ti50 ti51 ti52 ti53 ti54 ti55 ti56 ti57 ti58 ti59 ti60 ti61 ti62 ti63 ti64 ti65 ti66 ti67 ti68 ti69 ti70 ti71 ti72 ti73 ti74 ti75 ti76 ti77 ti78 ti79 ti80 ti81 ti82 ti83 ti84 ti85 ti86 ti87 ti88 ti89 ti90 ti91 ti92 ti93 ti94 ti95 ti96 ti97 ti98 ti99 ti100 ti101 ti102 ti103 ti105 ti106 ti107 ti108 ti109 ti110 ti111 ti112 ti113 ti114 ti117 ti118 ti119 ti120 ti121 ti122 ti123 ti124 ti125 ti126 ti127 ti130 ti131 ti132 ti133 ti134
attribute [local irreducible] AWp evOps evD AWq
/-- What union hands back: a function that has two variables of its own. -/
def UniAt (C : Nat → Prop) (w w' : World) (a b : List Nm) (v : Value) : Prop :=
  ∃ (ga gb : Nat) (ta tb : TypeId) (va vb : Value) (C' : Nat → Prop), v = .func (.func 69) #[] #[.pointer (some ⟨ga, 0, none⟩), .pointer (some ⟨gb, 0, none⟩)] ∧
    Below w.heap.size w w' ∧ (w.heap.size ≤ ga ∧ ga < w'.heap.size) ∧ (w.heap.size ≤ gb ∧ gb < w'.heap.size) ∧ ga ≠ gb ∧
    w'.heap[ga]? = some (.cells #[va] ta (0, 0)) ∧ w'.heap[gb]? = some (.cells #[vb] tb (0, 0)) ∧ (∀ x, C x → C' x) ∧ (∀ x, C' x → (C x ∨ w.heap.size ≤ x) ∧ x < w'.heap.size ∧ ¬ two ga gb x) ∧
    Rep ⟨w'.heap, C'⟩ (nms a) va ∧ Rep ⟨w'.heap, C'⟩ (nms b) vb
theorem f55_calls (a b : List Nm) (w : World) (C : Nat → Prop) (hC : ∀ x, C x → x < w.heap.size) (vs : List Value) (hv : HasL ⟨w.heap, C⟩ [.d (nms a), .d (nms b)] vs) :
    Calls Try.prog 55 vs.toArray w fun e w' => ∃ v, e = .returned v ∧ UniAt C w w' a b v := by
  refine calls_of_wp (fn := Try.f55) Try.func55 rfl ?_
  have hs := sat_start (P := Try.prog) (n := 6) (holds := []) (M := fun _ => False) (fun x hx => ⟨hC x hx, fun h => h⟩) hv (by intro i x h; simp at h) (by intro i j x y g h; simp at h)
  refine (wpIn_wide (n := 0)).1 ?_
  refine awq_go (E := ⟨Try.prog, w, C, fun _ => False, none, []⟩) rfl hs ?_
  simp only [litI, litB, litS, List.length_cons, List.length_nil, Nat.reduceAdd, Nat.reduceSub, List.replicate_succ, List.replicate_zero, List.cons_append, List.nil_append]
  repeat' first
    | (refine awq_seq ?_)
    | refine awq_block ?_
    | refine awp_seq ?_
    | refine awp_block ?_
    | refine awp_skip ?_
    | (refine reg _ (by (simp only [List.map_cons, List.map_nil]; rfl)) rfl ?_; intro K hK)
    | (refine awp_cond _ (by rfl) ?_ ?_ <;> (intro hb; first | (cases hb; done) | (have ht : true = true := hb; clear ht hb) | (have ht : false = false := hb; clear ht hb) | (simp only [hb]) | skip))
    | (refine awp_exit ?_; simp only [thenA, blockA, reduceIte, RetQ, Nat.reduceEqDiff])
    | (refine awp_ret ?_; simp only [thenA, blockA, RetQ])
    | (refine ev_nil (hK _ ?_); clear hK K)
    | refine ev_guardU _ (by (simp only [go_sem]; rfl)) (by (simp only [go_sem]; rfl)) _ (by (simp only [go_sem]; rfl)) ?_
    | (refine ev_guardT _ _ (by (simp only [go_sem]; rfl)) (by (simp only [go_sem]; rfl)) ?_ ?_ <;> (intro hb; first | (cases hb; done) | (have ht : true = true := hb; clear ht hb) | (have ht : false = false := hb; clear ht hb) | (simp only [hb]) | skip))
    | (refine ev_guardF _ _ (by (simp only [go_sem]; rfl)) (by (simp only [go_sem]; rfl)) ?_ ?_ <;> (intro hb; first | (cases hb; done) | (have ht : true = true := hb; clear ht hb) | (have ht : false = false := hb; clear ht hb) | (simp only [hb]) | skip))
    | refine ev_step0 _ _ (by (simp only [go_sem]; rfl)) (by (first | trivial | decide | (simp only [inB, sliceOk, appendOk, rowsOk]; omega) | (simp [inB, sliceOk, appendOk, rowsOk]; omega))) _ (by (simp only [go_sem]; rfl)) ?_
    | (refine ev_step _ (by (simp only [go_sem]; rfl)) (by (first | trivial | decide | (simp only [inB, sliceOk, appendOk, rowsOk]; omega) | (simp [inB, sliceOk, appendOk, rowsOk]; omega))) _ (fun g u => by (simp only [go_sem]; rfl)) ?_; intro g u; (try clear u); (try clear g))
    | fail
  rename_i g1
  refine awq_of (Q := fun e s => e = .ret ∧ s = ⟨[.d (nms a), .d (nms b), .ptr 2 g1 0, .ptr 3 g 0, .clo (.func 69) [.ptr 2 g1 0, .ptr 3 g 0], .clo (.func 69) [.ptr 2 g1 0, .ptr 3 g 0]], [.no, .no, .box g1 [.d (nms a)], .box g [.d (nms b)], .no, .no]⟩) (awp_ret ⟨rfl, rfl⟩) ?_
  rintro e s a' w' ⟨rfl, rfl⟩ hs'
  have ho1 := hs'.own 2 _ g1 rfl rfl
  have ho2 := hs'.own 3 _ g rfl rfl
  have hne : g1 ≠ g := fun h => by
    subst h
    exact absurd (hs'.inj 2 3 _ _ g1 rfl rfl rfl rfl) (by decide)
  obtain ⟨ta, us, h1, h2, _⟩ := hs'.o 2 _ rfl
  obtain ⟨tb, ws, h3, h4, _⟩ := hs'.o 3 _ rfl
  match us, ws, h2, h4 with
  | [va], [vb], h2, h4 =>
  simp only [HasL, Has] at h2 h4
  obtain ⟨x, hx, hh⟩ := hs'.t.get 4 _ rfl
  simp only [Has] at hh
  obtain ⟨ps, rfl, hps⟩ := hh
  match ps, hps with
  | [p1, p2], hps =>
  simp only [HasL, Has] at hps
  obtain ⟨rfl, rfl, _⟩ := hps
  refine ⟨hs'.defers, _, results_tmp (t := 4) rfl _ _ _, _, rfl, g1, g, ta, tb, va, vb, _, ?_, ⟨hs'.fr.os, hs'.fr.tape, hs'.fr.output, hs'.fr.size, fun k hk => hs'.fr.block k hk (fun h => h)⟩, ⟨ho1.1.resolve_right (fun h => h), ho1.2⟩, ⟨ho2.1.resolve_right (fun h => h), ho2.2⟩, hne, h1, h3, fun y hy => .inl hy, fun y hy => ⟨?_, hs'.lt_C hy, ?_⟩, h2.1, h4.1⟩
  · rw [Array.getElem?_toList] at hx
    rw [Array.getD_eq_getD_getElem?, hx]; rfl
  · rcases hy with hy | hy
    · exact .inl hy
    · exact .inr (hy.1.resolve_right (fun h => h))
  · rintro (rfl | rfl)
    · exact hs'.not_own hy (i := 2) rfl rfl
    · exact hs'.not_own hy (i := 3) rfl rfl
theorem f68_calls (xs : List Nm) (hlen : xs.length ≤ 16777216) {w : World} {C : Nat → Prop} {ga gb : Nat} (hC : ∀ x, C x → x < w.heap.size ∧ ¬ two ga gb x) (hne : ga ≠ gb) (hga : ga < w.heap.size) (hgb : gb < w.heap.size)
    (hit : IterC Try.prog 69 #[.pointer (some ⟨ga, 0, none⟩), .pointer (some ⟨gb, 0, none⟩)] (two ga gb) C encN xs w) :
    Calls Try.prog 68 #[.slice none 0 0, .func (.func 69) #[] #[.pointer (some ⟨ga, 0, none⟩), .pointer (some ⟨gb, 0, none⟩)]] w fun e w' => ∃ v, e = .returned v ∧ Fr (two ga gb) w w' ∧
      Has ⟨w'.heap, fun b => C b ∨ ((w.heap.size ≤ b ∨ two ga gb b) ∧ b < w'.heap.size)⟩ (.d (nms xs)) v := by
  obtain ⟨xa0, hxa⟩ : ∃ x, w.heap[ga]? = some x := ⟨_, Array.getElem?_eq_getElem hga⟩
  obtain ⟨xb0, hxb⟩ : ∃ x, w.heap[gb]? = some x := ⟨_, Array.getElem?_eq_getElem hgb⟩
  refine (callsIn_wide (n := 0)).1 (callsIn_of_wp_marks (fn := Try.f68) Try.func68 rfl trivial ?_)
  have hs := sat_start (P := Try.prog) (n := 13) (holds := tl2 ga gb xa0 xb0) (M := two ga gb) (args := [.d (.lit (.slice none 0 0)), .d (.lit (.func (.func 69) #[] #[.pointer (some ⟨ga, 0, none⟩), .pointer (some ⟨gb, 0, none⟩)]))])
    (vs := [.slice none 0 0, .func (.func 69) #[] #[.pointer (some ⟨ga, 0, none⟩), .pointer (some ⟨gb, 0, none⟩)]]) hC (by simp only [HasL, Has, Rep]; exact ⟨⟨trivial, rfl⟩, ⟨trivial, rfl⟩, trivial⟩)
    (by
      intro i x hx
      match i, hx with
      | 0, hx => simp [tl2] at hx; subst hx; exact ⟨ga, rfl, .inl rfl, hga, hxa⟩
      | 1, hx => simp [tl2] at hx; subst hx; exact ⟨gb, rfl, .inr rfl, hgb, hxb⟩
      | i + 2, hx => simp [tl2] at hx)
    (by
      intro i j x y g hx hy h1 h2
      match i, j, hx, hy with
      | 0, 0, _, _ => rfl
      | 1, 1, _, _ => rfl
      | 0, 1, hx, hy => simp [tl2] at hx hy; subst hx; subst hy; simp [AObj.blk] at h1 h2; omega
      | 1, 0, hx, hy => simp [tl2] at hx hy; subst hx; subst hy; simp [AObj.blk] at h1 h2; omega
      | i + 2, _, hx, _ => simp [tl2] at hx
      | 0, j + 2, _, hy => simp [tl2] at hy
      | 1, j + 2, _, hy => simp [tl2] at hy)
  refine awq_go (E := ⟨Try.prog, w, C, two ga gb, none, []⟩) rfl hs ?_
  simp only [tl2, litI, litB, litS, List.length_cons, List.length_nil, Nat.reduceAdd, Nat.reduceSub, List.replicate_succ, List.replicate_zero, List.cons_append, List.nil_append]
  repeat' first
    | (show AWq _ (Code.seq (Code.seq _ (Code.block _ (Code.rangeFunc _ _ _ _))) _) _ _; refine awq_seqq ?_)
    | (show AWq _ (Code.seq (Code.block _ (Code.rangeFunc _ _ _ _)) _) _ _; refine awq_seqq ?_)
    | (refine awq_seq ?_)
    | refine awq_block ?_
    | refine awp_seq ?_
    | refine awp_block ?_
    | refine awp_skip ?_
    | (refine reg _ (by (simp only [List.map_cons, List.map_nil]; rfl)) rfl ?_; intro K hK)
    | (refine awp_cond _ (by rfl) ?_ ?_ <;> (intro hb; first | (cases hb; done) | (have ht : true = true := hb; clear ht hb) | (have ht : false = false := hb; clear ht hb) | (simp only [hb]) | skip))
    | (refine awp_exit ?_; simp only [thenA, blockA, reduceIte, RetQ, Nat.reduceEqDiff])
    | (refine awp_ret ?_; simp only [thenA, blockA, RetQ])
    | (refine ev_nil (hK _ ?_); clear hK K)
    | refine ev_guardU _ (by (simp only [go_sem]; rfl)) (by (simp only [go_sem]; rfl)) _ (by (simp only [go_sem]; rfl)) ?_
    | (refine ev_guardT _ _ (by (simp only [go_sem]; rfl)) (by (simp only [go_sem]; rfl)) ?_ ?_ <;> (intro hb; first | (cases hb; done) | (have ht : true = true := hb; clear ht hb) | (have ht : false = false := hb; clear ht hb) | (simp only [hb]) | skip))
    | (refine ev_guardF _ _ (by (simp only [go_sem]; rfl)) (by (simp only [go_sem]; rfl)) ?_ ?_ <;> (intro hb; first | (cases hb; done) | (have ht : true = true := hb; clear ht hb) | (have ht : false = false := hb; clear ht hb) | (simp only [hb]) | skip))
    | refine ev_step0 _ _ (by (simp only [go_sem]; rfl)) (by (first | trivial | decide | (simp only [inB, sliceOk, appendOk, rowsOk]; omega) | (simp [inB, sliceOk, appendOk, rowsOk]; omega))) _ (by (simp only [go_sem]; rfl)) ?_
    | (refine ev_step _ (by (simp only [go_sem]; rfl)) (by (first | trivial | decide | (simp only [inB, sliceOk, appendOk, rowsOk]; omega) | (simp [inB, sliceOk, appendOk, rowsOk]; omega))) _ (fun g u => by (simp only [go_sem]; rfl)) ?_; intro g u; (try clear u); (try clear g))
    | fail
  refine awq_wk (σ' := ⟨[.any, .any, .ptr 2 g 0, .any, .any, .any, .d (.lit (.func (.func 69) #[] #[.pointer (some ⟨ga, 0, none⟩), .pointer (some ⟨gb, 0, none⟩)])), .any, .any, .any, .any, .any, .any], [.no, .no, .box g [.own 11 (.slice none 0 0)], .no, .no, .no, .no, .no, .no, .no, .no, .row (.slice none 0 0) 25 2 [], .no, .hold ga xa0, .hold gb xb0]⟩) ?_ ?_
  · refine (Wk.box 2 (g := g) (cs := [.d (.lit (.slice none 0 0))]) (cs' := [.own 11 (.slice none 0 0)]) rfl ⟨LeA.lit_own _ _, trivial⟩).trans ?_
    simp only [List.set_cons_succ, List.set_cons_zero]
    refine Wk.mk ?_ ?_
    · all_goals (repeat' first | exact trivial | exact LeA.refl _ | exact LeA.any _ | refine ⟨?_, ?_⟩)
    · all_goals (repeat' first | exact trivial | exact LeO.refl _ | exact LeO.nil _ _ _ | exact LeO.no _ | refine ⟨?_, ?_⟩)
  refine awq_rangeFunc (gf := 69) (lb := #[.pointer (some ⟨ga, 0, none⟩), .pointer (some ⟨gb, 0, none⟩)]) (av := fun n : Nm => .agg (nm n.1 n.2)) (enc := encN) (xs := xs) (base0 := [.no, .no, .box g [.own 11 (.slice none 0 0)], .no, .no, .no, .no, .no, .no, .no, .no, .row (.slice none 0 0) 25 2 [], .no]) has_encN rfl rfl ?_ (fun args w => run_callFunc (E := ⟨Try.prog, w, C, two ga gb, none, []⟩) ⟨Try.f69, Try.func69, by kernel_rfl, rfl⟩) ?_
    (fun pre base => ∃ v, base = [.no, .no, .box g [.own 11 v], .no, .no, .no, .no, .no, .no, .no, .no, .row v 25 2 (pre.map fun n => [.lit (.int .i64 n.1), .lit (.int .i64 n.2)]), .no]) ?_ ?_ ?_
  · intro a w hs
    obtain ⟨v, hv, hh⟩ := hs.t.get 6 _ rfl
    have := has_lit hh
    subst this
    simp only [Act.eval]
    rw [Array.getElem?_toList] at hv
    rw [Array.getD_eq_getD_getElem?, hv]; rfl
  · intro a w2 hs
    refine (hit.later ?_).of_le fun b hb => .inl hb
    refine ⟨hs.fr.os, hs.fr.tape, hs.fr.output, hs.fr.size, fun k hk hn => ?_⟩
    by_cases h2 : two ga gb k
    · rcases h2 with rfl | rfl
      · exact (hs.o 13 _ rfl).trans hxa.symm
      · exact (hs.o 14 _ rfl).trans hxb.symm
    · exact hs.fr.block k hk h2
  · exact ⟨_, rfl⟩
  · rintro ⟨P', w1, C1, M1, rd1, df1⟩ l D xa xb L L' pre x base hP hrd ⟨v, rfl⟩ hpre
    simp only at hP
    subst hP
    have hpl := hpre.length_le
    simp only [List.length_append, List.length_cons, List.length_nil, Nat.zero_add] at hpl
    simp only [tl4, litI, litB, litS, List.set_cons_succ, List.set_cons_zero, List.cons_append, List.nil_append]
    repeat' first
      | refine awp_seq ?_
      | refine awp_block ?_
      | refine awp_skip ?_
      | (refine reg _ (by (simp only [List.map_cons, List.map_nil]; rfl)) rfl ?_; intro K hK)
      | (refine awp_cond _ (by rfl) ?_ ?_ <;> (intro hb; first | (cases hb; done) | (have ht : true = true := hb; clear ht hb) | (have ht : false = false := hb; clear ht hb) | (simp only [hb]) | skip))
      | (refine awp_exit ?_; simp only [thenA, blockA, reduceIte, RetQ, Nat.reduceEqDiff])
      | (refine awp_ret ?_; simp only [thenA, blockA, RetQ])
      | (refine ev_nil (hK _ ?_); clear hK K)
      | refine ev_guardU _ (by (simp only [go_sem]; rfl)) (by (simp only [go_sem]; rfl)) _ (by (simp only [go_sem]; rfl)) ?_
      | (refine ev_guardT _ _ (by (simp only [go_sem]; rfl)) (by (simp only [go_sem]; rfl)) ?_ ?_ <;> (intro hb; first | (cases hb; done) | (have ht : true = true := hb; clear ht hb) | (have ht : false = false := hb; clear ht hb) | (simp only [hb]) | skip))
      | (refine ev_guardF _ _ (by (simp only [go_sem]; rfl)) (by (simp only [go_sem]; rfl)) ?_ ?_ <;> (intro hb; first | (cases hb; done) | (have ht : true = true := hb; clear ht hb) | (have ht : false = false := hb; clear ht hb) | (simp only [hb]) | skip))
      | refine ev_step0 _ _ (by (simp only [go_sem]; rfl)) (by (first | trivial | decide | (simp only [inB, sliceOk, appendOk, rowsOk]; omega) | (simp [inB, sliceOk, appendOk, rowsOk]; omega))) _ (by (simp only [go_sem]; rfl)) ?_
      | (refine ev_step _ (by (simp only [go_sem]; rfl)) (by (first | trivial | decide | (simp only [inB, sliceOk, appendOk, rowsOk]; omega) | (simp [inB, sliceOk, appendOk, rowsOk]; omega))) _ (fun g u => by (simp only [go_sem]; rfl)) ?_; intro g u; (try clear u); (try clear g))
      | fail
    refine ⟨_, _, split_base 13 rfl, ?_⟩
    simp only [List.take_succ_cons, List.take_zero, List.cons_append, List.nil_append]
    repeat' first
      | refine awp_seq ?_
      | refine awp_block ?_
      | refine awp_skip ?_
      | (refine reg _ (by (simp only [List.map_cons, List.map_nil]; rfl)) rfl ?_; intro K hK)
      | (refine awp_cond _ (by rfl) ?_ ?_ <;> (intro hb; first | (cases hb; done) | (have ht : true = true := hb; clear ht hb) | (have ht : false = false := hb; clear ht hb) | (simp only [hb]) | skip))
      | (refine awp_exit ?_; simp only [thenA, blockA, reduceIte, RetQ, Nat.reduceEqDiff])
      | (refine awp_ret ?_; simp only [thenA, blockA, RetQ])
      | (refine ev_nil (hK _ ?_); clear hK K)
      | refine ev_guardU _ (by (simp only [go_sem]; rfl)) (by (simp only [go_sem]; rfl)) _ (by (simp only [go_sem]; rfl)) ?_
      | (refine ev_guardT _ _ (by (simp only [go_sem]; rfl)) (by (simp only [go_sem]; rfl)) ?_ ?_ <;> (intro hb; first | (cases hb; done) | (have ht : true = true := hb; clear ht hb) | (have ht : false = false := hb; clear ht hb) | (simp only [hb]) | skip))
      | (refine ev_guardF _ _ (by (simp only [go_sem]; rfl)) (by (simp only [go_sem]; rfl)) ?_ ?_ <;> (intro hb; first | (cases hb; done) | (have ht : true = true := hb; clear ht hb) | (have ht : false = false := hb; clear ht hb) | (simp only [hb]) | skip))
      | refine ev_step0 _ _ (by (simp only [go_sem]; rfl)) (by (first | trivial | decide | (simp only [inB, sliceOk, appendOk, rowsOk]; omega) | (simp [inB, sliceOk, appendOk, rowsOk]; omega))) _ (by (simp only [go_sem]; rfl)) ?_
      | (refine ev_step _ (by (simp only [go_sem]; rfl)) (by (first | trivial | decide | (simp only [inB, sliceOk, appendOk, rowsOk]; omega) | (simp [inB, sliceOk, appendOk, rowsOk]; omega))) _ (fun g u => by (simp only [go_sem]; rfl)) ?_; intro g u; (try clear u); (try clear g))
      | fail
    refine ⟨rfl, [.any, .any, .any, .any, .any, .any, .any, .any, .any, .any, .any, .any, .any], _, ⟨u, rfl⟩, ?_⟩
    simp only [List.cons_append, List.nil_append, List.map_append, List.map_cons, List.map_nil]
    refine Wk.mk ?_ ?_
    all_goals (repeat' first | exact trivial | exact LeA.refl _ | exact LeA.any _ | exact LeO.refl _ | exact LeO.no _ | exact LeA.nil _ | (refine LeA.i ?_; (first | rfl | (push_cast; rfl) | (rw [wrap_id (by omega)]; push_cast; omega) | (simp [wrap_id]; omega))) | refine ⟨?_, ?_⟩)
  · rintro l D xa xb L base ⟨v, rfl⟩ a2 w2 hs2
    refine awq_go (E := ⟨Try.prog, w, C, two ga gb, none, [{ target := .collected D, args := #[] }]⟩) rfl hs2 ?_
    simp only [tl4, List.cons_append, List.nil_append]
    repeat' first
      | (refine awq_seq ?_)
      | refine awq_block ?_
      | refine awp_seq ?_
      | refine awp_block ?_
      | refine awp_skip ?_
      | (refine reg _ (by (simp only [List.map_cons, List.map_nil]; rfl)) rfl ?_; intro K hK)
      | (refine awp_cond _ (by rfl) ?_ ?_ <;> (intro hb; first | (cases hb; done) | (have ht : true = true := hb; clear ht hb) | (have ht : false = false := hb; clear ht hb) | (simp only [hb]) | skip))
      | (refine awp_exit ?_; simp only [thenA, blockA, reduceIte, RetQ, Nat.reduceEqDiff])
      | (refine awp_ret ?_; simp only [thenA, blockA, RetQ])
      | (refine ev_nil (hK _ ?_); clear hK K)
      | refine ev_guardU _ (by (simp only [go_sem]; rfl)) (by (simp only [go_sem]; rfl)) _ (by (simp only [go_sem]; rfl)) ?_
      | (refine ev_guardT _ _ (by (simp only [go_sem]; rfl)) (by (simp only [go_sem]; rfl)) ?_ ?_ <;> (intro hb; first | (cases hb; done) | (have ht : true = true := hb; clear ht hb) | (have ht : false = false := hb; clear ht hb) | (simp only [hb]) | skip))
      | (refine ev_guardF _ _ (by (simp only [go_sem]; rfl)) (by (simp only [go_sem]; rfl)) ?_ ?_ <;> (intro hb; first | (cases hb; done) | (have ht : true = true := hb; clear ht hb) | (have ht : false = false := hb; clear ht hb) | (simp only [hb]) | skip))
      | refine ev_step0 _ _ (by (simp only [go_sem]; rfl)) (by (first | trivial | decide | (simp only [inB, sliceOk, appendOk, rowsOk]; omega) | (simp [inB, sliceOk, appendOk, rowsOk]; omega))) _ (by (simp only [go_sem]; rfl)) ?_
      | (refine ev_step _ (by (simp only [go_sem]; rfl)) (by (first | trivial | decide | (simp only [inB, sliceOk, appendOk, rowsOk]; omega) | (simp [inB, sliceOk, appendOk, rowsOk]; omega))) _ (fun g u => by (simp only [go_sem]; rfl)) ?_; intro g u; (try clear u); (try clear g))
      | fail
    refine awq_ret ?_
    intro a3 w3 hs3
    refine leaves_marks (i := 15) rfl rfl hs3 (r := .d (nms xs)) ?_ fun v w' h1 h2 => ⟨v, rfl, h1, h2⟩
    all_goals (refine resR_one T_ok rfl _ (by (simp only [go_sem, resA]; rfl)) (by first | trivial | (simp only [go_sem, resA])) (by first | trivial | (simp only [go_sem])) ?_; simp only [go_sem])
    exact LeA.refl _
end Go.Proofs.Ytalbfikfbejnfaa.A

/- Collect, Add. -/
set_option linter.unusedVariables false
set_option linter.unusedSimpArgs false
namespace Go.Proofs.Ytalbfikfbejnfaa.A
open Go.RowKit
attribute [local go_sem] Nat.reduceAdd Nat.reduceSub Nat.reduceMul Nat.reduceLT Nat.reduceLeDiff Nat.reduceEqDiff Nat.reduceBEq reduceIte reduceCtorEq e_step_none e_slotU e_slotB e_move e_assign e_pick e_unOp e_binOp e_alloc e_box e_build e_buildSlice e_load e_store e_fieldAddr e_field e_indexAddr e_index e_slice e_makeSlice e_makeFunc e_convert e_extract e_nilCheck e_len e_append e_max e_min e_call e_callV e_clo e_ev_tmp e_ev_int e_ev_bool e_ev_string e_ev_slice e_ev_nilFunc e_ev_nilIface e_ev_pointer e_ev_agg e_ev_func e_pickT e_pickF e_not e_neg e_add e_sub e_mul e_quo e_rem e_eql e_neq e_lss e_leq e_gtr e_geq e_beq e_bne e_sadd e_seql e_sneq e_b2_d e_b2_nil e_b2_nnil e_b2_agg e_lits_nil e_lits_cons e_litC e_eqR e_eqO_e e_eqO_n e_eqV4 e_eqV3 e_eqV2 e_eqV1 e_eqFs_nil e_eqFs_cons e_and2 e_eq1 e_eqL_i e_eqL_s e_eqL_b e_allocR e_boxR e_box_agg e_box_d e_box_own e_box_clo e_one_nil e_one_d e_one_own e_one_clo e_one_ptr e_cells_agg e_cells_d e_cells_own e_cells_clo e_cells_ptr e_ob_own e_ob_ptr e_ob_elo e_ob_d e_ob_el e_ob_agg e_load_box e_load_fzb e_load_el e_load_elo e_store_box e_storeB e_store_elo e_store_elo_agg e_storeE e_fa_ptr e_fa_el e_fa_elo e_faR e_fd e_fdR e_ia_d e_ia_row e_ia_fz e_ia_ptr e_ia_el e_ix_s e_ix_a e_len_s e_len_nil e_len_d e_len_row e_len_fz e_conv_i e_conv_s e_extr e_maxR e_minR e_nil_ptr e_nil_el e_nil_elo e_rows_nil e_rows_d e_rows_row e_rows_fz e_rok_nil e_rok_d e_rok_row e_rok_fz e_app_row e_appR e_app_nil e_appN e_make e_bnd_none e_bnd_some e_optmap_none e_optmap_some e_slR e_slRe e_sl_s e_sl_d e_sl_nil e_sl_row e_sl_fz e_fill_nil e_fill_cons e_fill1 e_placeS e_plS e_placeE e_buildO e_build1 e_build2 e_build3 e_bindD e_bs e_bsR e_allD_nil e_allD_cons e_allD1 e_chunk0 e_chunkS e_clP_nil e_clP_cons e_cl_d e_cl_any e_cl_el e_cl_agg e_cl_tup e_cl_clo e_cl_own e_clOwn_row e_clOwn_fz e_cl_ptr e_clPtr_box e_clBox e_clPtr_fzb e_clL_nil e_clL_cons e_ok_d e_ok_any e_ok_el e_ok_agg e_ok_tup e_ok_clo e_ok_own e_okOwn_row e_okOwn_fz e_ok_ptr e_okPtr_box e_okPtr_fzb e_okL_nil e_okL_cons e_ids_d e_ids_any e_ids_el e_ids_own e_ids_ptr e_ids_agg e_ids_tup e_ids_clo e_idsL_nil e_idsL_cons e_frz_nil e_frz_cons e_frz_row e_frz_fz e_frz_fzb e_frz_box e_frzB e_flat_lit e_flat_sl e_flat_agg e_flat_tup e_flat_any e_flat_clo e_flatL_nil e_flatL_cons e_objD e_setMany e_takeA e_zerosA e_gdL e_idsG e_idsOp e_callV' e_callF' e_o_move e_o_assign e_o_pick e_o_unOp e_o_binOp e_o_alloc e_o_box e_o_build e_o_buildSlice e_o_load e_o_store e_o_fieldAddr e_o_field e_o_indexAddr e_o_index e_o_slice0 e_o_slice1 e_o_slice2 e_o_slice3 e_o_makeSlice e_o_makeFunc e_o_convert e_o_extract e_o_nilCheck e_o_bcall e_o_vcall litI litB litS List.map_cons List.map_nil List.getD_cons_zero List.getD_cons_succ List.getD_nil List.getElem?_cons_zero List.getElem?_cons_succ List.getElem?_nil Option.getD_some Option.getD_none Option.map_some Option.map_none List.length_cons List.length_nil List.all_cons List.all_nil Bool.and_true Bool.true_and and_true true_and and_self
attribute [local go_sem] List.take_zero List.take_succ_cons List.drop_zero List.drop_succ_cons List.nil_append List.cons_append List.append_nil List.replicate_succ List.replicate_zero List.flatten_cons List.flatten_nil Nat.zero_add Nat.add_zero Nat.mul_one Nat.zero_mul Nat.one_mul Nat.mul_zero List.set_cons_zero List.set_cons_succ List.foldl_cons List.foldl_nil appendOk rowsOk inB sliceOk cutRows mtake mdrop List.length_append List.length_take List.length_drop if_true if_false or_false or_true true_or Bool.not_true Bool.not_false Bool.false_eq_true List.length_map Int.toNat_natCast Int.toNat_zero Int.toNat_one eq_self St.after St.put applyEff R0 T1 T2 T3 T4 T5 T6 T7 T8 T9 T10 T11 T12 T13 T14 T15 T16 T17 T18 T19 T20 T21 T22 T23 T24 T25 T26 T27 T28 T29 T30 T31 T32 T33 T34 T35 T36 T37 T38 T39 T40 T41 T42 T43 T44 T45 T46 T47 T48 T49 T50 T51 T52 T53 T54 T55 T56 T57 T58 T59 T60 T61 T62 T63 T64 T65 T66 T67 T68 T69 T70 T71 T72 T73 T74 T75 T76 T77 T78 T79 T80 T81 T82 T83 T84 T85 T86 T87 T88 T89 T90 T91 T92 T93 T94 T95 T96 T97 T98 T99 T100 T101 T102 T103 T105 T106 T107 T108 T109 T110 T111 T112 T113 T114 T117 T118 T119 T120 T121 T122 T123 T124 T125 T126 T127 T130 T131 T132 T133 T134 ti1 ti2 ti3 ti4 ti5 ti6 ti7 ti8 ti9 ti10 ti11 ti12 ti13 ti14 ti15 ti16 ti17 ti18 ti19 ti20 ti21 ti22 ti23 ti24 ti25 ti26 ti27 ti28 ti29 ti30 ti31 ti32 ti33 ti34 ti35 ti36 ti37 ti38 ti39 ti40 ti41 ti42 ti43 ti44 ti45 ti46 ti47 ti48 ti49 ti50 ti51 ti52 ti53 ti54 ti55 ti56 ti57 ti58 ti59 ti60 ti61 ti62 ti63 ti64 ti65 ti66 ti67 ti68 ti69 ti70 ti71 ti72 ti73 ti74 ti75 ti76 ti77 ti78 ti79 ti80 ti81 ti82 ti83 ti84 ti85 ti86 ti87 ti88 ti89 ti90 ti91 ti92 ti93 ti94 ti95 ti96 ti97 ti98 ti99 ti100 ti101 ti102 ti103 ti105 ti106 ti107 ti108 ti109 ti110 ti111 ti112 ti113 ti114 ti117 ti118 ti119 ti120 ti121 ti122 ti123 ti124 ti125 ti126 ti127 ti130 ti131 ti132 ti133 ti134
attribute [local irreducible] AWp evOps evD AWq Ops
theorem f54_calls (xs : List Nm) (hlen : xs.length ≤ 16777216) {w : World} {C : Nat → Prop} {ga gb : Nat} (hC : ∀ x, C x → x < w.heap.size ∧ ¬ two ga gb x) (hne : ga ≠ gb) (hga : ga < w.heap.size) (hgb : gb < w.heap.size)
    (hit : IterC Try.prog 69 #[.pointer (some ⟨ga, 0, none⟩), .pointer (some ⟨gb, 0, none⟩)] (two ga gb) C encN xs w) :
    Calls Try.prog 54 #[.func (.func 69) #[] #[.pointer (some ⟨ga, 0, none⟩), .pointer (some ⟨gb, 0, none⟩)]] w fun e w' => ∃ v, e = .returned v ∧ Fr (two ga gb) w w' ∧
      Has ⟨w'.heap, fun b => C b ∨ ((w.heap.size ≤ b ∨ two ga gb b) ∧ b < w'.heap.size)⟩ (.d (nms xs)) v := by
  obtain ⟨xa0, hxa⟩ : ∃ x, w.heap[ga]? = some x := ⟨_, Array.getElem?_eq_getElem hga⟩
  obtain ⟨xb0, hxb⟩ : ∃ x, w.heap[gb]? = some x := ⟨_, Array.getElem?_eq_getElem hgb⟩
  refine (callsIn_wide (n := 0)).1 (callsIn_of_wp (fn := Try.f54) Try.func54 rfl trivial ?_)
  have hs := sat_start2 (P := Try.prog) 5 (args := [.d (.lit (.func (.func 69) #[] #[.pointer (some ⟨ga, 0, none⟩), .pointer (some ⟨gb, 0, none⟩)]))])
    (vs := [.func (.func 69) #[] #[.pointer (some ⟨ga, 0, none⟩), .pointer (some ⟨gb, 0, none⟩)]]) hC (by simp only [HasL, Has, Rep]; exact ⟨⟨trivial, rfl⟩, trivial⟩) hne hxa hxb
  refine awq_go (E := ⟨Try.prog, w, C, two ga gb, none, []⟩) rfl hs ?_
  simp only [tl2, litI, litB, litS, List.length_cons, List.length_nil, Nat.reduceAdd, Nat.reduceSub, List.replicate_succ, List.replicate_zero, List.cons_append, List.nil_append]
  repeat' first
    | ((fail_if_success show AWq _ (Code.seq (Code.region 1 _ _) _) _ _); refine awq_seq ?_)
    | refine awq_block ?_
    | refine awp_seq ?_
    | refine awp_block ?_
    | refine awp_skip ?_
    | (refine reg _ (by (simp only [List.map_cons, List.map_nil]; rfl)) rfl ?_; intro K hK)
    | (refine awp_cond _ (by rfl) ?_ ?_ <;> (intro hb; first | (cases hb; done) | (have ht : true = true := hb; clear ht hb) | (have ht : false = false := hb; clear ht hb) | (simp only [hb]) | skip))
    | (refine awp_exit ?_; simp only [thenA, blockA, reduceIte, RetQ, Nat.reduceEqDiff])
    | (refine awp_ret ?_; simp only [thenA, blockA, RetQ])
    | (refine ev_nil (hK _ ?_); clear hK K)
    | refine ev_guardU _ (by (simp only [go_sem]; rfl)) (by (simp only [go_sem]; rfl)) _ (by (simp only [go_sem]; rfl)) ?_
    | (refine ev_guardT _ _ (by (simp only [go_sem]; rfl)) (by (simp only [go_sem]; rfl)) ?_ ?_ <;> (intro hb; first | (cases hb; done) | (have ht : true = true := hb; clear ht hb) | (have ht : false = false := hb; clear ht hb) | (simp only [hb]) | skip))
    | (refine ev_guardF _ _ (by (simp only [go_sem]; rfl)) (by (simp only [go_sem]; rfl)) ?_ ?_ <;> (intro hb; first | (cases hb; done) | (have ht : true = true := hb; clear ht hb) | (have ht : false = false := hb; clear ht hb) | (simp only [hb]) | skip))
    | refine ev_step0 _ _ (by (simp only [go_sem]; rfl)) (by (first | trivial | decide | (simp only [inB, sliceOk, appendOk, rowsOk]; omega) | (simp [inB, sliceOk, appendOk, rowsOk]; omega))) _ (by (simp only [go_sem]; rfl)) ?_
    | (refine ev_step _ (by (simp only [go_sem]; rfl)) (by (first | trivial | decide | (simp only [inB, sliceOk, appendOk, rowsOk]; omega) | (simp [inB, sliceOk, appendOk, rowsOk]; omega))) _ (fun g u => by (simp only [go_sem]; rfl)) ?_; intro g u; (try clear u); (try clear g))
    | fail
  refine awq_ops ?_
  intro a1 w1 hs1
  refine ops_step (K := fun s => s = ⟨[.d (.lit (.func (.func 69) #[] #[.pointer (some ⟨ga, 0, none⟩), .pointer (some ⟨gb, 0, none⟩)])), .any, .d (.lit (.slice none 0 0)), .d (.lit (.func (.func 69) #[] #[.pointer (some ⟨ga, 0, none⟩), .pointer (some ⟨gb, 0, none⟩)])), .any], [.no, .no, .no, .no, .no, .hold ga xa0, .hold gb xb0]⟩) T_ok 1 hs1 (by decide) rfl ?_ fun s a2 w2 hK hs2 => ?_
  · repeat' first
      | refine awp_seq ?_
      | refine awp_block ?_
      | refine awp_skip ?_
      | (refine reg _ (by (simp only [List.map_cons, List.map_nil]; rfl)) rfl ?_; intro K hK)
      | (refine awp_cond _ (by rfl) ?_ ?_ <;> (intro hb; first | (cases hb; done) | (have ht : true = true := hb; clear ht hb) | (have ht : false = false := hb; clear ht hb) | (simp only [hb]) | skip))
      | (refine awp_exit ?_; simp only [thenA, blockA, reduceIte, RetQ, Nat.reduceEqDiff])
      | (refine awp_ret ?_; simp only [thenA, blockA, RetQ])
      | (refine ev_nil (hK _ ?_); clear hK K)
      | refine ev_guardU _ (by (simp only [go_sem]; rfl)) (by (simp only [go_sem]; rfl)) _ (by (simp only [go_sem]; rfl)) ?_
      | (refine ev_guardT _ _ (by (simp only [go_sem]; rfl)) (by (simp only [go_sem]; rfl)) ?_ ?_ <;> (intro hb; first | (cases hb; done) | (have ht : true = true := hb; clear ht hb) | (have ht : false = false := hb; clear ht hb) | (simp only [hb]) | skip))
      | (refine ev_guardF _ _ (by (simp only [go_sem]; rfl)) (by (simp only [go_sem]; rfl)) ?_ ?_ <;> (intro hb; first | (cases hb; done) | (have ht : true = true := hb; clear ht hb) | (have ht : false = false := hb; clear ht hb) | (simp only [hb]) | skip))
      | refine ev_step0 _ _ (by (simp only [go_sem]; rfl)) (by (first | trivial | decide | (simp only [inB, sliceOk, appendOk, rowsOk]; omega) | (simp [inB, sliceOk, appendOk, rowsOk]; omega))) _ (by (simp only [go_sem]; rfl)) ?_
      | (refine ev_step _ (by (simp only [go_sem]; rfl)) (by (first | trivial | decide | (simp only [inB, sliceOk, appendOk, rowsOk]; omega) | (simp [inB, sliceOk, appendOk, rowsOk]; omega))) _ (fun g u => by (simp only [go_sem]; rfl)) ?_; intro g u; (try clear u); (try clear g))
      | fail
    exact ev_nil rfl
  subst hK
  have h3 := has_lit (Act.eval_of hs2 3 rfl)
  have hsz := hs2.size
  have hfr := hs2.fr
  have hsame := hs2.two_same (C := C) (ga := ga) (gb := gb) (i := 5) (fun k h => h) rfl rfl hxa hxb
  refine ops_call rfl ⟨Try.f68, Try.func68, by kernel_rfl, rfl⟩ ?_
  have hargs : (List.map a2.eval [Operand.const (.slice none 0 0), .tmp 3]).toArray = #[.slice none 0 0, .func (.func 69) #[] #[.pointer (some ⟨ga, 0, none⟩), .pointer (some ⟨gb, 0, none⟩)]] := by
    simp only [List.map_cons, List.map_nil, h3]; rfl
  rw [hargs]
  refine (f68_calls xs hlen (w := w2) (C := C) (fun x hx => ⟨Nat.lt_of_lt_of_le (hC x hx).1 hfr.size, (hC x hx).2⟩) hne (Nat.lt_of_lt_of_le hga hfr.size) (Nat.lt_of_lt_of_le hgb hfr.size) (hit.later hsame)).mono ?_
  rintro e w3 ⟨v, rfl, hfr3, hv⟩
  refine ⟨v, rfl, ?_⟩
  have hs4 := Sat.anew (P := Try.prog) (n := 5) (a := a2.put (some 4) v) (w := w3) hs2.defers (fun b hb => ?_) (hasL_put hsz hv)
  rotate_left
  · rcases hb with hb | hb
    · exact Nat.lt_of_lt_of_le (hC b hb).1 (Nat.le_trans hfr.size hfr3.size)
    · exact hb.2
  refine Ops.env (E' := ⟨Try.prog, w3, fun b => C b ∨ ((w2.heap.size ≤ b ∨ two ga gb b) ∧ b < w3.heap.size), fun _ => False, none, []⟩) rfl rfl ?_
  refine ops_step (K := fun s => s = ⟨[.any, .any, .d (nms xs), .any, .d (nms xs)], [.no, .no, .no, .no, .no]⟩) T_ok 1 hs4 (by decide) rfl ?_ fun s a5 w5 hK hs5 => ?_
  · simp only [List.length_cons, List.length_nil, Nat.reduceAdd, List.replicate_succ, List.replicate_zero, List.set_cons_succ, List.set_cons_zero]
    repeat' first
      | refine awp_seq ?_
      | refine awp_block ?_
      | refine awp_skip ?_
      | (refine reg _ (by (simp only [List.map_cons, List.map_nil]; rfl)) rfl ?_; intro K hK)
      | (refine awp_cond _ (by rfl) ?_ ?_ <;> (intro hb; first | (cases hb; done) | (have ht : true = true := hb; clear ht hb) | (have ht : false = false := hb; clear ht hb) | (simp only [hb]) | skip))
      | (refine awp_exit ?_; simp only [thenA, blockA, reduceIte, RetQ, Nat.reduceEqDiff])
      | (refine awp_ret ?_; simp only [thenA, blockA, RetQ])
      | (refine ev_nil (hK _ ?_); clear hK K)
      | refine ev_guardU _ (by (simp only [go_sem]; rfl)) (by (simp only [go_sem]; rfl)) _ (by (simp only [go_sem]; rfl)) ?_
      | (refine ev_guardT _ _ (by (simp only [go_sem]; rfl)) (by (simp only [go_sem]; rfl)) ?_ ?_ <;> (intro hb; first | (cases hb; done) | (have ht : true = true := hb; clear ht hb) | (have ht : false = false := hb; clear ht hb) | (simp only [hb]) | skip))
      | (refine ev_guardF _ _ (by (simp only [go_sem]; rfl)) (by (simp only [go_sem]; rfl)) ?_ ?_ <;> (intro hb; first | (cases hb; done) | (have ht : true = true := hb; clear ht hb) | (have ht : false = false := hb; clear ht hb) | (simp only [hb]) | skip))
      | refine ev_step0 _ _ (by (simp only [go_sem]; rfl)) (by (first | trivial | decide | (simp only [inB, sliceOk, appendOk, rowsOk]; omega) | (simp [inB, sliceOk, appendOk, rowsOk]; omega))) _ (by (simp only [go_sem]; rfl)) ?_
      | (refine ev_step _ (by (simp only [go_sem]; rfl)) (by (first | trivial | decide | (simp only [inB, sliceOk, appendOk, rowsOk]; omega) | (simp [inB, sliceOk, appendOk, rowsOk]; omega))) _ (fun g u => by (simp only [go_sem]; rfl)) ?_; intro g u; (try clear u); (try clear g))
      | fail
    exact ev_nil rfl
  subst hK
  refine ops_end (by decide) (wpIn_ret ?_)
  have h5 := Act.eval_of hs5 2 rfl
  refine ⟨hs5.defers, _, results_tmp (t := 2) rfl _ _ _, _, rfl, ?_, ?_⟩
  · exact (hfr.trans hfr3).trans (hs5.fr.mono fun _ _ h => h.elim)
  · have hle : MemLe (Env.mem ⟨Try.prog, w3, fun b => C b ∨ ((w2.heap.size ≤ b ∨ two ga gb b) ∧ b < w3.heap.size), fun _ => False, none, []⟩ [.no, .no, .no, .no, .no] w5) ⟨w5.heap, fun b => C b ∨ ((w.heap.size ≤ b ∨ two ga gb b) ∧ b < w5.heap.size)⟩ := by
      refine ⟨fun b hb => ?_, fun _ _ => rfl⟩
      have z1 := hfr.size
      have z2 := hfr3.size
      have z3 := hs5.fr.size
      rcases hb with (hb | hb) | hb
      · exact .inl hb
      · exact .inr ⟨hb.1.imp (fun h => Nat.le_trans z1 h) id, Nat.lt_of_lt_of_le hb.2 z3⟩
      · exact .inr ⟨.inl (Nat.le_trans (Nat.le_trans z1 z2) (hb.1.resolve_right fun h => h)), hb.2.1⟩
    exact Has.mono hle _ _ h5
theorem uni_length : ∀ (f : Nat) (a b : List Nm), (uni f a b).length ≤ f
  | 0, _, _ => by simp [uni]
  | f + 1, a, b => by
    simp only [uni]
    split
    · simp
    · have := uni_length f (offHd (uniHd a b) a) (offHd (uniHd a b) b)
      simp; omega
theorem uniL_length (a b : List Nm) : (uniL a b).length ≤ a.length + b.length := uni_length _ _ _
theorem f26_spec (l : List Nm) (n : Nm) (hb0 : l.length ≤ 16777215) : Spec Try.prog 26 [.d (nms l), .agg (nm n.1 n.2)] (.d (nms (uniL l [n]))) := by
  refine ⟨⟨Try.f26, Try.func26, by kernel_rfl, rfl⟩, ?_⟩
  intro w C hC vs hv
  refine (callsIn_wide (n := 0)).1 (callsIn_of_wp (fn := Try.f26) Try.func26 rfl trivial ?_)
  have hs := sat_start (P := Try.prog) (n := 10) (holds := []) (M := fun _ => False) (fun x hx => ⟨hC x hx, fun h => h⟩) hv (by intro i x h; simp at h) (by intro i j x y g h; simp at h)
  refine awq_go (E := ⟨Try.prog, w, C, fun _ => False, none, []⟩) rfl hs ?_
  simp only [litI, litB, litS, List.length_cons, List.length_nil, Nat.reduceAdd, Nat.reduceSub, List.replicate_succ, List.replicate_zero, List.cons_append, List.nil_append]
  repeat' first
    | ((fail_if_success show AWq _ (Code.seq (Code.region 1 _ _) _) _ _); refine awq_seq ?_)
    | refine awq_block ?_
    | refine awp_seq ?_
    | refine awp_block ?_
    | refine awp_skip ?_
    | (refine reg _ (by (simp only [List.map_cons, List.map_nil]; rfl)) rfl ?_; intro K hK)
    | (refine awp_cond _ (by rfl) ?_ ?_ <;> (intro hb; first | (cases hb; done) | (have ht : true = true := hb; clear ht hb) | (have ht : false = false := hb; clear ht hb) | (simp only [hb]) | skip))
    | (refine awp_exit ?_; simp only [thenA, blockA, reduceIte, RetQ, Nat.reduceEqDiff])
    | (refine awp_ret ?_; simp only [thenA, blockA, RetQ])
    | (refine ev_nil (hK _ ?_); clear hK K)
    | refine ev_guardU _ (by (simp only [go_sem]; rfl)) (by (simp only [go_sem]; rfl)) _ (by (simp only [go_sem]; rfl)) ?_
    | (refine ev_guardT _ _ (by (simp only [go_sem]; rfl)) (by (simp only [go_sem]; rfl)) ?_ ?_ <;> (intro hb; first | (cases hb; done) | (have ht : true = true := hb; clear ht hb) | (have ht : false = false := hb; clear ht hb) | (simp only [hb]) | skip))
    | (refine ev_guardF _ _ (by (simp only [go_sem]; rfl)) (by (simp only [go_sem]; rfl)) ?_ ?_ <;> (intro hb; first | (cases hb; done) | (have ht : true = true := hb; clear ht hb) | (have ht : false = false := hb; clear ht hb) | (simp only [hb]) | skip))
    | refine ev_step0 _ _ (by (simp only [go_sem]; rfl)) (by (first | trivial | decide | (simp only [inB, sliceOk, appendOk, rowsOk]; omega) | (simp [inB, sliceOk, appendOk, rowsOk]; omega))) _ (by (simp only [go_sem]; rfl)) ?_
    | (refine ev_step _ (by (simp only [go_sem]; rfl)) (by (first | trivial | decide | (simp only [inB, sliceOk, appendOk, rowsOk]; omega) | (simp [inB, sliceOk, appendOk, rowsOk]; omega))) _ (fun g u => by (simp only [go_sem]; rfl)) ?_; intro g u; (try clear u); (try clear g))
    | fail
  refine awq_ops ?_
  intro a1 w1 hs1
  refine ops_step (K := fun s => ∃ g u, s = ⟨[.d (nms l), .agg [litI .i64 n.1, litI .i64 n.2], .any, .ptr 3 g 0, .d (.lit (.slice none 0 0)), .d (nms l), .agg [litI .i64 n.1, litI .i64 n.2], .own 7 u, .any, .any], [.no, .no, .no, .box g (nm n.1 n.2), .no, .no, .no, .row u 25 2 [[.lit (.int .i64 n.1), .lit (.int .i64 n.2)]], .no, .no]⟩) T_ok 3 hs1 (by decide) rfl ?_ fun s a2 w2 hK hs2 => ?_
  · repeat' first
      | refine awp_seq ?_
      | refine awp_block ?_
      | refine awp_skip ?_
      | (refine reg _ (by (simp only [List.map_cons, List.map_nil]; rfl)) rfl ?_; intro K hK)
      | (refine awp_cond _ (by rfl) ?_ ?_ <;> (intro hb; first | (cases hb; done) | (have ht : true = true := hb; clear ht hb) | (have ht : false = false := hb; clear ht hb) | (simp only [hb]) | skip))
      | (refine awp_exit ?_; simp only [thenA, blockA, reduceIte, RetQ, Nat.reduceEqDiff])
      | (refine awp_ret ?_; simp only [thenA, blockA, RetQ])
      | (refine ev_nil (hK _ ?_); clear hK K)
      | refine ev_guardU _ (by (simp only [go_sem]; rfl)) (by (simp only [go_sem]; rfl)) _ (by (simp only [go_sem]; rfl)) ?_
      | (refine ev_guardT _ _ (by (simp only [go_sem]; rfl)) (by (simp only [go_sem]; rfl)) ?_ ?_ <;> (intro hb; first | (cases hb; done) | (have ht : true = true := hb; clear ht hb) | (have ht : false = false := hb; clear ht hb) | (simp only [hb]) | skip))
      | (refine ev_guardF _ _ (by (simp only [go_sem]; rfl)) (by (simp only [go_sem]; rfl)) ?_ ?_ <;> (intro hb; first | (cases hb; done) | (have ht : true = true := hb; clear ht hb) | (have ht : false = false := hb; clear ht hb) | (simp only [hb]) | skip))
      | refine ev_step0 _ _ (by (simp only [go_sem]; rfl)) (by (first | trivial | decide | (simp only [inB, sliceOk, appendOk, rowsOk]; omega) | (simp [inB, sliceOk, appendOk, rowsOk]; omega))) _ (by (simp only [go_sem]; rfl)) ?_
      | (refine ev_step _ (by (simp only [go_sem]; rfl)) (by (first | trivial | decide | (simp only [inB, sliceOk, appendOk, rowsOk]; omega) | (simp [inB, sliceOk, appendOk, rowsOk]; omega))) _ (fun g u => by (simp only [go_sem]; rfl)) ?_; intro g u; (try clear u); (try clear g))
      | fail
    exact ev_nil ⟨_, _, rfl⟩
  obtain ⟨g, u, rfl⟩ := hK
  have hs3 := Wk.close (by simp only [clOkL, clOk, litI, nm]; trivial) _ _ hs2
  simp only [go_sem, clL, cl, idsOfL, idsOf, frzEff, applyEff] at hs3
  have h5 := Act.eval_of hs3 5 rfl
  have h7 := Act.eval_of hs3 7 rfl
  have hsz := hs3.size
  refine ops_call rfl ⟨Try.f55, Try.func55, by kernel_rfl, rfl⟩ ?_
  refine (f55_calls l [n] w2 _ (fun x hx => hs3.lt_C hx) _ (by simp only [List.map_cons, List.map_nil, HasL]; exact ⟨h5, h7, trivial⟩)).mono ?_
  rintro e w3 ⟨v, rfl, ga, gb, ta, tb, va, vb, C', rfl, hbel, hga, hgb, hne, h1, h2, hCC, hC', ra, rb⟩
  refine ⟨_, rfl, ?_⟩
  refine ops_call rfl ⟨Try.f54, Try.func54, by kernel_rfl, rfl⟩ ?_
  simp only [List.map_cons, List.map_nil]
  rw [eval_put_at (by rw [hsz]; simp)]
  have hlen := uniL_length l [n]
  simp only [List.length_cons, List.length_nil] at hlen
  refine (f54_calls (uniL l [n]) (by omega) (w := w3) (C := C') (fun x hx => (hC' x hx).2) hne hga.2 hgb.2 (f69_iter hne (fun x hx => (hC' x hx).2) h1 h2 ra rb)).mono ?_
  rintro e w4 ⟨v9, rfl, hfr4, hv9⟩
  refine ⟨_, rfl, ?_⟩
  have z4 := hfr4.size
  have hb4 := Below.of_fr hbel hfr4 (fun b hb => by rcases hb with rfl | rfl; exact hga.1; exact hgb.1)
  obtain ⟨hs5, hv5⟩ := hs3.fresh hb4 (by
    intro b hb
    rcases hb with hb | hb
    · have := hC' b hb
      exact ⟨this.1, Nat.lt_of_lt_of_le this.2.1 z4⟩
    · refine ⟨.inr ?_, hb.2⟩
      rcases hb.1 with h | rfl | rfl
      · exact Nat.le_trans hbel.size h
      · exact hga.1
      · exact hgb.1) hv9
  have hs6 := (hs5.put (some 8) (av := .any) (v := .func (.func 69) #[] #[.pointer (some ⟨ga, 0, none⟩), .pointer (some ⟨gb, 0, none⟩)]) (by simp only [Has])).put (some 9) (av := .d (nms (uniL l [n]))) hv5
  refine ops_step (K := fun s => ∃ t o, s = ⟨t, o⟩ ∧ t[4]? = some (.d (nms (uniL l [n])))) T_ok 1 hs6 (by decide) rfl ?_ fun s a7 w7 hK hs7 => ?_
  · simp only [St.put, List.set_cons_succ, List.set_cons_zero]
    repeat' first
      | refine awp_seq ?_
      | refine awp_block ?_
      | refine awp_skip ?_
      | (refine reg _ (by (simp only [List.map_cons, List.map_nil]; rfl)) rfl ?_; intro K hK)
      | (refine awp_cond _ (by rfl) ?_ ?_ <;> (intro hb; first | (cases hb; done) | (have ht : true = true := hb; clear ht hb) | (have ht : false = false := hb; clear ht hb) | (simp only [hb]) | skip))
      | (refine awp_exit ?_; simp only [thenA, blockA, reduceIte, RetQ, Nat.reduceEqDiff])
      | (refine awp_ret ?_; simp only [thenA, blockA, RetQ])
      | (refine ev_nil (hK _ ?_); clear hK K)
      | refine ev_guardU _ (by (simp only [go_sem]; rfl)) (by (simp only [go_sem]; rfl)) _ (by (simp only [go_sem]; rfl)) ?_
      | (refine ev_guardT _ _ (by (simp only [go_sem]; rfl)) (by (simp only [go_sem]; rfl)) ?_ ?_ <;> (intro hb; first | (cases hb; done) | (have ht : true = true := hb; clear ht hb) | (have ht : false = false := hb; clear ht hb) | (simp only [hb]) | skip))
      | (refine ev_guardF _ _ (by (simp only [go_sem]; rfl)) (by (simp only [go_sem]; rfl)) ?_ ?_ <;> (intro hb; first | (cases hb; done) | (have ht : true = true := hb; clear ht hb) | (have ht : false = false := hb; clear ht hb) | (simp only [hb]) | skip))
      | refine ev_step0 _ _ (by (simp only [go_sem]; rfl)) (by (first | trivial | decide | (simp only [inB, sliceOk, appendOk, rowsOk]; omega) | (simp [inB, sliceOk, appendOk, rowsOk]; omega))) _ (by (simp only [go_sem]; rfl)) ?_
      | (refine ev_step _ (by (simp only [go_sem]; rfl)) (by (first | trivial | decide | (simp only [inB, sliceOk, appendOk, rowsOk]; omega) | (simp [inB, sliceOk, appendOk, rowsOk]; omega))) _ (fun g u => by (simp only [go_sem]; rfl)) ?_; intro g u; (try clear u); (try clear g))
      | fail
    exact ev_nil ⟨_, _, rfl, rfl⟩
  obtain ⟨t7, o7, rfl, ht7⟩ := hK
  refine ops_end (by decide) (wpIn_ret ?_)
  have h8 := Act.eval_of hs7 4 ht7
  refine ⟨hs7.defers, _, results_tmp (t := 4) rfl _ _ _, _, rfl, ⟨hs7.fr.os, hs7.fr.tape, hs7.fr.output, hs7.fr.size, fun k hk => hs7.fr.block k hk (fun h => h)⟩, ?_⟩
  have hle : MemLe (Env.mem ⟨Try.prog, w, C, fun _ => False, none, []⟩ o7 w7) ⟨w7.heap, fun b => C b ∨ (w.heap.size ≤ b ∧ b < w7.heap.size)⟩ := by
    refine ⟨fun b hb => ?_, fun _ _ => rfl⟩
    rcases hb with hb | hb
    · exact .inl hb
    · exact .inr ⟨hb.1.resolve_right fun h => h, hb.2.1⟩
  exact Has.mono hle _ _ h8
end Go.Proofs.Ytalbfikfbejnfaa.A

/- Contains, Index; the join of cuts. -/
set_option linter.unusedVariables false
set_option linter.unusedSimpArgs false
namespace Go.Proofs.Ytalbfikfbejnfaa.A
open Go.RowKit
attribute [local go_sem] Nat.reduceAdd Nat.reduceSub Nat.reduceMul Nat.reduceLT Nat.reduceLeDiff Nat.reduceEqDiff Nat.reduceBEq reduceIte reduceCtorEq e_step_none e_slotU e_slotB e_move e_assign e_pick e_unOp e_binOp e_alloc e_box e_build e_buildSlice e_load e_store e_fieldAddr e_field e_indexAddr e_index e_slice e_makeSlice e_makeFunc e_convert e_extract e_nilCheck e_len e_append e_max e_min e_call e_callV e_clo e_ev_tmp e_ev_int e_ev_bool e_ev_string e_ev_slice e_ev_nilFunc e_ev_nilIface e_ev_pointer e_ev_agg e_ev_func e_pickT e_pickF e_not e_neg e_add e_sub e_mul e_quo e_rem e_eql e_neq e_lss e_leq e_gtr e_geq e_beq e_bne e_sadd e_seql e_sneq e_b2_d e_b2_nil e_b2_nnil e_b2_agg e_lits_nil e_lits_cons e_litC e_eqR e_eqO_e e_eqO_n e_eqV4 e_eqV3 e_eqV2 e_eqV1 e_eqFs_nil e_eqFs_cons e_and2 e_eq1 e_eqL_i e_eqL_s e_eqL_b e_allocR e_boxR e_box_agg e_box_d e_box_own e_box_clo e_one_nil e_one_d e_one_own e_one_clo e_one_ptr e_cells_agg e_cells_d e_cells_own e_cells_clo e_cells_ptr e_ob_own e_ob_ptr e_ob_elo e_ob_d e_ob_el e_ob_agg e_load_box e_load_fzb e_load_el e_load_elo e_store_box e_storeB e_store_elo e_store_elo_agg e_storeE e_fa_ptr e_fa_el e_fa_elo e_faR e_fd e_fdR e_ia_d e_ia_row e_ia_fz e_ia_ptr e_ia_el e_ix_s e_ix_a e_len_s e_len_nil e_len_d e_len_row e_len_fz e_conv_i e_conv_s e_extr e_maxR e_minR e_nil_ptr e_nil_el e_nil_elo e_rows_nil e_rows_d e_rows_row e_rows_fz e_rok_nil e_rok_d e_rok_row e_rok_fz e_app_row e_appR e_app_nil e_appN e_make e_bnd_none e_bnd_some e_optmap_none e_optmap_some e_slR e_slRe e_sl_s e_sl_d e_sl_nil e_sl_row e_sl_fz e_fill_nil e_fill_cons e_fill1 e_placeS e_plS e_placeE e_buildO e_build1 e_build2 e_build3 e_bindD e_bs e_bsR e_allD_nil e_allD_cons e_allD1 e_chunk0 e_chunkS e_clP_nil e_clP_cons e_cl_d e_cl_any e_cl_el e_cl_agg e_cl_tup e_cl_clo e_cl_own e_clOwn_row e_clOwn_fz e_cl_ptr e_clPtr_box e_clBox e_clPtr_fzb e_clL_nil e_clL_cons e_ok_d e_ok_any e_ok_el e_ok_agg e_ok_tup e_ok_clo e_ok_own e_okOwn_row e_okOwn_fz e_ok_ptr e_okPtr_box e_okPtr_fzb e_okL_nil e_okL_cons e_ids_d e_ids_any e_ids_el e_ids_own e_ids_ptr e_ids_agg e_ids_tup e_ids_clo e_idsL_nil e_idsL_cons e_frz_nil e_frz_cons e_frz_row e_frz_fz e_frz_fzb e_frz_box e_frzB e_flat_lit e_flat_sl e_flat_agg e_flat_tup e_flat_any e_flat_clo e_flatL_nil e_flatL_cons e_objD e_setMany e_takeA e_zerosA e_gdL e_idsG e_idsOp e_callV' e_callF' e_o_move e_o_assign e_o_pick e_o_unOp e_o_binOp e_o_alloc e_o_box e_o_build e_o_buildSlice e_o_load e_o_store e_o_fieldAddr e_o_field e_o_indexAddr e_o_index e_o_slice0 e_o_slice1 e_o_slice2 e_o_slice3 e_o_makeSlice e_o_makeFunc e_o_convert e_o_extract e_o_nilCheck e_o_bcall e_o_vcall litI litB litS List.map_cons List.map_nil List.getD_cons_zero List.getD_cons_succ List.getD_nil List.getElem?_cons_zero List.getElem?_cons_succ List.getElem?_nil Option.getD_some Option.getD_none Option.map_some Option.map_none List.length_cons List.length_nil List.all_cons List.all_nil Bool.and_true Bool.true_and and_true true_and and_self
attribute [local go_sem] List.take_zero List.take_succ_cons List.drop_zero List.drop_succ_cons List.nil_append List.cons_append List.append_nil List.replicate_succ List.replicate_zero List.flatten_cons List.flatten_nil Nat.zero_add Nat.add_zero Nat.mul_one Nat.zero_mul Nat.one_mul Nat.mul_zero List.set_cons_zero List.set_cons_succ List.foldl_cons List.foldl_nil appendOk rowsOk inB sliceOk cutRows mtake mdrop List.length_append List.length_take List.length_drop if_true if_false or_false or_true true_or Bool.not_true Bool.not_false Bool.false_eq_true List.length_map Int.toNat_natCast Int.toNat_zero Int.toNat_one eq_self St.after St.put applyEff R0 T1 T2 T3 T4 T5 T6 T7 T8 T9 T10 T11 T12 T13 T14 T15 T16 T17 T18 T19 T20 T21 T22 T23 T24 T25 T26 T27 T28 T29 T30 T31 T32 T33 T34 T35 T36 T37 T38 T39 T40 T41 T42 T43 T44 T45 T46 T47 T48 T49 T50 T51 T52 T53 T54 T55 T56 T57 T58 T59 T60 T61 T62 T63 T64 T65 T66 T67 T68 T69 T70 T71 T72 T73 T74 T75 T76 T77 T78 T79 T80 T81 T82 T83 T84 T85 T86 T87 T88 T89 T90 T91 T92 T93 T94 T95 T96 T97 T98 T99 T100 T101 T102 T103 T105 T106 T107 T108 T109 T110 T111 T112 T113 T114 T117 T118 T119 T120 T121 T122 T123 T124 T125 T126 T127 T130 T131 T132 T133 T134 ti1 ti2 ti3 ti4 ti5 ti6 ti7 ti8 ti9 ti10 ti11 ti12 ti13 ti14 ti15 ti16 ti17 ti18 ti19 ti20 ti21 ti22 ti23 ti24 ti25 ti26 ti27 ti28 ti29 ti30 ti31 ti32 ti33 ti34 ti35 ti36 ti37 ti38 ti39 ti40 ti41 ti42 ti43 ti44 ti45 ti46 ti47 ti48 ti49 ti50 ti51 ti52 ti53 ti54 ti55 ti56 ti57 ti58 ti59 ti60 ti61 ti62 ti63 ti64 ti65 ti66 ti67 ti68 ti69 ti70 ti71 ti72 ti73 ti74 ti75 ti76 ti77 ti78 ti79 ti80 ti81 ti82 ti83 ti84 ti85 ti86 ti87 ti88 ti89 ti90 ti91 ti92 ti93 ti94 ti95 ti96 ti97 ti98 ti99 ti100 ti101 ti102 ti103 ti105 ti106 ti107 ti108 ti109 ti110 ti111 ti112 ti113 ti114 ti117 ti118 ti119 ti120 ti121 ti122 ti123 ti124 ti125 ti126 ti127 ti130 ti131 ti132 ti133 ti134
attribute [local irreducible] AWp evOps evD
theorem f78_spec (l : List Nm) (n : Nm) : Spec Try.prog 78 [.d (nms l), .agg (nm n.1 n.2)] (litI .i64 (idxN (fun x => nmEq n x) l 0)) := by
  refine spec_of_awp (fn := Try.f78) Try.func78 (by kernel_rfl) rfl ?_
  intro w0 C0
  simp only [Try.ntmps78, litI, litB, litS, List.length_cons, List.length_nil, Nat.reduceAdd, Nat.reduceSub, List.replicate_succ, List.replicate_zero, List.cons_append, List.nil_append]
  refine awp_len 0 rfl fun hl => ?_
  simp only [List.length_map] at hl
  repeat' first
    | refine awp_seq ?_
    | refine awp_block ?_
    | refine awp_skip ?_
    | (refine reg _ (by (simp only [List.map_cons, List.map_nil]; rfl)) rfl ?_; intro K hK)
    | (refine awp_cond _ (by rfl) ?_ ?_ <;> (intro hb; first | (cases hb; done) | (have ht : true = true := hb; clear ht hb) | (have ht : false = false := hb; clear ht hb) | (simp only [hb]) | skip))
    | (refine awp_exit ?_; simp only [thenA, blockA, reduceIte, RetQ, Nat.reduceEqDiff])
    | (refine awp_ret ?_; simp only [thenA, blockA, RetQ])
    | (refine ev_nil (hK _ ?_); clear hK K)
    | refine ev_step0 _ _ (by (simp only [go_sem]; rfl)) (by (first | trivial | decide | (simp only [inB, sliceOk, appendOk, rowsOk]; omega) | (simp [inB, sliceOk, appendOk, rowsOk]; omega))) _ (by (simp only [go_sem]; rfl)) ?_
    | (refine ev_step _ (by (simp only [go_sem]; rfl)) (by (first | trivial | decide | (simp only [inB, sliceOk, appendOk, rowsOk]; omega) | (simp [inB, sliceOk, appendOk, rowsOk]; omega))) _ (fun g u => by (simp only [go_sem]; rfl)) ?_; intro g u; (try clear u); (try clear g))
    | fail
  refine awp_loopI (fun i => i ≤ l.length ∧ idxN (fun x => nmEq n x) l 0 = idxN (fun x => nmEq n x) (l.drop i) i) (fun i => l.length - i) (fun i => ⟨[.d (nms l), .any, .any, .ptr 3 g 0, litI .i64 0, .any, .d (nms l), litI .i64 l.length, litI .i64 i, .any, .any, .any, .any, .any, .any, .any, .any, .any, .any], [.no, .no, .no, .box g (nm n.1 n.2), .no, .no, .no, .no, .no, .no, .no, .no, .no, .no, .no, .no, .no, .no, .no]⟩) 0 ⟨by omega, rfl⟩ ?_ ?_
  · refine Wk.mk ?_ ?_
    all_goals (repeat' first | exact trivial | exact LeA.refl _ | exact LeA.any _ | exact LeO.refl _ | exact LeO.no _ | exact LeA.nil _ | (refine LeA.i ?_; (first | rfl | (push_cast; rfl) | (rw [wrap_id (by omega)]; push_cast; omega) | (simp [wrap_id]; omega))) | refine ⟨?_, ?_⟩)
  rintro i ⟨hi, hfi⟩
  simp only [litI, litB]
  by_cases hlt : i < l.length
  rotate_left
  have hdec : decide ((i : Int) < (l.length : Int)) = false := by simp; omega
  · repeat' first
      | refine awp_seq ?_
      | refine awp_block ?_
      | refine awp_skip ?_
      | (refine reg _ (by (simp only [List.map_cons, List.map_nil]; rfl)) rfl ?_; intro K hK)
      | (refine awp_cond _ (by rfl) ?_ ?_ <;> (intro hb; first | (cases hb; done) | (have ht : true = true := hb; clear ht hb) | (have ht : false = false := hb; clear ht hb) | (simp only [hb]) | skip))
      | (refine awp_exit ?_; simp only [thenA, blockA, reduceIte, RetQ, Nat.reduceEqDiff])
      | (refine awp_ret ?_; simp only [thenA, blockA, RetQ])
      | (refine ev_nil (hK _ ?_); clear hK K)
      | refine ev_step0 _ _ (by (simp only [go_sem, hdec]; rfl)) (by (first | trivial | decide | (simp only [inB, sliceOk, appendOk, rowsOk]; omega) | (simp [inB, sliceOk, appendOk, rowsOk]; omega))) _ (by (simp only [go_sem, hdec]; rfl)) ?_
      | (refine ev_step _ (by (simp only [go_sem, hdec]; rfl)) (by (first | trivial | decide | (simp only [inB, sliceOk, appendOk, rowsOk]; omega) | (simp [inB, sliceOk, appendOk, rowsOk]; omega))) _ (fun g u => by (simp only [go_sem, hdec]; rfl)) ?_; intro g u; (try clear u); (try clear g))
      | fail
    all_goals (refine resR_one T_ok rfl _ (by (simp only [go_sem, resA]; rfl)) (by first | trivial | (simp only [go_sem, resA])) (by first | trivial | (simp only [go_sem])) ?_; simp only [go_sem])
    refine LeA.i ?_
    rw [hfi, List.drop_eq_nil_of_le (by omega)]; rfl
  have hdec : decide ((i : Int) < (l.length : Int)) = true := by simp; omega
  have hx := nms_at l hlt
  rw [drop_at l (0, 0) hlt] at hfi
  generalize l.getD i (0, 0) = x at *
  repeat' first
    | refine awp_seq ?_
    | refine awp_block ?_
    | refine awp_skip ?_
    | (refine reg _ (by (simp only [List.map_cons, List.map_nil]; rfl)) rfl ?_; intro K hK)
    | (refine awp_cond _ (by rfl) ?_ ?_ <;> (intro hb; first | (cases hb; done) | (have ht : true = true := hb; clear ht hb) | (have ht : false = false := hb; clear ht hb) | (simp only [hb]) | skip))
    | (refine awp_exit ?_; simp only [thenA, blockA, reduceIte, RetQ, Nat.reduceEqDiff])
    | (refine awp_ret ?_; simp only [thenA, blockA, RetQ])
    | (refine ev_nil (hK _ ?_); clear hK K)
    | (apply regD; (case hd => (simp only [List.map_cons, List.map_nil]; rfl)); (case hok => rfl); (case' h => (intro K hK; (repeat' first
        | (apply evd_nil; refine (hK _ ?_); clear hK K)
        | (apply evd_step0; (case hr => (simp only [go_sem, hdec, hx]; try rfl)); (case hi => (simp only [go_sem, hdec, hx]; try rfl)); (case hc => (first | trivial | decide | (simp only [inB, sliceOk, appendOk, rowsOk]; omega) | (simp [inB, sliceOk, appendOk, rowsOk]; omega))); (case hσ => (simp only [go_sem, hdec, hx]; try rfl)))
        | (apply evd_step; (case hr => (simp only [go_sem, hdec, hx]; try rfl)); (case hi => (simp only [go_sem, hdec, hx]; try rfl)); (case hc => (first | trivial | decide | (simp only [inB, sliceOk, appendOk, rowsOk]; omega) | (simp [inB, sliceOk, appendOk, rowsOk]; omega))); (case hw => (intro g u; simp only [go_sem, hdec, hx]; try rfl)); (case hσ => (intro g u; simp only [go_sem, hdec, hx]; try rfl)); (case' hk => (intro g u; (try clear u); (try clear g))))
        | fail))); (case hB => kernel_rfl))
    | refine ev_step0 _ _ (by (simp only [go_sem, hdec, hx]; rfl)) (by (first | trivial | decide | (simp only [inB, sliceOk, appendOk, rowsOk]; omega) | (simp [inB, sliceOk, appendOk, rowsOk]; omega))) _ (by (simp only [go_sem, hdec, hx]; rfl)) ?_
    | (refine ev_step _ (by (simp only [go_sem, hdec, hx]; rfl)) (by (first | trivial | decide | (simp only [inB, sliceOk, appendOk, rowsOk]; omega) | (simp [inB, sliceOk, appendOk, rowsOk]; omega))) _ (fun g u => by (simp only [go_sem, hdec, hx]; rfl)) ?_; intro g u; (try clear u); (try clear g))
    | fail
  · all_goals (refine resR_one T_ok rfl _ (by (simp only [go_sem, resA]; rfl)) (by first | trivial | (simp only [go_sem, resA])) (by first | trivial | (simp only [go_sem])) ?_; simp only [go_sem])
    refine LeA.i ?_
    rw [hfi]; simp_all [idxN, nmEq]
  · refine Exists.intro (i + 1) ⟨⟨by omega, ?_⟩, by omega, ?_⟩
    · rw [hfi]; simp_all [idxN, nmEq]
    · refine Wk.mk ?_ ?_
      all_goals (repeat' first | exact trivial | exact LeA.refl _ | exact LeA.any _ | exact LeO.refl _ | exact LeO.no _ | exact LeA.nil _ | (refine LeA.i ?_; (first | rfl | (push_cast; rfl) | (rw [wrap_id (by omega)]; push_cast; omega) | (simp [wrap_id]; omega))) | refine ⟨?_, ?_⟩)
theorem f71_spec (l : List Nm) (n : Nm) : Spec Try.prog 71 [.d (nms l), .agg (nm n.1 n.2)] (litB (l.any fun x => nmEq n x)) := by
  refine spec_of_awp (fn := Try.f71) Try.func71 (by kernel_rfl) rfl ?_
  intro w0 C0
  simp only [Try.ntmps71, litI, litB, litS, List.length_cons, List.length_nil, Nat.reduceAdd, Nat.reduceSub, List.replicate_succ, List.replicate_zero, List.cons_append, List.nil_append]
  repeat' first
    | refine awp_seq ?_
    | refine awp_block ?_
    | refine awp_skip ?_
    | (refine reg _ (by (simp only [List.map_cons, List.map_nil]; rfl)) rfl ?_; intro K hK)
    | (refine awp_cond _ (by rfl) ?_ ?_ <;> (intro hb; first | (cases hb; done) | (have ht : true = true := hb; clear ht hb) | (have ht : false = false := hb; clear ht hb) | (simp only [hb]) | skip))
    | (refine awp_exit ?_; simp only [thenA, blockA, reduceIte, RetQ, Nat.reduceEqDiff])
    | (refine awp_ret ?_; simp only [thenA, blockA, RetQ])
    | (refine ev_nil (hK _ ?_); clear hK K)
    | refine ev_call0 _ _ (by (simp only [go_sem]; rfl)) (by first | exact f78_spec ..) (by (simp only [go_sem])) _ (by (simp only [go_sem]; rfl)) ?_
    | refine ev_callC _ _ _ _ (by (simp only [go_sem]; rfl)) (by (simp only [go_sem]; rfl)) (by first | exact f78_spec ..) (by (simp only [go_sem])) _ (by (simp only [go_sem]; rfl)) ?_
    | refine ev_step0 _ _ (by (simp only [go_sem]; rfl)) (by (first | trivial | decide | (simp only [inB, sliceOk, appendOk, rowsOk]; omega) | (simp [inB, sliceOk, appendOk, rowsOk]; omega))) _ (by (simp only [go_sem]; rfl)) ?_
    | (refine ev_step _ (by (simp only [go_sem]; rfl)) (by (first | trivial | decide | (simp only [inB, sliceOk, appendOk, rowsOk]; omega) | (simp [inB, sliceOk, appendOk, rowsOk]; omega))) _ (fun g u => by (simp only [go_sem]; rfl)) ?_; intro g u; (try clear u); (try clear g))
    | fail
  all_goals (refine resR_one T_ok rfl _ (by (simp only [go_sem, resA]; rfl)) (by first | trivial | (simp only [go_sem, resA])) (by first | trivial | (simp only [go_sem])) ?_; simp only [go_sem])
  exact LeA.b (idxN_any (fun x => nmEq n x) l 0)
theorem f77_spec (a b : Int) : Spec Try.prog 77 [litI .i64 a, litI .i64 b] (litI .i64 (max a b)) := by
  refine spec_of_awp (fn := Try.f77) Try.func77 (by kernel_rfl) rfl ?_
  intro w0 C0
  simp only [Try.ntmps77, litI, litB, litS, List.length_cons, List.length_nil, Nat.reduceAdd, Nat.reduceSub, List.replicate_succ, List.replicate_zero, List.cons_append, List.nil_append]
  repeat' first
    | refine awp_seq ?_
    | refine awp_block ?_
    | refine awp_skip ?_
    | (refine reg _ (by (simp only [List.map_cons, List.map_nil]; rfl)) rfl ?_; intro K hK)
    | (refine awp_cond _ (by rfl) ?_ ?_ <;> (intro hb; first | (cases hb; done) | (have ht : true = true := hb; clear ht hb) | (have ht : false = false := hb; clear ht hb) | (simp only [hb]) | skip))
    | (refine awp_exit ?_; simp only [thenA, blockA, reduceIte, RetQ, Nat.reduceEqDiff])
    | (refine awp_ret ?_; simp only [thenA, blockA, RetQ])
    | (refine ev_nil (hK _ ?_); clear hK K)
    | refine ev_step0 _ _ (by (simp only [go_sem]; rfl)) (by (first | trivial | decide | (simp only [inB, sliceOk, appendOk, rowsOk]; omega) | (simp [inB, sliceOk, appendOk, rowsOk]; omega))) _ (by (simp only [go_sem]; rfl)) ?_
    | (refine ev_step _ (by (simp only [go_sem]; rfl)) (by (first | trivial | decide | (simp only [inB, sliceOk, appendOk, rowsOk]; omega) | (simp [inB, sliceOk, appendOk, rowsOk]; omega))) _ (fun g u => by (simp only [go_sem]; rfl)) ?_; intro g u; (try clear u); (try clear g))
    | fail
  all_goals (refine resR_one T_ok rfl _ (by (simp only [go_sem, resA]; rfl)) (by first | trivial | (simp only [go_sem, resA])) (by first | trivial | (simp only [go_sem])) ?_; simp only [go_sem])
  refine LeA.i ?_
  rw [Int.max_def]; split <;> split <;> omega
def mixL (a b : List Int) (i : Nat) : List Int := (List.zipWith max a b).take i ++ a.drop i
theorem mixL_length (a b : List Int) (i : Nat) (h : i ≤ a.length) (hb : b.length = a.length) : (mixL a b i).length = a.length := by simp [mixL]; omega
theorem mixL_get (a b : List Int) (i : Nat) (h : i < a.length) (hb : b.length = a.length) : (mixL a b i).getD i 0 = a.getD i 0 := by
  have h1 : ((List.zipWith max a b).take i).length = i := by simp; omega
  simp only [mixL, List.getD_eq_getElem?_getD]
  rw [List.getElem?_append_right (by omega), h1, Nat.sub_self, List.getElem?_drop, Nat.add_zero]
theorem mixL_set (a b : List Int) (i : Nat) (h : i < a.length) (hb : b.length = a.length) : (mixL a b i).set i (max (a.getD i 0) (b.getD i 0)) = mixL a b (i + 1) := by
  have h1 : ((List.zipWith max a b).take i).length = i := by simp; omega
  unfold mixL
  rw [List.set_append_right _ _ (by omega), h1, Nat.sub_self, drop_at a 0 h, List.set_cons_zero, zip_take a b h (by omega)]
  simp
theorem join_badL {a b : List Int} (h : cutsOk a b = false) : LeL [.d (.lit (.slice none 0 0)), .d (.lit (.int .i64 200))] [.d (ints (joinL a b)), .d (.lit (.int .i64 (joinE a b)))] := by
  refine ⟨?_, ?_, trivial⟩
  · have : joinL a b = [] := by simp [joinL, h]
    rw [this]; exact LeA.nil 1
  · exact LeA.i (by simp [joinE, h])
theorem f76_spec (a b : List Int) : Spec Try.prog 76 [.d (ints a), .d (ints b), .d (.lit (.func (.func 77) #[] #[]))] (.tup [.d (ints (joinL a b)), litI .i64 (joinE a b)]) := by
  have hfn := IsFn.lit 77
  by_cases hok : cutsOk a b = true
  · have ha : a.length = 6 := by simp [cutsOk, cutV] at hok; omega
    have hb6 : b.length = 6 := by simp [cutsOk, cutV] at hok; omega
    have h1 : cutV a = true := by simp [cutsOk] at hok; exact hok.1
    have h2 : cutV b = true := by simp [cutsOk] at hok; exact hok.2
    have h82 := f82_spec a (by omega)
    refine spec_of_awp (fn := Try.f76) Try.func76 (by kernel_rfl) rfl ?_
    intro w0 C0
    simp only [Try.ntmps76, litI, litB, litS, List.length_cons, List.length_nil, Nat.reduceAdd, Nat.reduceSub, List.replicate_succ, List.replicate_zero, List.cons_append, List.nil_append]
    repeat' first
      | refine awp_seq ?_
      | refine awp_block ?_
      | refine awp_skip ?_
      | (refine reg _ (by (simp only [List.map_cons, List.map_nil]; rfl)) rfl ?_; intro K hK)
      | (refine awp_cond _ (by rfl) ?_ ?_ <;> (intro hb; first | (cases hb; done) | (have ht : true = true := hb; clear ht hb) | (have ht : false = false := hb; clear ht hb) | (simp only [hb]) | skip))
      | (refine awp_exit ?_; simp only [thenA, blockA, reduceIte, RetQ, Nat.reduceEqDiff])
      | (refine awp_ret ?_; simp only [thenA, blockA, RetQ])
      | (refine ev_nil (hK _ ?_); clear hK K)
      | refine ev_guardU _ (by (simp only [go_sem, h1, h2]; rfl)) (by (simp only [go_sem, h1, h2]; rfl)) _ (by (simp only [go_sem, h1, h2]; rfl)) ?_
      | (refine ev_guardT _ _ (by (simp only [go_sem, h1, h2]; rfl)) (by (simp only [go_sem, h1, h2]; rfl)) ?_ ?_ <;> (intro hb; first | (cases hb; done) | (have ht : true = true := hb; clear ht hb) | (have ht : false = false := hb; clear ht hb) | (simp only [hb]) | skip))
      | (refine ev_guardF _ _ (by (simp only [go_sem, h1, h2]; rfl)) (by (simp only [go_sem, h1, h2]; rfl)) ?_ ?_ <;> (intro hb; first | (cases hb; done) | (have ht : true = true := hb; clear ht hb) | (have ht : false = false := hb; clear ht hb) | (simp only [hb]) | skip))
      | refine ev_call0 _ _ (by (simp only [go_sem, h1, h2]; rfl)) (by first | exact f51_spec ..) (by (simp only [go_sem, h1, h2])) _ (by (simp only [go_sem, h1, h2]; rfl)) ?_
      | refine ev_callC _ _ _ _ (by (simp only [go_sem, h1, h2]; rfl)) (by (simp only [go_sem, h1, h2]; rfl)) (by first | exact f51_spec ..) (by (simp only [go_sem, h1, h2])) _ (by (simp only [go_sem, h1, h2]; rfl)) ?_
      | (refine ev_callF0 _ _ _ _ (by (simp only [go_sem, h1, h2]; rfl)) (by first | exact h82 ..) (by (simp only [go_sem, h1, h2])) (by simp) _ (fun u => by (simp only [go_sem, h1, h2]; rfl)) ?_; intro u)
      | refine ev_step0 _ _ (by (simp only [go_sem, h1, h2]; rfl)) (by (first | trivial | decide | (simp only [inB, sliceOk, appendOk, rowsOk]; omega) | (simp [inB, sliceOk, appendOk, rowsOk]; omega))) _ (by (simp only [go_sem, h1, h2]; rfl)) ?_
      | (refine ev_step _ (by (simp only [go_sem, h1, h2]; rfl)) (by (first | trivial | decide | (simp only [inB, sliceOk, appendOk, rowsOk]; omega) | (simp [inB, sliceOk, appendOk, rowsOk]; omega))) _ (fun g u => by (simp only [go_sem, h1, h2]; rfl)) ?_; intro g u; (try clear u); (try clear g))
      | fail
    refine awp_loopI (fun i : Nat => i ≤ b.length) (fun i => b.length - i) (fun i => ⟨[.any, .d (ints b), .d (.lit (.func (.func 77) #[] #[])), .any, .any, .any, .any, .any, .own 20 u, .any, .any, .any, .any, .any, .any, .any, .any, .any, .any, .any, .any, .d (ints b), litI .i64 b.length, litI .i64 i, .any, .any, .any, .any, .any, .any, .any, .any, .any, .any, .any, .any, .any, .any, .any, .any], [.no, .no, .no, .no, .no, .no, .no, .no, .no, .no, .no, .no, .no, .no, .no, .no, .no, .no, .no, .no, .row u 3 1 ((mixL a b i).map fun n => [.lit (.int .i64 n)]), .no, .no, .no, .no, .no, .no, .no, .no, .no, .no, .no, .no, .no, .no, .no, .no, .no, .no, .no]⟩) 0 (by simp) ?_ ?_
    · refine Wk.mk ?_ ?_
      all_goals (repeat' first | exact trivial | exact LeA.refl _ | exact LeA.any _ | exact LeO.refl _ | exact LeO.no _ | exact LeA.nil _ | (refine LeA.i ?_; (first | rfl | (push_cast; rfl) | (rw [wrap_id (by omega)]; push_cast; omega) | (simp [mixL, wrap_id]; omega))) | refine ⟨?_, ?_⟩)
    intro i hi
    simp only [litI, litB] at hi ⊢
    by_cases hlt : i < b.length
    rotate_left
    have hdec : decide ((i : Int) < (b.length : Int)) = false := by simp; omega
    · repeat' first
        | refine awp_seq ?_
        | refine awp_block ?_
        | refine awp_skip ?_
        | (refine reg _ (by (simp only [List.map_cons, List.map_nil]; rfl)) rfl ?_; intro K hK)
        | (refine awp_cond _ (by rfl) ?_ ?_ <;> (intro hb; first | (cases hb; done) | (have ht : true = true := hb; clear ht hb) | (have ht : false = false := hb; clear ht hb) | (simp only [hb]) | skip))
        | (refine awp_exit ?_; simp only [thenA, blockA, reduceIte, RetQ, Nat.reduceEqDiff])
        | (refine awp_ret ?_; simp only [thenA, blockA, RetQ])
        | (refine ev_nil (hK _ ?_); clear hK K)
        | refine ev_guardU _ (by (simp only [go_sem, hdec]; rfl)) (by (simp only [go_sem, hdec]; rfl)) _ (by (simp only [go_sem, hdec]; rfl)) ?_
        | (refine ev_guardT _ _ (by (simp only [go_sem, hdec]; rfl)) (by (simp only [go_sem, hdec]; rfl)) ?_ ?_ <;> (intro hb; first | (cases hb; done) | (have ht : true = true := hb; clear ht hb) | (have ht : false = false := hb; clear ht hb) | (simp only [hb]) | skip))
        | (refine ev_guardF _ _ (by (simp only [go_sem, hdec]; rfl)) (by (simp only [go_sem, hdec]; rfl)) ?_ ?_ <;> (intro hb; first | (cases hb; done) | (have ht : true = true := hb; clear ht hb) | (have ht : false = false := hb; clear ht hb) | (simp only [hb]) | skip))
        | refine ev_step0 _ _ (by (simp only [go_sem, hdec]; rfl)) (by (first | trivial | decide | (simp only [inB, sliceOk, appendOk, rowsOk]; omega) | (simp [inB, sliceOk, appendOk, rowsOk]; omega))) _ (by (simp only [go_sem, hdec]; rfl)) ?_
        | (refine ev_step _ (by (simp only [go_sem, hdec]; rfl)) (by (first | trivial | decide | (simp only [inB, sliceOk, appendOk, rowsOk]; omega) | (simp [inB, sliceOk, appendOk, rowsOk]; omega))) _ (fun g u => by (simp only [go_sem, hdec]; rfl)) ?_; intro g u; (try clear u); (try clear g))
        | fail
      all_goals (refine resR_more T_ok rfl (by decide) _ (by (simp only [go_sem, resA]; rfl)) (by (intro rv hrv; simp only [List.mem_cons, List.not_mem_nil, or_false] at hrv; rcases hrv with rfl | rfl <;> first | trivial | simp only [go_sem, resA])) (by first | trivial | (simp only [go_sem])) ?_; simp only [go_sem])
      have hi6 : i = a.length := by omega
      refine ⟨LeA.s ?_, LeA.i (by simp [joinE, hok]), trivial⟩
      simp only [joinL, hok, if_true, mixL]
      rw [hi6, List.drop_length, List.append_nil, List.take_of_length_le (by simp; omega)]
    have hdec : decide ((i : Int) < (b.length : Int)) = true := by simp; omega
    have hlen := mixL_length a b i (by omega) (by omega)
    have hg := mixL_get a b i (by omega) (by omega)
    have hset := mixL_set a b i (by omega) (by omega)
    have hx := ints_at (mixL a b i) (i := i) (by omega)
    have hy := ints_at b hlt
    rw [hg] at hx
    generalize a.getD i 0 = x at *
    generalize b.getD i 0 = y at *
    repeat' first
      | refine awp_seq ?_
      | refine awp_block ?_
      | refine awp_skip ?_
      | (refine reg _ (by (simp only [List.map_cons, List.map_nil]; rfl)) rfl ?_; intro K hK)
      | (refine awp_cond _ (by rfl) ?_ ?_ <;> (intro hb; first | (cases hb; done) | (have ht : true = true := hb; clear ht hb) | (have ht : false = false := hb; clear ht hb) | (simp only [hb]) | skip))
      | (refine awp_exit ?_; simp only [thenA, blockA, reduceIte, RetQ, Nat.reduceEqDiff])
      | (refine awp_ret ?_; simp only [thenA, blockA, RetQ])
      | (refine ev_nil (hK _ ?_); clear hK K)
      | refine ev_guardU _ (by (simp only [go_sem, hdec, hx, hy]; rfl)) (by (simp only [go_sem, hdec, hx, hy]; rfl)) _ (by (simp only [go_sem, hdec, hx, hy]; rfl)) ?_
      | (refine ev_guardT _ _ (by (simp only [go_sem, hdec, hx, hy]; rfl)) (by (simp only [go_sem, hdec, hx, hy]; rfl)) ?_ ?_ <;> (intro hb; first | (cases hb; done) | (have ht : true = true := hb; clear ht hb) | (have ht : false = false := hb; clear ht hb) | (simp only [hb]) | skip))
      | (refine ev_guardF _ _ (by (simp only [go_sem, hdec, hx, hy]; rfl)) (by (simp only [go_sem, hdec, hx, hy]; rfl)) ?_ ?_ <;> (intro hb; first | (cases hb; done) | (have ht : true = true := hb; clear ht hb) | (have ht : false = false := hb; clear ht hb) | (simp only [hb]) | skip))
      | refine ev_call0 _ _ (by (simp only [go_sem, hdec, hx, hy]; rfl)) (by first | exact f77_spec ..) (by (simp only [go_sem, hdec, hx, hy])) _ (by (simp only [go_sem, hdec, hx, hy]; rfl)) ?_
      | refine ev_callC _ _ _ _ (by (simp only [go_sem, hdec, hx, hy]; rfl)) (by (simp only [go_sem, hdec, hx, hy]; rfl)) (by first | exact f77_spec ..) (by (simp only [go_sem, hdec, hx, hy])) _ (by (simp only [go_sem, hdec, hx, hy]; rfl)) ?_
      | refine ev_callFn hfn _ _ (by (simp only [go_sem, hdec, hx, hy])) (by (simp only [go_sem, hdec, hx, hy]; rfl)) ((f77_spec _ _)) (by (simp only [go_sem, hdec, hx, hy])) _ (by (simp only [go_sem, hdec, hx, hy]; rfl)) ?_
      | refine ev_step0 _ _ (by (simp only [go_sem, hdec, hx, hy]; rfl)) (by (first | trivial | decide | (simp only [inB, sliceOk, appendOk, rowsOk]; omega) | (simp [inB, sliceOk, appendOk, rowsOk]; omega))) _ (by (simp only [go_sem, hdec, hx, hy]; rfl)) ?_
      | (refine ev_step _ (by (simp only [go_sem, hdec, hx, hy]; rfl)) (by (first | trivial | decide | (simp only [inB, sliceOk, appendOk, rowsOk]; omega) | (simp [inB, sliceOk, appendOk, rowsOk]; omega))) _ (fun g u => by (simp only [go_sem, hdec, hx, hy]; rfl)) ?_; intro g u; (try clear u); (try clear g))
      | fail
    refine Exists.intro (i + 1) ⟨by omega, by omega, ?_⟩
    have ho : ((mixL a b i).map fun n => [Dat.lit (.int .i64 n)]).set i [Dat.lit (.int .i64 (max x y))] = (mixL a b (i + 1)).map fun n => [Dat.lit (.int .i64 n)] := by
      rw [← hset, List.map_set]
    simp only [ho]
    refine Wk.mk ?_ ?_
    all_goals (repeat' first | exact trivial | exact LeA.refl _ | exact LeA.any _ | exact LeO.refl _ | exact LeO.no _ | exact LeA.nil _ | (refine LeA.i ?_; (first | rfl | (push_cast; rfl) | (rw [wrap_id (by omega)]; push_cast; omega) | (simp [wrap_id]; omega))) | refine ⟨?_, ?_⟩)
  · have hok' : cutsOk a b = false := by simpa using hok
    cases h1 : cutV a with
    | false =>
      refine spec_of_awp (fn := Try.f76) Try.func76 (by kernel_rfl) rfl ?_
      intro w0 C0
      simp only [Try.ntmps76, litI, litB, litS, List.length_cons, List.length_nil, Nat.reduceAdd, Nat.reduceSub, List.replicate_succ, List.replicate_zero, List.cons_append, List.nil_append]
      repeat' first
        | refine awp_seq ?_
        | refine awp_block ?_
        | refine awp_skip ?_
        | (refine reg _ (by (simp only [List.map_cons, List.map_nil]; rfl)) rfl ?_; intro K hK)
        | (refine awp_cond _ (by rfl) ?_ ?_ <;> (intro hb; first | (cases hb; done) | (have ht : true = true := hb; clear ht hb) | (have ht : false = false := hb; clear ht hb) | (simp only [hb]) | skip))
        | (refine awp_exit ?_; simp only [thenA, blockA, reduceIte, RetQ, Nat.reduceEqDiff])
        | (refine awp_ret ?_; simp only [thenA, blockA, RetQ])
        | (refine ev_nil (hK _ ?_); clear hK K)
        | refine ev_guardU _ (by (simp only [go_sem, h1]; rfl)) (by (simp only [go_sem, h1]; rfl)) _ (by (simp only [go_sem, h1]; rfl)) ?_
        | (refine ev_guardT _ _ (by (simp only [go_sem, h1]; rfl)) (by (simp only [go_sem, h1]; rfl)) ?_ ?_ <;> (intro hb; first | (cases hb; done) | (have ht : true = true := hb; clear ht hb) | (have ht : false = false := hb; clear ht hb) | (simp only [hb]) | skip))
        | (refine ev_guardF _ _ (by (simp only [go_sem, h1]; rfl)) (by (simp only [go_sem, h1]; rfl)) ?_ ?_ <;> (intro hb; first | (cases hb; done) | (have ht : true = true := hb; clear ht hb) | (have ht : false = false := hb; clear ht hb) | (simp only [hb]) | skip))
        | refine ev_call0 _ _ (by (simp only [go_sem, h1]; rfl)) (by first | exact f51_spec ..) (by (simp only [go_sem, h1])) _ (by (simp only [go_sem, h1]; rfl)) ?_
        | refine ev_callC _ _ _ _ (by (simp only [go_sem, h1]; rfl)) (by (simp only [go_sem, h1]; rfl)) (by first | exact f51_spec ..) (by (simp only [go_sem, h1])) _ (by (simp only [go_sem, h1]; rfl)) ?_
        | refine ev_step0 _ _ (by (simp only [go_sem, h1]; rfl)) (by (first | trivial | decide | (simp only [inB, sliceOk, appendOk, rowsOk]; omega) | (simp [inB, sliceOk, appendOk, rowsOk]; omega))) _ (by (simp only [go_sem, h1]; rfl)) ?_
        | (refine ev_step _ (by (simp only [go_sem, h1]; rfl)) (by (first | trivial | decide | (simp only [inB, sliceOk, appendOk, rowsOk]; omega) | (simp [inB, sliceOk, appendOk, rowsOk]; omega))) _ (fun g u => by (simp only [go_sem, h1]; rfl)) ?_; intro g u; (try clear u); (try clear g))
        | fail
      all_goals (refine resR_more T_ok rfl (by decide) _ (by (simp only [go_sem, resA]; rfl)) (by (intro rv hrv; simp only [List.mem_cons, List.not_mem_nil, or_false] at hrv; rcases hrv with rfl | rfl <;> first | trivial | simp only [go_sem, resA])) (by first | trivial | (simp only [go_sem])) ?_; simp only [go_sem])
      exact join_badL hok'
    | true =>
      have h2 : cutV b = false := by simp [cutsOk, h1] at hok'; exact hok'
      refine spec_of_awp (fn := Try.f76) Try.func76 (by kernel_rfl) rfl ?_
      intro w0 C0
      simp only [Try.ntmps76, litI, litB, litS, List.length_cons, List.length_nil, Nat.reduceAdd, Nat.reduceSub, List.replicate_succ, List.replicate_zero, List.cons_append, List.nil_append]
      repeat' first
        | refine awp_seq ?_
        | refine awp_block ?_
        | refine awp_skip ?_
        | (refine reg _ (by (simp only [List.map_cons, List.map_nil]; rfl)) rfl ?_; intro K hK)
        | (refine awp_cond _ (by rfl) ?_ ?_ <;> (intro hb; first | (cases hb; done) | (have ht : true = true := hb; clear ht hb) | (have ht : false = false := hb; clear ht hb) | (simp only [hb]) | skip))
        | (refine awp_exit ?_; simp only [thenA, blockA, reduceIte, RetQ, Nat.reduceEqDiff])
        | (refine awp_ret ?_; simp only [thenA, blockA, RetQ])
        | (refine ev_nil (hK _ ?_); clear hK K)
        | refine ev_guardU _ (by (simp only [go_sem, h1, h2]; rfl)) (by (simp only [go_sem, h1, h2]; rfl)) _ (by (simp only [go_sem, h1, h2]; rfl)) ?_
        | (refine ev_guardT _ _ (by (simp only [go_sem, h1, h2]; rfl)) (by (simp only [go_sem, h1, h2]; rfl)) ?_ ?_ <;> (intro hb; first | (cases hb; done) | (have ht : true = true := hb; clear ht hb) | (have ht : false = false := hb; clear ht hb) | (simp only [hb]) | skip))
        | (refine ev_guardF _ _ (by (simp only [go_sem, h1, h2]; rfl)) (by (simp only [go_sem, h1, h2]; rfl)) ?_ ?_ <;> (intro hb; first | (cases hb; done) | (have ht : true = true := hb; clear ht hb) | (have ht : false = false := hb; clear ht hb) | (simp only [hb]) | skip))
        | refine ev_call0 _ _ (by (simp only [go_sem, h1, h2]; rfl)) (by first | exact f51_spec ..) (by (simp only [go_sem, h1, h2])) _ (by (simp only [go_sem, h1, h2]; rfl)) ?_
        | refine ev_callC _ _ _ _ (by (simp only [go_sem, h1, h2]; rfl)) (by (simp only [go_sem, h1, h2]; rfl)) (by first | exact f51_spec ..) (by (simp only [go_sem, h1, h2])) _ (by (simp only [go_sem, h1, h2]; rfl)) ?_
        | refine ev_step0 _ _ (by (simp only [go_sem, h1, h2]; rfl)) (by (first | trivial | decide | (simp only [inB, sliceOk, appendOk, rowsOk]; omega) | (simp [inB, sliceOk, appendOk, rowsOk]; omega))) _ (by (simp only [go_sem, h1, h2]; rfl)) ?_
        | (refine ev_step _ (by (simp only [go_sem, h1, h2]; rfl)) (by (first | trivial | decide | (simp only [inB, sliceOk, appendOk, rowsOk]; omega) | (simp [inB, sliceOk, appendOk, rowsOk]; omega))) _ (fun g u => by (simp only [go_sem, h1, h2]; rfl)) ?_; intro g u; (try clear u); (try clear g))
        | fail
      all_goals (refine resR_more T_ok rfl (by decide) _ (by (simp only [go_sem, resA]; rfl)) (by (intro rv hrv; simp only [List.mem_cons, List.not_mem_nil, or_false] at hrv; rcases hrv with rfl | rfl <;> first | trivial | simp only [go_sem, resA])) (by first | trivial | (simp only [go_sem])) ?_; simp only [go_sem])
      exact join_badL hok'
theorem f70_spec (a b : List Int) : Spec Try.prog 70 [.d (ints a), .d (ints b)] (.tup [.d (ints (joinL a b)), litI .i64 (joinE a b)]) := by
  refine spec_of_awp (fn := Try.f70) Try.func70 (by kernel_rfl) rfl ?_
  intro w0 C0
  simp only [Try.ntmps70, litI, litB, litS, List.length_cons, List.length_nil, Nat.reduceAdd, Nat.reduceSub, List.replicate_succ, List.replicate_zero, List.cons_append, List.nil_append]
  repeat' first
    | refine awp_seq ?_
    | refine awp_block ?_
    | refine awp_skip ?_
    | (refine reg _ (by (simp only [List.map_cons, List.map_nil]; rfl)) rfl ?_; intro K hK)
    | (refine awp_cond _ (by rfl) ?_ ?_ <;> (intro hb; first | (cases hb; done) | (have ht : true = true := hb; clear ht hb) | (have ht : false = false := hb; clear ht hb) | (simp only [hb]) | skip))
    | (refine awp_exit ?_; simp only [thenA, blockA, reduceIte, RetQ, Nat.reduceEqDiff])
    | (refine awp_ret ?_; simp only [thenA, blockA, RetQ])
    | (refine ev_nil (hK _ ?_); clear hK K)
    | refine ev_call0 _ _ (by (simp only [go_sem]; rfl)) (by first | exact f76_spec ..) (by (simp only [go_sem])) _ (by (simp only [go_sem]; rfl)) ?_
    | refine ev_callC _ _ _ _ (by (simp only [go_sem]; rfl)) (by (simp only [go_sem]; rfl)) (by first | exact f76_spec ..) (by (simp only [go_sem])) _ (by (simp only [go_sem]; rfl)) ?_
    | refine ev_step0 _ _ (by (simp only [go_sem]; rfl)) (by (first | trivial | decide | (simp only [inB, sliceOk, appendOk, rowsOk]; omega) | (simp [inB, sliceOk, appendOk, rowsOk]; omega))) _ (by (simp only [go_sem]; rfl)) ?_
    | (refine ev_step _ (by (simp only [go_sem]; rfl)) (by (first | trivial | decide | (simp only [inB, sliceOk, appendOk, rowsOk]; omega) | (simp [inB, sliceOk, appendOk, rowsOk]; omega))) _ (fun g u => by (simp only [go_sem]; rfl)) ?_; intro g u; (try clear u); (try clear g))
    | fail
  all_goals (refine resR_more T_ok rfl (by decide) _ (by (simp only [go_sem, resA]; rfl)) (by (intro rv hrv; simp only [List.mem_cons, List.not_mem_nil, or_false] at hrv; rcases hrv with rfl | rfl <;> first | trivial | simp only [go_sem, resA])) (by first | trivial | (simp only [go_sem])) ?_; simp only [go_sem])
  exact ⟨LeA.refl _, LeA.refl _, trivial⟩
end Go.Proofs.Ytalbfikfbejnfaa.A

/- Join of replicas. -/
set_option linter.unusedVariables false
set_option linter.unusedSimpArgs false
namespace Go.Proofs.Ytalbfikfbejnfaa.A
open Go.RowKit
attribute [local go_sem] Nat.reduceAdd Nat.reduceSub Nat.reduceMul Nat.reduceLT Nat.reduceLeDiff Nat.reduceEqDiff Nat.reduceBEq reduceIte reduceCtorEq e_step_none e_slotU e_slotB e_move e_assign e_pick e_unOp e_binOp e_alloc e_box e_build e_buildSlice e_load e_store e_fieldAddr e_field e_indexAddr e_index e_slice e_makeSlice e_makeFunc e_convert e_extract e_nilCheck e_len e_append e_max e_min e_call e_callV e_clo e_ev_tmp e_ev_int e_ev_bool e_ev_string e_ev_slice e_ev_nilFunc e_ev_nilIface e_ev_pointer e_ev_agg e_ev_func e_pickT e_pickF e_not e_neg e_add e_sub e_mul e_quo e_rem e_eql e_neq e_lss e_leq e_gtr e_geq e_beq e_bne e_sadd e_seql e_sneq e_b2_d e_b2_nil e_b2_nnil e_b2_agg e_lits_nil e_lits_cons e_litC e_eqR e_eqO_e e_eqO_n e_eqV4 e_eqV3 e_eqV2 e_eqV1 e_eqFs_nil e_eqFs_cons e_and2 e_eq1 e_eqL_i e_eqL_s e_eqL_b e_allocR e_boxR e_box_agg e_box_d e_box_own e_box_clo e_one_nil e_one_d e_one_own e_one_clo e_one_ptr e_cells_agg e_cells_d e_cells_own e_cells_clo e_cells_ptr e_ob_own e_ob_ptr e_ob_elo e_ob_d e_ob_el e_ob_agg e_load_box e_load_fzb e_load_el e_load_elo e_store_box e_storeB e_store_elo e_store_elo_agg e_storeE e_fa_ptr e_fa_el e_fa_elo e_faR e_fd e_fdR e_ia_d e_ia_row e_ia_fz e_ia_ptr e_ia_el e_ix_s e_ix_a e_len_s e_len_nil e_len_d e_len_row e_len_fz e_conv_i e_conv_s e_extr e_maxR e_minR e_nil_ptr e_nil_el e_nil_elo e_rows_nil e_rows_d e_rows_row e_rows_fz e_rok_nil e_rok_d e_rok_row e_rok_fz e_app_row e_appR e_app_nil e_appN e_make e_bnd_none e_bnd_some e_optmap_none e_optmap_some e_slR e_slRe e_sl_s e_sl_d e_sl_nil e_sl_row e_sl_fz e_fill_nil e_fill_cons e_fill1 e_placeS e_plS e_placeE e_buildO e_build1 e_build2 e_build3 e_bindD e_bs e_bsR e_allD_nil e_allD_cons e_allD1 e_chunk0 e_chunkS e_clP_nil e_clP_cons e_cl_d e_cl_any e_cl_el e_cl_agg e_cl_tup e_cl_clo e_cl_own e_clOwn_row e_clOwn_fz e_cl_ptr e_clPtr_box e_clBox e_clPtr_fzb e_clL_nil e_clL_cons e_ok_d e_ok_any e_ok_el e_ok_agg e_ok_tup e_ok_clo e_ok_own e_okOwn_row e_okOwn_fz e_ok_ptr e_okPtr_box e_okPtr_fzb e_okL_nil e_okL_cons e_ids_d e_ids_any e_ids_el e_ids_own e_ids_ptr e_ids_agg e_ids_tup e_ids_clo e_idsL_nil e_idsL_cons e_frz_nil e_frz_cons e_frz_row e_frz_fz e_frz_fzb e_frz_box e_frzB e_flat_lit e_flat_sl e_flat_agg e_flat_tup e_flat_any e_flat_clo e_flatL_nil e_flatL_cons e_objD e_setMany e_takeA e_zerosA e_gdL e_idsG e_idsOp e_callV' e_callF' e_o_move e_o_assign e_o_pick e_o_unOp e_o_binOp e_o_alloc e_o_box e_o_build e_o_buildSlice e_o_load e_o_store e_o_fieldAddr e_o_field e_o_indexAddr e_o_index e_o_slice0 e_o_slice1 e_o_slice2 e_o_slice3 e_o_makeSlice e_o_makeFunc e_o_convert e_o_extract e_o_nilCheck e_o_bcall e_o_vcall litI litB litS List.map_cons List.map_nil List.getD_cons_zero List.getD_cons_succ List.getD_nil List.getElem?_cons_zero List.getElem?_cons_succ List.getElem?_nil Option.getD_some Option.getD_none Option.map_some Option.map_none List.length_cons List.length_nil List.all_cons List.all_nil Bool.and_true Bool.true_and and_true true_and and_self
attribute [local go_sem] List.take_zero List.take_succ_cons List.drop_zero List.drop_succ_cons List.nil_append List.cons_append List.append_nil List.replicate_succ List.replicate_zero List.flatten_cons List.flatten_nil Nat.zero_add Nat.add_zero Nat.mul_one Nat.zero_mul Nat.one_mul Nat.mul_zero List.set_cons_zero List.set_cons_succ List.foldl_cons List.foldl_nil appendOk rowsOk inB sliceOk cutRows mtake mdrop List.length_append List.length_take List.length_drop if_true if_false or_false or_true true_or Bool.not_true Bool.not_false Bool.false_eq_true List.length_map Int.toNat_natCast Int.toNat_zero Int.toNat_one eq_self St.after St.put applyEff R0 T1 T2 T3 T4 T5 T6 T7 T8 T9 T10 T11 T12 T13 T14 T15 T16 T17 T18 T19 T20 T21 T22 T23 T24 T25 T26 T27 T28 T29 T30 T31 T32 T33 T34 T35 T36 T37 T38 T39 T40 T41 T42 T43 T44 T45 T46 T47 T48 T49 T50 T51 T52 T53 T54 T55 T56 T57 T58 T59 T60 T61 T62 T63 T64 T65 T66 T67 T68 T69 T70 T71 T72 T73 T74 T75 T76 T77 T78 T79 T80 T81 T82 T83 T84 T85 T86 T87 T88 T89 T90 T91 T92 T93 T94 T95 T96 T97 T98 T99 T100 T101 T102 T103 T105 T106 T107 T108 T109 T110 T111 T112 T113 T114 T117 T118 T119 T120 T121 T122 T123 T124 T125 T126 T127 T130 T131 T132 T133 T134 ti1 ti2 ti3 ti4 ti5 ti6 ti7 ti8 ti9 ti10 ti11 ti12 ti13 ti14 ti15 ti16 ti17 ti18 ti19 ti20 ti21 ti22 ti23 ti24 ti25 ti26 ti27 ti28 ti29 ti30 ti31 ti32 ti33 ti34 ti35 ti36 ti37 ti38 ti39 ti40 ti41 ti42 ti43 ti44 ti45 ti46 ti47 ti48 ti49 ti50 ti51 ti52 ti53 ti54 ti55 ti56 ti57 ti58 ti59 ti60 ti61 ti62 ti63 ti64 ti65 ti66 ti67 ti68 ti69 ti70 ti71 ti72 ti73 ti74 ti75 ti76 ti77 ti78 ti79 ti80 ti81 ti82 ti83 ti84 ti85 ti86 ti87 ti88 ti89 ti90 ti91 ti92 ti93 ti94 ti95 ti96 ti97 ti98 ti99 ti100 ti101 ti102 ti103 ti105 ti106 ti107 ti108 ti109 ti110 ti111 ti112 ti113 ti114 ti117 ti118 ti119 ti120 ti121 ti122 ti123 ti124 ti125 ti126 ti127 ti130 ti131 ti132 ti133 ti134
attribute [local irreducible] AWp evOps evD AWq Ops
def isIn (l : List Nm) (n : Nm) : Bool := l.any fun x => nmEq n x
/-- The tags that a join keeps. -/
def keepJ (a : List Nm) (x : List Int) (b : List Nm) (y : List Int) (n : Nm) : Bool := isIn a n && isIn b n || isIn a n && !inCut y n.1 n.2 || isIn b n && !inCut x n.1 n.2
def joinT (a : List Nm) (x : List Int) (b : List Nm) (y : List Int) : List Nm := (uniL a b).filter (keepJ a x b y)
set_option maxHeartbeats 4000000 in
theorem f59_spec (a : List Nm) (x : List Int) (b : List Nm) (y : List Int) (hb0 : a.length + b.length ≤ 16777216) : Spec Try.prog 59 [.agg (rep a x), .agg (rep b y)] (.agg (rep (joinT a x b y) (joinL x y))) := by
  refine ⟨⟨Try.f59, Try.func59, by kernel_rfl, rfl⟩, ?_⟩
  intro w C hC vs hv
  refine (callsIn_wide (n := 0)).1 (callsIn_of_wp_marks (fn := Try.f59) Try.func59 rfl trivial ?_)
  have hs := sat_start (P := Try.prog) (n := 63) (holds := []) (M := fun _ => False) (fun x hx => ⟨hC x hx, fun h => h⟩) hv (by intro i x h; simp at h) (by intro i j x y g h; simp at h)
  refine awq_go (E := ⟨Try.prog, w, C, fun _ => False, none, []⟩) rfl hs ?_
  simp only [litI, litB, litS, List.length_cons, List.length_nil, Nat.reduceAdd, Nat.reduceSub, List.replicate_succ, List.replicate_zero, List.cons_append, List.nil_append]
  repeat' first
    | (show AWq _ (Code.seq (Code.seq _ (Code.block _ (Code.rangeFunc _ _ _ _))) _) _ _; refine awq_seqq ?_)
    | (show AWq _ (Code.seq (Code.block _ (Code.rangeFunc _ _ _ _)) _) _ _; refine awq_seqq ?_)
    | ((fail_if_success show AWq _ (Code.seq (Code.region 3 _ _) _) _ _); refine awq_seq ?_)
    | refine awq_block ?_
    | refine awp_seq ?_
    | refine awp_block ?_
    | refine awp_skip ?_
    | (refine reg _ (by (simp only [List.map_cons, List.map_nil]; rfl)) rfl ?_; intro K hK)
    | (refine awp_cond _ (by rfl) ?_ ?_ <;> (intro hb; first | (cases hb; done) | (have ht : true = true := hb; clear ht hb) | (have ht : false = false := hb; clear ht hb) | (simp only [hb]) | skip))
    | (refine awp_exit ?_; simp only [thenA, blockA, reduceIte, RetQ, Nat.reduceEqDiff])
    | (refine awp_ret ?_; simp only [thenA, blockA, RetQ])
    | (refine ev_nil (hK _ ?_); clear hK K)
    | refine ev_guardU _ (by (simp only [go_sem]; rfl)) (by (simp only [go_sem]; rfl)) _ (by (simp only [go_sem]; rfl)) ?_
    | (refine ev_guardT _ _ (by (simp only [go_sem]; rfl)) (by (simp only [go_sem]; rfl)) ?_ ?_ <;> (intro hb; first | (cases hb; done) | (have ht : true = true := hb; clear ht hb) | (have ht : false = false := hb; clear ht hb) | (simp only [hb]) | skip))
    | (refine ev_guardF _ _ (by (simp only [go_sem]; rfl)) (by (simp only [go_sem]; rfl)) ?_ ?_ <;> (intro hb; first | (cases hb; done) | (have ht : true = true := hb; clear ht hb) | (have ht : false = false := hb; clear ht hb) | (simp only [hb]) | skip))
    | refine ev_call0 _ _ (by (simp only [go_sem]; rfl)) (by first | exact f70_spec ..) (by (simp only [go_sem])) _ (by (simp only [go_sem]; rfl)) ?_
    | refine ev_callC _ _ _ _ (by (simp only [go_sem]; rfl)) (by (simp only [go_sem]; rfl)) (by first | exact f70_spec ..) (by (simp only [go_sem])) _ (by (simp only [go_sem]; rfl)) ?_
    | refine ev_step0 _ _ (by (simp only [go_sem]; rfl)) (by (first | trivial | decide | (simp only [inB, sliceOk, appendOk, rowsOk]; omega) | (simp [inB, sliceOk, appendOk, rowsOk]; omega))) _ (by (simp only [go_sem]; rfl)) ?_
    | (refine ev_step _ (by (simp only [go_sem]; rfl)) (by (first | trivial | decide | (simp only [inB, sliceOk, appendOk, rowsOk]; omega) | (simp [inB, sliceOk, appendOk, rowsOk]; omega))) _ (fun g u => by (simp only [go_sem]; rfl)) ?_; intro g u; (try clear u); (try clear g))
    | fail
  rename_i g2 g3 g4
  refine awq_ops ?_
  intro a1 w1 hs1
  refine ops_step (K := fun s => Wk ⟨Try.prog, w, C, fun _ => False, none, []⟩ s (⟨[.any, .any, .ptr 2 g2 0, .ptr 3 g3 0, .ptr 4 g4 0, .ptr 5 g 0, .any, .any, .any, .any, .any, .any, .any, .any, .any, .any, .any, .any, .any, .d (nms a), .any, .d (nms b), .any, .any, .any, .any, .any, .any, .any, .any, .any, .any, .any, .any, .any, .any, .any, .any, .any, .any, .any, .any, .any, .any, .any, .any, .any, .any, .any, .any, .any, .any, .any, .any, .any, .any, .any, .any, .any, .any, .any, .any, .any], [.no, .no, .box g2 (rep a x), .box g3 (rep b y), .box g4 [.d (.lit (.slice none 0 0)), .d (.lit (.slice none 0 0))], .box g [.own 60 (.slice none 0 0), .d (ints (joinL x y))], .no, .no, .no, .no, .no, .no, .no, .no, .no, .no, .no, .no, .no, .no, .no, .no, .no, .no, .no, .no, .no, .no, .no, .no, .no, .no, .no, .no, .no, .no, .no, .no, .no, .no, .no, .no, .no, .no, .no, .no, .no, .no, .no, .no, .no, .no, .no, .no, .no, .no, .no, .no, .no, .no, .row (.slice none 0 0) 25 2 [], .no, .no]⟩)) T_ok 4 hs1 (by decide) rfl ?_ fun s a2 w2 hK hs2 => ?_
  · repeat' first
      | refine awp_seq ?_
      | refine awp_block ?_
      | refine awp_skip ?_
      | (refine reg _ (by (simp only [List.map_cons, List.map_nil]; rfl)) rfl ?_; intro K hK)
      | (refine awp_cond _ (by rfl) ?_ ?_ <;> (intro hb; first | (cases hb; done) | (have ht : true = true := hb; clear ht hb) | (have ht : false = false := hb; clear ht hb) | (simp only [hb]) | skip))
      | (refine awp_exit ?_; simp only [thenA, blockA, reduceIte, RetQ, Nat.reduceEqDiff])
      | (refine awp_ret ?_; simp only [thenA, blockA, RetQ])
      | (refine ev_nil (hK _ ?_); clear hK K)
      | refine ev_guardU _ (by (simp only [go_sem]; rfl)) (by (simp only [go_sem]; rfl)) _ (by (simp only [go_sem]; rfl)) ?_
      | (refine ev_guardT _ _ (by (simp only [go_sem]; rfl)) (by (simp only [go_sem]; rfl)) ?_ ?_ <;> (intro hb; first | (cases hb; done) | (have ht : true = true := hb; clear ht hb) | (have ht : false = false := hb; clear ht hb) | (simp only [hb]) | skip))
      | (refine ev_guardF _ _ (by (simp only [go_sem]; rfl)) (by (simp only [go_sem]; rfl)) ?_ ?_ <;> (intro hb; first | (cases hb; done) | (have ht : true = true := hb; clear ht hb) | (have ht : false = false := hb; clear ht hb) | (simp only [hb]) | skip))
      | refine ev_step0 _ _ (by (simp only [go_sem]; rfl)) (by (first | trivial | decide | (simp only [inB, sliceOk, appendOk, rowsOk]; omega) | (simp [inB, sliceOk, appendOk, rowsOk]; omega))) _ (by (simp only [go_sem]; rfl)) ?_
      | (refine ev_step _ (by (simp only [go_sem]; rfl)) (by (first | trivial | decide | (simp only [inB, sliceOk, appendOk, rowsOk]; omega) | (simp [inB, sliceOk, appendOk, rowsOk]; omega))) _ (fun g u => by (simp only [go_sem]; rfl)) ?_; intro g u; (try clear u); (try clear g))
      | fail
    refine ev_nil ?_
    refine (Wk.box 5 (g := g) (cs := [.d (.lit (.slice none 0 0)), .d (ints (joinL x y))]) (cs' := [.own 60 (.slice none 0 0), .d (ints (joinL x y))]) rfl ⟨LeA.lit_own _ _, LeA.refl _, trivial⟩).trans ?_
    simp only [List.set_cons_succ, List.set_cons_zero]
    refine Wk.mk ?_ ?_
    · all_goals (repeat' first | exact trivial | exact LeA.refl _ | exact LeA.any _ | refine ⟨?_, ?_⟩)
    · all_goals (repeat' first | exact trivial | exact LeO.refl _ | exact LeO.nil _ _ _ | exact LeO.no _ | refine ⟨?_, ?_⟩)
  have hs3 := hK _ _ hs2
  have h19 := Act.eval_of hs3 19 rfl
  have h21 := Act.eval_of hs3 21 rfl
  have hsz := hs3.size
  refine ops_call rfl ⟨Try.f55, Try.func55, by kernel_rfl, rfl⟩ ?_
  refine (f55_calls a b w2 _ (fun x hx => hs3.lt_C hx) _ (by simp only [List.map_cons, List.map_nil, HasL]; exact ⟨h19, h21, trivial⟩)).mono ?_
  rintro e w3 ⟨v, rfl, ga, gb, ta, tb, va, vb, C', rfl, hbel, hga, hgb, hne, h1, h2, hCC, hC', ra, rb⟩
  refine ⟨_, rfl, ?_⟩
  refine ops_end (by decide) ?_
  have hit := f69_iter hne (fun x hx => (hC' x hx).2) h1 h2 ra rb
  obtain ⟨hs4, hC4⟩ := hs3.take_two hbel hga hgb hne h1 h2
  have hit4 := hit.of_le fun z hz => hC4 z (hC' z hz).1 (hC' z hz).2.1 (hC' z hz).2.2
  have hs5 := hs4.put (some 22) (av := .d (.lit (.func (.func 69) #[] #[.pointer (some ⟨ga, 0, none⟩), .pointer (some ⟨gb, 0, none⟩)]))) (v := .func (.func 69) #[] #[.pointer (some ⟨ga, 0, none⟩), .pointer (some ⟨gb, 0, none⟩)]) (by simp only [Has, Rep]; exact ⟨trivial, rfl⟩)
  simp only [St.put, List.set_cons_succ, List.set_cons_zero, tl2, List.cons_append, List.nil_append] at hs5
  refine wpIn_block ?_
  generalize a2.put (some 22) (.func (.func 69) #[] #[.pointer (some ⟨ga, 0, none⟩), .pointer (some ⟨gb, 0, none⟩)]) = a5 at *
  have h22 := has_lit (Act.eval_of hs5 22 rfl)
  refine wp_rangeFunc (gf := 69) (lb := #[.pointer (some ⟨ga, 0, none⟩), .pointer (some ⟨gb, 0, none⟩)]) (av := fun n : Nm => .agg (nm n.1 n.2)) (enc := encN) (xs := uniL a b)
    (base0 := [.no, .no, .box g2 (rep a x), .box g3 (rep b y), .box g4 [.d (.lit (.slice none 0 0)), .d (.lit (.slice none 0 0))], .box g [.own 60 (.slice none 0 0), .d (ints (joinL x y))], .no, .no, .no, .no, .no, .no, .no, .no, .no, .no, .no, .no, .no, .no, .no, .no, .no, .no, .no, .no, .no, .no, .no, .no, .no, .no, .no, .no, .no, .no, .no, .no, .no, .no, .no, .no, .no, .no, .no, .no, .no, .no, .no, .no, .no, .no, .no, .no, .no, .no, .no, .no, .no, .no, .row (.slice none 0 0) 25 2 [], .no, .no])
    has_encN rfl rfl hs5 h22 (fun args w => run_callFunc (E := ⟨Try.prog, w, C, two ga gb, none, []⟩) ⟨Try.f69, Try.func69, by kernel_rfl, rfl⟩) hit4
    (fun pre base => ∃ v, base = [.no, .no, .box g2 (rep a x), .box g3 (rep b y), .box g4 [.d (.lit (.slice none 0 0)), .d (.lit (.slice none 0 0))], .box g [.own 60 v, .d (ints (joinL x y))], .no, .no, .no, .no, .no, .no, .no, .no, .no, .no, .no, .no, .no, .no, .no, .no, .no, .no, .no, .no, .no, .no, .no, .no, .no, .no, .no, .no, .no, .no, .no, .no, .no, .no, .no, .no, .no, .no, .no, .no, .no, .no, .no, .no, .no, .no, .no, .no, .no, .no, .no, .no, .no, .no, .row v 25 2 ((pre.filter (keepJ a x b y)).map fun n => [.lit (.int .i64 n.1), .lit (.int .i64 n.2)]), .no, .no]) ⟨_, rfl⟩ ?_ ?_
  · rintro ⟨P', w1, C1, M1, rd1, df1⟩ l D xa xb L L' pre z base hP hrd ⟨v, rfl⟩ hpre
    simp only at hP
    subst hP
    have hpl := hpre.length_le
    have hul := uniL_length a b
    have hfl := List.length_filter_le (keepJ a x b y) pre
    simp only [List.length_append, List.length_cons, List.length_nil, Nat.zero_add] at hpl
    generalize hrows : pre.filter (keepJ a x b y) = rows at *
    simp only [tl4, litI, litB, litS, List.set_cons_succ, List.set_cons_zero, List.cons_append, List.nil_append]
    repeat' first
      | refine awp_seq ?_
      | refine awp_block ?_
      | refine awp_skip ?_
      | (refine reg _ (by (simp only [List.map_cons, List.map_nil]; rfl)) rfl ?_; intro K hK)
      | (refine awp_cond _ (by rfl) ?_ ?_ <;> (intro hb; first | (cases hb; done) | (have ht : true = true := hb; clear ht hb) | (have ht : false = false := hb; clear ht hb) | (simp only [hb]) | skip))
      | (refine awp_exit ?_; simp only [thenA, blockA, reduceIte, RetQ, Nat.reduceEqDiff])
      | (refine awp_ret ?_; simp only [thenA, blockA, RetQ])
      | (refine ev_nil (hK _ ?_); clear hK K)
      | refine ev_guardU _ (by (simp only [go_sem]; rfl)) (by (simp only [go_sem]; rfl)) _ (by (simp only [go_sem]; rfl)) ?_
      | (refine ev_guardT _ _ (by (simp only [go_sem]; rfl)) (by (simp only [go_sem]; rfl)) ?_ ?_ <;> (intro hb; first | (cases hb; done) | (have ht : true = true := hb; clear ht hb) | (have ht : false = false := hb; clear ht hb) | (simp only [hb]) | skip))
      | (refine ev_guardF _ _ (by (simp only [go_sem]; rfl)) (by (simp only [go_sem]; rfl)) ?_ ?_ <;> (intro hb; first | (cases hb; done) | (have ht : true = true := hb; clear ht hb) | (have ht : false = false := hb; clear ht hb) | (simp only [hb]) | skip))
      | refine ev_step0 _ _ (by (simp only [go_sem]; rfl)) (by (first | trivial | decide | (simp only [inB, sliceOk, appendOk, rowsOk]; omega) | (simp [inB, sliceOk, appendOk, rowsOk]; omega))) _ (by (simp only [go_sem]; rfl)) ?_
      | (refine ev_step _ (by (simp only [go_sem]; rfl)) (by (first | trivial | decide | (simp only [inB, sliceOk, appendOk, rowsOk]; omega) | (simp [inB, sliceOk, appendOk, rowsOk]; omega))) _ (fun g u => by (simp only [go_sem]; rfl)) ?_; intro g u; (try clear u); (try clear g))
      | fail
    refine ⟨_, _, split_base 63 rfl, ?_⟩
    simp only [List.take_succ_cons, List.take_zero, List.cons_append, List.nil_append]
    repeat' first
      | refine awp_seq ?_
      | refine awp_block ?_
      | refine awp_skip ?_
      | (refine reg _ (by (simp only [List.map_cons, List.map_nil]; rfl)) rfl ?_; intro K hK)
      | (refine awp_cond _ (by rfl) ?_ ?_ <;> (intro hb; first | (cases hb; done) | (have ht : true = true := hb; clear ht hb) | (have ht : false = false := hb; clear ht hb) | (simp only [hb]) | skip))
      | (refine awp_exit ?_; simp only [thenA, blockA, reduceIte, RetQ, Nat.reduceEqDiff])
      | (refine awp_ret ?_; simp only [thenA, blockA, RetQ])
      | (refine ev_nil (hK _ ?_); clear hK K)
      | refine ev_guardU _ (by (simp only [go_sem]; rfl)) (by (simp only [go_sem]; rfl)) _ (by (simp only [go_sem]; rfl)) ?_
      | (refine ev_guardT _ _ (by (simp only [go_sem]; rfl)) (by (simp only [go_sem]; rfl)) ?_ ?_ <;> (intro hb; first | (cases hb; done) | (have ht : true = true := hb; clear ht hb) | (have ht : false = false := hb; clear ht hb) | (simp only [hb]) | skip))
      | (refine ev_guardF _ _ (by (simp only [go_sem]; rfl)) (by (simp only [go_sem]; rfl)) ?_ ?_ <;> (intro hb; first | (cases hb; done) | (have ht : true = true := hb; clear ht hb) | (have ht : false = false := hb; clear ht hb) | (simp only [hb]) | skip))
      | refine ev_call0 _ _ (by (simp only [go_sem]; rfl)) (by first | exact f71_spec .. | exact f49_spec ..) (by (simp only [go_sem])) _ (by (simp only [go_sem]; rfl)) ?_
      | refine ev_callC _ _ _ _ (by (simp only [go_sem]; rfl)) (by (simp only [go_sem]; rfl)) (by first | exact f71_spec .. | exact f49_spec ..) (by (simp only [go_sem])) _ (by (simp only [go_sem]; rfl)) ?_
      | (apply regD; (case hd => (simp only [List.map_cons, List.map_nil]; rfl)); (case hok => rfl); (case' h => (intro K hK; (repeat' first
        | (apply evd_nil; refine (hK _ ?_); clear hK K)
        | (apply evd_guardU0; (case hj => (simp only [go_sem]; try rfl)); (case hu => (simp only [go_sem])); (case hσ => (simp only [go_sem]; try rfl)))
        | (apply evd_skipT0; (case hj => (simp only [go_sem]; try rfl)); (case hb => (simp only [go_sem]; try rfl)); (case hσ => (simp only [go_sem]; try rfl)))
        | (apply evd_skipF0; (case hj => (simp only [go_sem]; try rfl)); (case hb => (simp only [go_sem]; try rfl)); (case hσ => (simp only [go_sem]; try rfl)))
        | (apply evd_guardU; (case hj => (simp only [go_sem]; try rfl)); (case hu => (simp only [go_sem])); (case hσ => (simp only [go_sem]; try rfl)))
        | (apply evd_skipT; (case hj => (simp only [go_sem]; try rfl)); (case hb => (simp only [go_sem]; try rfl)); (case hσ => (simp only [go_sem]; try rfl)))
        | (apply evd_skipF; (case hj => (simp only [go_sem]; try rfl)); (case hb => (simp only [go_sem]; try rfl)); (case hσ => (simp only [go_sem]; try rfl)))
        | (apply evd_guardT; (case hj => (simp only [go_sem]; try rfl)); (case hb => (simp only [go_sem]; try rfl)); (case' h2 => (intro hb; first | (cases hb; done) | (simp only [hb]) | skip)); (case' h1 => (intro hb; first | (cases hb; done) | (simp only [hb]) | skip)))
        | (apply evd_guardF; (case hj => (simp only [go_sem]; try rfl)); (case hb => (simp only [go_sem]; try rfl)); (case' h2 => (intro hb; first | (cases hb; done) | (simp only [hb]) | skip)); (case' h1 => (intro hb; first | (cases hb; done) | (simp only [hb]) | skip)))
        | (apply evd_call0; (case hi => (simp only [go_sem]; try rfl)); (case hys => (simp only [go_sem]; try rfl)); (case hs => first | exact f71_spec .. | exact f49_spec ..); (case hok => (simp only [go_sem])); (case hw => (simp only [go_sem]; try rfl)); (case hσ => (simp only [go_sem]; try rfl)))
        | (apply evd_callC; (case hf => (simp only [go_sem]; try rfl)); (case hi => (simp only [go_sem]; try rfl)); (case hys => (simp only [go_sem]; try rfl)); (case hs => first | exact f71_spec .. | exact f49_spec ..); (case hok => (simp only [go_sem])); (case hw => (simp only [go_sem]; try rfl)); (case hσ => (simp only [go_sem]; try rfl)))
        | (apply evd_step0; (case hr => (simp only [go_sem]; try rfl)); (case hi => (simp only [go_sem]; try rfl)); (case hc => (first | trivial | decide | (simp only [inB, sliceOk, appendOk, rowsOk]; omega) | (simp [inB, sliceOk, appendOk, rowsOk]; omega))); (case hσ => (simp only [go_sem]; try rfl)))
        | (apply evd_step; (case hr => (simp only [go_sem]; try rfl)); (case hi => (simp only [go_sem]; try rfl)); (case hc => (first | trivial | decide | (simp only [inB, sliceOk, appendOk, rowsOk]; omega) | (simp [inB, sliceOk, appendOk, rowsOk]; omega))); (case hw => (intro g u; simp only [go_sem]; try rfl)); (case hσ => (intro g u; simp only [go_sem]; try rfl)); (case' hk => (intro g u; (try clear u); (try clear g))))
        | fail))); (case hB => kernel_rfl))
      | refine ev_step0 _ _ (by (simp only [go_sem]; rfl)) (by (first | trivial | decide | (simp only [inB, sliceOk, appendOk, rowsOk]; omega) | (simp [inB, sliceOk, appendOk, rowsOk]; omega))) _ (by (simp only [go_sem]; rfl)) ?_
      | (refine ev_step _ (by (simp only [go_sem]; rfl)) (by (first | trivial | decide | (simp only [inB, sliceOk, appendOk, rowsOk]; omega) | (simp [inB, sliceOk, appendOk, rowsOk]; omega))) _ (fun g u => by (simp only [go_sem]; rfl)) ?_; intro g u; (try clear u); (try clear g))
      | fail
    all_goals first
      | (have hk : keepJ a x b y z = true := by (simp only [keepJ, isIn]; simp [*])
         have hf : (pre ++ [z]).filter (keepJ a x b y) = rows ++ [z] := by rw [List.filter_append, hrows]; simp [hk]
         refine ⟨rfl, [.any, .any, .any, .any, .any, .any, .any, .any, .any, .any, .any, .any, .any, .any, .any, .any, .any, .any, .any, .any, .any, .any, .any, .any, .any, .any, .any, .any, .any, .any, .any, .any, .any, .any, .any, .any, .any, .any, .any, .any, .any, .any, .any, .any, .any, .any, .any, .any, .any, .any, .any, .any, .any, .any, .any, .any, .any, .any, .any, .any, .any, .any, .any], _, ⟨u, rfl⟩, ?_⟩
         simp only [hf, List.cons_append, List.nil_append, List.map_append, List.map_cons, List.map_nil]
         refine Wk.mk ?_ ?_
         all_goals (repeat' first | exact trivial | exact LeA.refl _ | exact LeA.any _ | exact LeO.refl _ | exact LeO.no _ | refine ⟨?_, ?_⟩))
      | (have hk : keepJ a x b y z = false := by (simp only [keepJ, isIn]; simp [*])
         have hf : (pre ++ [z]).filter (keepJ a x b y) = rows := by rw [List.filter_append, hrows]; simp [hk]
         refine ⟨rfl, [.any, .any, .any, .any, .any, .any, .any, .any, .any, .any, .any, .any, .any, .any, .any, .any, .any, .any, .any, .any, .any, .any, .any, .any, .any, .any, .any, .any, .any, .any, .any, .any, .any, .any, .any, .any, .any, .any, .any, .any, .any, .any, .any, .any, .any, .any, .any, .any, .any, .any, .any, .any, .any, .any, .any, .any, .any, .any, .any, .any, .any, .any, .any], _, ⟨v, rfl⟩, ?_⟩
         simp only [hf, List.cons_append, List.nil_append]
         refine Wk.mk ?_ ?_
         all_goals (repeat' first | exact trivial | exact LeA.refl _ | exact LeA.any _ | exact LeO.refl _ | exact LeO.no _ | refine ⟨?_, ?_⟩))
  · rintro l D xa xb L base ⟨v, rfl⟩ a6 w6 hs6
    refine awq_go (E := ⟨Try.prog, w, C, fun _ => False, none, [{ target := .collected D, args := #[] }]⟩) rfl hs6 ?_
    simp only [tl4, List.cons_append, List.nil_append]
    repeat' first
      | (refine awq_seq ?_)
      | refine awq_block ?_
      | refine awp_seq ?_
      | refine awp_block ?_
      | refine awp_skip ?_
      | (refine reg _ (by (simp only [List.map_cons, List.map_nil]; rfl)) rfl ?_; intro K hK)
      | (refine awp_cond _ (by rfl) ?_ ?_ <;> (intro hb; first | (cases hb; done) | (have ht : true = true := hb; clear ht hb) | (have ht : false = false := hb; clear ht hb) | (simp only [hb]) | skip))
      | (refine awp_exit ?_; simp only [thenA, blockA, reduceIte, RetQ, Nat.reduceEqDiff])
      | (refine awp_ret ?_; simp only [thenA, blockA, RetQ])
      | (refine ev_nil (hK _ ?_); clear hK K)
      | refine ev_guardU _ (by (simp only [go_sem]; rfl)) (by (simp only [go_sem]; rfl)) _ (by (simp only [go_sem]; rfl)) ?_
      | (refine ev_guardT _ _ (by (simp only [go_sem]; rfl)) (by (simp only [go_sem]; rfl)) ?_ ?_ <;> (intro hb; first | (cases hb; done) | (have ht : true = true := hb; clear ht hb) | (have ht : false = false := hb; clear ht hb) | (simp only [hb]) | skip))
      | (refine ev_guardF _ _ (by (simp only [go_sem]; rfl)) (by (simp only [go_sem]; rfl)) ?_ ?_ <;> (intro hb; first | (cases hb; done) | (have ht : true = true := hb; clear ht hb) | (have ht : false = false := hb; clear ht hb) | (simp only [hb]) | skip))
      | refine ev_step0 _ _ (by (simp only [go_sem]; rfl)) (by (first | trivial | decide | (simp only [inB, sliceOk, appendOk, rowsOk]; omega) | (simp [inB, sliceOk, appendOk, rowsOk]; omega))) _ (by (simp only [go_sem]; rfl)) ?_
      | (refine ev_step _ (by (simp only [go_sem]; rfl)) (by (first | trivial | decide | (simp only [inB, sliceOk, appendOk, rowsOk]; omega) | (simp [inB, sliceOk, appendOk, rowsOk]; omega))) _ (fun g u => by (simp only [go_sem]; rfl)) ?_; intro g u; (try clear u); (try clear g))
      | fail
    refine awq_ret ?_
    intro a7 w7 hs7
    refine leaves_marks (i := 65) rfl rfl hs7 (r := .agg (rep (joinT a x b y) (joinL x y))) ?_ fun v w' k1 k2 => ⟨v, rfl, ⟨k1.os, k1.tape, k1.output, k1.size, fun k hk => k1.block k hk (fun h => h)⟩, ?_⟩
    · all_goals (refine resR_one T_ok rfl _ (by (simp only [go_sem, resA]; rfl)) (by first | trivial | (simp only [go_sem, resA])) (by first | trivial | (simp only [go_sem])) ?_; simp only [go_sem])
      exact LeA.refl _
    · have hle : MemLe ⟨w'.heap, fun b => C b ∨ ((w.heap.size ≤ b ∨ False) ∧ b < w'.heap.size)⟩ ⟨w'.heap, fun b => C b ∨ (w.heap.size ≤ b ∧ b < w'.heap.size)⟩ :=
        ⟨fun b hb => hb.imp id fun h => ⟨h.1.resolve_right (fun h => h), h.2⟩, fun _ _ => rfl⟩
      exact Has.mono hle _ _ k2
end Go.Proofs.Ytalbfikfbejnfaa.A

/- DeleteFunc over a row of one's own; Drop. -/
set_option linter.unusedVariables false
set_option linter.unusedSimpArgs false
namespace Go.Proofs.Ytalbfikfbejnfaa.A
open Go.RowKit
attribute [local go_sem] Nat.reduceAdd Nat.reduceSub Nat.reduceMul Nat.reduceLT Nat.reduceLeDiff Nat.reduceEqDiff Nat.reduceBEq reduceIte reduceCtorEq e_step_none e_slotU e_slotB e_move e_assign e_pick e_unOp e_binOp e_alloc e_box e_build e_buildSlice e_load e_store e_fieldAddr e_field e_indexAddr e_index e_slice e_makeSlice e_makeFunc e_convert e_extract e_nilCheck e_len e_append e_max e_min e_call e_callV e_clo e_ev_tmp e_ev_int e_ev_bool e_ev_string e_ev_slice e_ev_nilFunc e_ev_nilIface e_ev_pointer e_ev_agg e_ev_func e_pickT e_pickF e_not e_neg e_add e_sub e_mul e_quo e_rem e_eql e_neq e_lss e_leq e_gtr e_geq e_beq e_bne e_sadd e_seql e_sneq e_b2_d e_b2_nil e_b2_nnil e_b2_agg e_lits_nil e_lits_cons e_litC e_eqR e_eqO_e e_eqO_n e_eqV4 e_eqV3 e_eqV2 e_eqV1 e_eqFs_nil e_eqFs_cons e_and2 e_eq1 e_eqL_i e_eqL_s e_eqL_b e_allocR e_boxR e_box_agg e_box_d e_box_own e_box_clo e_one_nil e_one_d e_one_own e_one_clo e_one_ptr e_cells_agg e_cells_d e_cells_own e_cells_clo e_cells_ptr e_ob_own e_ob_ptr e_ob_elo e_ob_d e_ob_el e_ob_agg e_load_box e_load_fzb e_load_el e_load_elo e_store_box e_storeB e_store_elo e_store_elo_agg e_storeE e_fa_ptr e_fa_el e_fa_elo e_faR e_fd e_fdR e_ia_d e_ia_row e_ia_fz e_ia_ptr e_ia_el e_ix_s e_ix_a e_len_s e_len_nil e_len_d e_len_row e_len_fz e_conv_i e_conv_s e_extr e_maxR e_minR e_nil_ptr e_nil_el e_nil_elo e_rows_nil e_rows_d e_rows_row e_rows_fz e_rok_nil e_rok_d e_rok_row e_rok_fz e_app_row e_appR e_app_nil e_appN e_make e_bnd_none e_bnd_some e_optmap_none e_optmap_some e_slR e_slRe e_sl_s e_sl_d e_sl_nil e_sl_row e_sl_fz e_fill_nil e_fill_cons e_fill1 e_placeS e_plS e_placeE e_buildO e_build1 e_build2 e_build3 e_bindD e_bs e_bsR e_allD_nil e_allD_cons e_allD1 e_chunk0 e_chunkS e_clP_nil e_clP_cons e_cl_d e_cl_any e_cl_el e_cl_agg e_cl_tup e_cl_clo e_cl_own e_clOwn_row e_clOwn_fz e_cl_ptr e_clPtr_box e_clBox e_clPtr_fzb e_clL_nil e_clL_cons e_ok_d e_ok_any e_ok_el e_ok_agg e_ok_tup e_ok_clo e_ok_own e_okOwn_row e_okOwn_fz e_ok_ptr e_okPtr_box e_okPtr_fzb e_okL_nil e_okL_cons e_ids_d e_ids_any e_ids_el e_ids_own e_ids_ptr e_ids_agg e_ids_tup e_ids_clo e_idsL_nil e_idsL_cons e_frz_nil e_frz_cons e_frz_row e_frz_fz e_frz_fzb e_frz_box e_frzB e_flat_lit e_flat_sl e_flat_agg e_flat_tup e_flat_any e_flat_clo e_flatL_nil e_flatL_cons e_objD e_setMany e_takeA e_zerosA e_gdL e_idsG e_idsOp e_callV' e_callF' e_o_move e_o_assign e_o_pick e_o_unOp e_o_binOp e_o_alloc e_o_box e_o_build e_o_buildSlice e_o_load e_o_store e_o_fieldAddr e_o_field e_o_indexAddr e_o_index e_o_slice0 e_o_slice1 e_o_slice2 e_o_slice3 e_o_makeSlice e_o_makeFunc e_o_convert e_o_extract e_o_nilCheck e_o_bcall e_o_vcall litI litB litS List.map_cons List.map_nil List.getD_cons_zero List.getD_cons_succ List.getD_nil List.getElem?_cons_zero List.getElem?_cons_succ List.getElem?_nil Option.getD_some Option.getD_none Option.map_some Option.map_none List.length_cons List.length_nil List.all_cons List.all_nil Bool.and_true Bool.true_and and_true true_and and_self
attribute [local go_sem] List.take_zero List.take_succ_cons List.drop_zero List.drop_succ_cons List.nil_append List.cons_append List.append_nil List.replicate_succ List.replicate_zero List.flatten_cons List.flatten_nil Nat.zero_add Nat.add_zero Nat.mul_one Nat.zero_mul Nat.one_mul Nat.mul_zero List.set_cons_zero List.set_cons_succ List.foldl_cons List.foldl_nil appendOk rowsOk inB sliceOk cutRows mtake mdrop List.length_append List.length_take List.length_drop if_true if_false or_false or_true true_or Bool.not_true Bool.not_false Bool.false_eq_true List.length_map Int.toNat_natCast Int.toNat_zero Int.toNat_one eq_self St.after St.put applyEff R0 T1 T2 T3 T4 T5 T6 T7 T8 T9 T10 T11 T12 T13 T14 T15 T16 T17 T18 T19 T20 T21 T22 T23 T24 T25 T26 T27 T28 T29 T30 T31 T32 T33 T34 T35 T36 T37 T38 T39 T40 T41 T42 T43 T44 T45 T46 T47 T48 T49 T50 T51 T52 T53 T54 T55 T56 T57 T58 T59 T60 T61 T62 T63 T64 T65 T66 T67 T68 T69 T70 T71 T72 T73 T74 T75 T76 T77 T78 T79 T80 T81 T82 T83 T84 T85 T86 T87 T88 T89 T90 T91 T92 T93 T94 T95 T96 T97 T98 T99 T100 T101 T102 T103 T105 T106 T107 T108 T109 T110 T111 T112 T113 T114 T117 T118 T119 T120 T121 T122 T123 T124 T125 T126 T127 T130 T131 T132 T133 T134 ti1 ti2 ti3 ti4 ti5 ti6 ti7 ti8 ti9 ti10 ti11 ti12 ti13 ti14 ti15 ti16 ti17 ti18 ti19 ti20 ti21 ti22 ti23 ti24 ti25 ti26 ti27 ti28 ti29 ti30 ti31 ti32 ti33 ti34 ti35 ti36 ti37 ti38 ti39 ti40 ti41 ti42 ti43 ti44 ti45 ti46 ti47 ti48 ti49 ti50 ti51 ti52 ti53 ti54 ti55 ti56 ti57 ti58 ti59 ti60 ti61 ti62 ti63 ti64 ti65 ti66 ti67 ti68 ti69 ti70 ti71 ti72 ti73 ti74 ti75 ti76 ti77 ti78 ti79 ti80 ti81 ti82 ti83 ti84 ti85 ti86 ti87 ti88 ti89 ti90 ti91 ti92 ti93 ti94 ti95 ti96 ti97 ti98 ti99 ti100 ti101 ti102 ti103 ti105 ti106 ti107 ti108 ti109 ti110 ti111 ti112 ti113 ti114 ti117 ti118 ti119 ti120 ti121 ti122 ti123 ti124 ti125 ti126 ti127 ti130 ti131 ti132 ti133 ti134
attribute [local irreducible] AWp evOps evD AWq Ops
theorem idxN_ge (p : Nm → Bool) : ∀ (l : List Nm) (k : Nat), idxN p l k = -1 ∨ (k : Int) ≤ idxN p l k
  | [], k => .inl rfl
  | a :: l, k => by
    simp only [idxN]
    split
    · exact .inr (Int.le_refl _)
    · rcases idxN_ge p l (k + 1) with h | h
      · exact .inl h
      · exact .inr (by omega)
theorem idxN_none (p : Nm → Bool) : ∀ (l : List Nm) (k : Nat), idxN p l k = -1 → l.filter (fun n => !p n) = l
  | [], _, _ => rfl
  | a :: l, k, h => by
    simp only [idxN] at h
    split at h
    · omega
    · rename_i ha
      have := idxN_none p l (k + 1) h
      simp only [Bool.not_eq_true] at ha
      simp [ha, this]
theorem idxN_some (p : Nm → Bool) : ∀ (l : List Nm) (k : Nat), idxN p l k ≠ -1 → ∃ j, idxN p l k = ((k + j : Nat) : Int) ∧ j < l.length ∧ (l.take (j + 1)).filter (fun n => !p n) = l.take j
  | [], _, h => absurd rfl h
  | a :: l, k, h => by
    simp only [idxN] at h ⊢
    by_cases ha : p a = true
    · rw [if_pos ha] at h ⊢
      exact ⟨0, by simp, by simp, by simp [ha]⟩
    · rw [if_neg ha] at h ⊢
      obtain ⟨j, h1, h2, h3⟩ := idxN_some p l (k + 1) h
      refine ⟨j + 1, by rw [h1]; congr 1; omega, by simp; omega, ?_⟩
      simp only [Bool.not_eq_true] at ha
      simp [ha, h3]
/-- How far the row is while elements are moved down. -/
structure DelI (p : Nm → Bool) (l : List Nm) (i j : Nat) (L : List Nm) : Prop where
  len : L.length = l.length
  hi : i ≤ l.length
  hj : j < i
  keep : L.take j = (l.take i).filter fun n => !p n
  rest : L.drop i = l.drop i
theorem DelI.skip {p : Nm → Bool} {l L : List Nm} {i j : Nat} (h : DelI p l i j L) (hi : i < l.length) (hp : p (l.getD i (0, 0)) = true) : DelI p l (i + 1) j L := by
  have hx : l[i]? = some (l.getD i (0, 0)) := by rw [List.getD_eq_getElem?_getD, List.getElem?_eq_getElem hi]; rfl
  generalize l.getD i (0, 0) = x at *
  refine ⟨h.len, hi, by have := h.hj; omega, ?_, ?_⟩
  · rw [h.keep, List.take_add_one, hx]
    simp [List.filter_append, hp]
  · rw [← List.drop_drop, ← List.drop_drop, h.rest]
theorem DelI.move {p : Nm → Bool} {l L : List Nm} {i j : Nat} (h : DelI p l i j L) (hi : i < l.length) (hp : p (l.getD i (0, 0)) = false) : DelI p l (i + 1) (j + 1) (L.set j (l.getD i (0, 0))) := by
  have hx : l[i]? = some (l.getD i (0, 0)) := by rw [List.getD_eq_getElem?_getD, List.getElem?_eq_getElem hi]; rfl
  have hj := h.hj
  have hl := h.len
  generalize l.getD i (0, 0) = x at *
  refine ⟨by rw [List.length_set, hl], hi, by omega, ?_, ?_⟩
  · rw [List.take_add_one, List.getElem?_set_self (by omega), List.take_set_of_le (Nat.le_refl _), h.keep, List.take_add_one, hx]
    simp [List.filter_append, hp]
  · rw [List.drop_set_of_lt (by omega), ← List.drop_drop, ← List.drop_drop, h.rest]
theorem DelI.get {p : Nm → Bool} {l L : List Nm} {i j : Nat} (h : DelI p l i j L) (hi : i < l.length) : L.getD i (0, 0) = l.getD i (0, 0) := by
  have h1 : L[i]? = l[i]? := by
    have := congrArg (·[0]?) h.rest
    simpa using this
  rw [List.getD_eq_getElem?_getD, List.getD_eq_getElem?_getD, h1]
abbrev nmR (l : List Nm) : List (List Dat) := l.map fun n => [.lit (.int .i64 n.1), .lit (.int .i64 n.2)]
abbrev delS (va : Value) (caps : List AV) (f : Nat) (l : List Nm) (i j : Nat) (L : List Nm) : St := ⟨[.own 42 va, .clo (.func f) caps, .any, .any, .d (.lit (.slice none 0 0)), litI .i64 j, litI .i64 i, .any, .any, .any, .any, .any, .any, .any, .any, .any, .any, .any, .any, .any, .any, .any, .any, .any, .any, .any, .any, .any, .any, .any, .any, .any, .any, .any, .any, .any, .any, .any, .any, .any, .any, .any], [.no, .no, .no, .no, .no, .no, .no, .no, .no, .no, .no, .no, .no, .no, .no, .no, .no, .no, .no, .no, .no, .no, .no, .no, .no, .no, .no, .no, .no, .no, .no, .no, .no, .no, .no, .no, .no, .no, .no, .no, .no, .no, .row va 25 2 (nmR L)]⟩
theorem valsN_take : ∀ (L : List Nm) (j : Nat), (valsN L).take (j * 2) = valsN (L.take j)
  | L, 0 => by simp [valsN]
  | [], j + 1 => by simp [valsN]
  | n :: L, j + 1 => by
    have h1 : valsN (n :: L) = .int .i64 n.1 :: .int .i64 n.2 :: valsN L := rfl
    have h2 : valsN ((n :: L).take (j + 1)) = .int .i64 n.1 :: .int .i64 n.2 :: valsN (L.take j) := rfl
    rw [h1, h2, show (j + 1) * 2 = j * 2 + 1 + 1 from by omega, List.take_succ_cons, List.take_succ_cons, valsN_take L j]
def FiltAt (C : Nat → Prop) (g : Nat) (w w' : World) (l : List Nm) (v : Value) : Prop :=
  Fr (fun b => b = g) w w' ∧ Has ⟨w'.heap, fun b => C b ∨ ((w.heap.size ≤ b ∨ b = g) ∧ b < w'.heap.size)⟩ (.d (nms l)) v
set_option maxRecDepth 4000 in
set_option maxHeartbeats 4000000 in
theorem f56_calls {w : World} {C : Nat → Prop} {g : Nat} {va fv : Value} {f : Nat} {caps : List AV} (hcl : ∀ o, clL o caps = caps) (hck : ∀ o, clOkL o caps = True) (hci : idsOfL caps = []) (l : List Nm) (p : Nm → Bool) (hl : l.length ≤ 16777216)
    (hp : ∀ n : Nm, Spec Try.prog f ([.agg (nm n.1 n.2)] ++ caps) (litB (p n))) (hC : ∀ x, C x → x < w.heap.size ∧ ¬ x = g) (hfv : Has ⟨w.heap, C⟩ (.clo (.func f) caps) fv) (hob : ObjAt ⟨w.heap, C⟩ (.row va 25 2 (nmR l))) (hblk : va.ownBlock = some g) (hg : g < w.heap.size) :
    Calls Try.prog 56 #[va, fv] w fun e w' => ∃ v, e = .returned v ∧ FiltAt C g w w' (l.filter fun n => !p n) v := by
  have hfn := IsFn.clo f caps hcl hck hci
  have h67 := f67_spec hfn l p hp
  have hcl := hfn.cl
  have hok := hfn.ok
  have hids := hfn.ids
  refine (callsIn_wide (n := 0)).1 (callsIn_of_wp (fn := Try.f56) Try.func56 rfl trivial ?_)
  have hs : Sat ⟨Try.prog, w, C, fun b => b = g, none, []⟩ (⟨[.own 42 va, .clo (.func f) caps, .any, .any, .any, .any, .any, .any, .any, .any, .any, .any, .any, .any, .any, .any, .any, .any, .any, .any, .any, .any, .any, .any, .any, .any, .any, .any, .any, .any, .any, .any, .any, .any, .any, .any, .any, .any, .any, .any, .any, .any], [.no, .no, .no, .no, .no, .no, .no, .no, .no, .no, .no, .no, .no, .no, .no, .no, .no, .no, .no, .no, .no, .no, .no, .no, .no, .no, .no, .no, .no, .no, .no, .no, .no, .no, .no, .no, .no, .no, .no, .no, .no, .no, .row va 25 2 (nmR l)]⟩) { tmps := #[va, fv] ++ Array.replicate (42 - 2) undef, defers := [] } w := by
    refine sat_start (P := Try.prog) (args := [.own 42 va, .clo (.func f) caps]) (vs := [va, fv]) (n := 42) (holds := [.row va 25 2 (nmR l)]) hC ?_ ?_ ?_
    · simp only [HasL]
      refine ⟨?_, hfv, trivial⟩
      obtain ⟨xs, ⟨_, h2⟩, _⟩ := hob
      simp only [Has]
      refine ⟨trivial, ?_⟩
      rcases h2 with ⟨rfl, _⟩ | ⟨g', cap, cur, rfl, _⟩ <;> rfl
    · intro i x hx
      match i, hx with
      | 0, hx => simp at hx; subst hx; exact ⟨g, hblk, rfl, hg, hob⟩
      | i + 1, hx => simp at hx
    · intro i j x y z hx hy _ _
      match i, j, hx, hy with
      | 0, 0, _, _ => rfl
      | i + 1, _, hx, _ => simp at hx
      | 0, j + 1, _, hy => simp at hy
  refine awq_go (E := ⟨Try.prog, w, C, fun b => b = g, none, []⟩) rfl hs ?_
  rcases Int.decEq (idxN p l 0) (-1) with hne | heq
  · obtain ⟨j0, hidx, hj0, hfil⟩ := idxN_some p l 0 hne
    rw [Nat.zero_add] at hidx
    rw [hidx] at h67
    have hm1 : (((j0 : Nat) : Int) == -1) = false := by simp
    repeat' first
      | ((fail_if_success show AWq _ (Code.seq (Code.region 11 _ _) _) _ _); refine awq_seq ?_)
      | refine awq_block ?_
      | refine awp_seq ?_
      | refine awp_block ?_
      | refine awp_skip ?_
      | (refine reg _ (by (simp only [List.map_cons, List.map_nil]; rfl)) rfl ?_; intro K hK)
      | (refine awp_cond _ (by rfl) ?_ ?_ <;> (intro hb; first | (cases hb; done) | (have ht : true = true := hb; clear ht hb) | (have ht : false = false := hb; clear ht hb) | (simp only [hb]) | skip))
      | (refine awp_exit ?_; simp only [thenA, blockA, reduceIte, RetQ, Nat.reduceEqDiff])
      | (refine awp_ret ?_; simp only [thenA, blockA, RetQ])
      | (refine ev_nil (hK _ ?_); clear hK K)
      | refine ev_guardU _ (by (simp only [go_sem, hcl, hok, hids, hm1]; rfl)) (by (simp only [go_sem, hcl, hok, hids, hm1]; rfl)) _ (by (simp only [go_sem, hcl, hok, hids, hm1]; rfl)) ?_
      | (refine ev_guardT _ _ (by (simp only [go_sem, hcl, hok, hids, hm1]; rfl)) (by (simp only [go_sem, hcl, hok, hids, hm1]; rfl)) ?_ ?_ <;> (intro hb; first | (cases hb; done) | (have ht : true = true := hb; clear ht hb) | (have ht : false = false := hb; clear ht hb) | (simp only [hb]) | skip))
      | (refine ev_guardF _ _ (by (simp only [go_sem, hcl, hok, hids, hm1]; rfl)) (by (simp only [go_sem, hcl, hok, hids, hm1]; rfl)) ?_ ?_ <;> (intro hb; first | (cases hb; done) | (have ht : true = true := hb; clear ht hb) | (have ht : false = false := hb; clear ht hb) | (simp only [hb]) | skip))
      | refine ev_call0 _ _ (by (simp only [go_sem, hcl, hok, hids, hm1]; rfl)) (by first | exact h67 ..) (by (simp only [go_sem, hcl, hok, hids, hm1])) _ (by (simp only [go_sem, hcl, hok, hids, hm1]; rfl)) ?_
      | refine ev_callC _ _ _ _ (by (simp only [go_sem, hcl, hok, hids, hm1]; rfl)) (by (simp only [go_sem, hcl, hok, hids, hm1]; rfl)) (by first | exact h67 ..) (by (simp only [go_sem, hcl, hok, hids, hm1])) _ (by (simp only [go_sem, hcl, hok, hids, hm1]; rfl)) ?_
      | refine ev_step0 _ _ (by (simp only [go_sem, hcl, hok, hids, hm1]; rfl)) (by (first | trivial | decide | (simp only [inB, sliceOk, appendOk, rowsOk]; omega) | (simp [inB, sliceOk, appendOk, rowsOk]; omega))) _ (by (simp only [go_sem, hcl, hok, hids, hm1]; rfl)) ?_
      | (refine ev_step _ (by (simp only [go_sem, hcl, hok, hids, hm1]; rfl)) (by (first | trivial | decide | (simp only [inB, sliceOk, appendOk, rowsOk]; omega) | (simp [inB, sliceOk, appendOk, rowsOk]; omega))) _ (fun g u => by (simp only [go_sem, hcl, hok, hids, hm1]; rfl)) ?_; intro g u; (try clear u); (try clear g))
      | fail
    have h0 : DelI p l (j0 + 1) j0 l := ⟨rfl, hj0, Nat.lt_succ_self _, hfil.symm, rfl⟩
    refine awp_loopI (fun i : Nat × Nat × List Nm => DelI p l i.1 i.2.1 i.2.2) (fun i => l.length - i.1) (fun i => delS va caps f l i.1 i.2.1 i.2.2) (j0 + 1, j0, l) h0 ?_ ?_
    · refine Wk.mk ?_ ?_
      all_goals (repeat' first | exact trivial | exact LeA.refl _ | exact LeA.any _ | exact LeO.refl _ | exact LeO.no _ | exact LeA.nil _ | (refine LeA.i ?_; (first | rfl | (push_cast; rfl) | (rw [wrap_id (by omega)]; push_cast; omega) | (simp [wrap_id]; omega))) | refine ⟨?_, ?_⟩)
    rintro ⟨i, j, L⟩ hI
    simp only at hI
    simp only [delS, litI, litB]
    have hll := hI.len
    have hii := hI.hi
    have hjj := hI.hj
    by_cases hlt : i < L.length
    rotate_left
    have hdec : decide ((i : Int) < (L.length : Int)) = false := by simp; omega
    · repeat' first
        | ((fail_if_success show AWq _ (Code.seq (Code.region 11 _ _) _) _ _); refine awq_seq ?_)
        | refine awq_block ?_
        | refine awp_seq ?_
        | refine awp_block ?_
        | refine awp_skip ?_
        | (refine reg _ (by (simp only [List.map_cons, List.map_nil]; rfl)) rfl ?_; intro K hK)
        | (refine awp_cond _ (by rfl) ?_ ?_ <;> (intro hb; first | (cases hb; done) | (have ht : true = true := hb; clear ht hb) | (have ht : false = false := hb; clear ht hb) | (simp only [hb]) | skip))
        | (refine awp_exit ?_; simp only [thenA, blockA, reduceIte, RetQ, Nat.reduceEqDiff])
        | (refine awp_ret ?_; simp only [thenA, blockA, RetQ])
        | (refine ev_nil (hK _ ?_); clear hK K)
        | refine ev_guardU _ (by (simp only [go_sem, hdec]; rfl)) (by (simp only [go_sem, hdec]; rfl)) _ (by (simp only [go_sem, hdec]; rfl)) ?_
        | (refine ev_guardT _ _ (by (simp only [go_sem, hdec]; rfl)) (by (simp only [go_sem, hdec]; rfl)) ?_ ?_ <;> (intro hb; first | (cases hb; done) | (have ht : true = true := hb; clear ht hb) | (have ht : false = false := hb; clear ht hb) | (simp only [hb]) | skip))
        | (refine ev_guardF _ _ (by (simp only [go_sem, hdec]; rfl)) (by (simp only [go_sem, hdec]; rfl)) ?_ ?_ <;> (intro hb; first | (cases hb; done) | (have ht : true = true := hb; clear ht hb) | (have ht : false = false := hb; clear ht hb) | (simp only [hb]) | skip))
        | refine ev_step0 _ _ (by (simp only [go_sem, hdec]; rfl)) (by (first | trivial | decide | (simp only [inB, sliceOk, appendOk, rowsOk]; omega) | (simp [inB, sliceOk, appendOk, rowsOk]; omega))) _ (by (simp only [go_sem, hdec]; rfl)) ?_
        | (refine ev_step _ (by (simp only [go_sem, hdec]; rfl)) (by (first | trivial | decide | (simp only [inB, sliceOk, appendOk, rowsOk]; omega) | (simp [inB, sliceOk, appendOk, rowsOk]; omega))) _ (fun g u => by (simp only [go_sem, hdec]; rfl)) ?_; intro g u; (try clear u); (try clear g))
        | fail
      refine awq_ops ?_
      intro a1 w1 hs1
      refine ops_step (K := fun s => Wk ⟨Try.prog, w, C, fun b => b = g, none, []⟩ s (⟨[.own 42 va, .any, .any, .any, .any, litI .i64 j, .any, .any, .any, .any, .any, .any, .any, .any, .any, .any, .any, .any, .any, .any, .any, .any, .any, .any, .any, .any, .any, .any, .any, .any, .any, .any, .any, .any, .any, .any, .own 42 va, litI .i64 j, .any, .any, .any, .any], [.no, .no, .no, .no, .no, .no, .no, .no, .no, .no, .no, .no, .no, .no, .no, .no, .no, .no, .no, .no, .no, .no, .no, .no, .no, .no, .no, .no, .no, .no, .no, .no, .no, .no, .no, .no, .no, .no, .no, .no, .no, .no, .row va 25 2 (nmR L)]⟩)) T_ok 2 hs1 (by decide) rfl ?_ fun s a2 w2 hK hs2 => ?_
      · repeat' first
          | refine awp_seq ?_
          | refine awp_block ?_
          | refine awp_skip ?_
          | (refine reg _ (by (simp only [List.map_cons, List.map_nil]; rfl)) rfl ?_; intro K hK)
          | (refine awp_cond _ (by rfl) ?_ ?_ <;> (intro hb; first | (cases hb; done) | (have ht : true = true := hb; clear ht hb) | (have ht : false = false := hb; clear ht hb) | (simp only [hb]) | skip))
          | (refine awp_exit ?_; simp only [thenA, blockA, reduceIte, RetQ, Nat.reduceEqDiff])
          | (refine awp_ret ?_; simp only [thenA, blockA, RetQ])
          | (refine ev_nil (hK _ ?_); clear hK K)
          | refine ev_guardU _ (by (simp only [go_sem]; rfl)) (by (simp only [go_sem]; rfl)) _ (by (simp only [go_sem]; rfl)) ?_
          | (refine ev_guardT _ _ (by (simp only [go_sem]; rfl)) (by (simp only [go_sem]; rfl)) ?_ ?_ <;> (intro hb; first | (cases hb; done) | (have ht : true = true := hb; clear ht hb) | (have ht : false = false := hb; clear ht hb) | (simp only [hb]) | skip))
          | (refine ev_guardF _ _ (by (simp only [go_sem]; rfl)) (by (simp only [go_sem]; rfl)) ?_ ?_ <;> (intro hb; first | (cases hb; done) | (have ht : true = true := hb; clear ht hb) | (have ht : false = false := hb; clear ht hb) | (simp only [hb]) | skip))
          | refine ev_step0 _ _ (by (simp only [go_sem]; rfl)) (by (first | trivial | decide | (simp only [inB, sliceOk, appendOk, rowsOk]; omega) | (simp [inB, sliceOk, appendOk, rowsOk]; omega))) _ (by (simp only [go_sem]; rfl)) ?_
          | (refine ev_step _ (by (simp only [go_sem]; rfl)) (by (first | trivial | decide | (simp only [inB, sliceOk, appendOk, rowsOk]; omega) | (simp [inB, sliceOk, appendOk, rowsOk]; omega))) _ (fun g u => by (simp only [go_sem]; rfl)) ?_; intro g u; (try clear u); (try clear g))
          | fail
        refine ev_nil ?_
        refine Wk.mk ?_ ?_
        all_goals (repeat' first | exact trivial | exact LeA.refl _ | exact LeA.any _ | exact LeO.refl _ | exact LeO.no _ | exact LeA.nil _ | (refine LeA.i ?_; (first | rfl | (push_cast; rfl) | (rw [wrap_id (by omega)]; push_cast; omega) | (simp [wrap_id]; omega))) | refine ⟨?_, ?_⟩)
      have hs3 := hK _ _ hs2
      have hiL : i = l.length := by omega
      have hkeep := hI.keep
      rw [hiL, List.take_length] at hkeep
      obtain ⟨cap, cur, hva, hcur, hc1, hc2, hc3, hc4⟩ := rowN_obj (hs3.o 42 _ rfl) hblk
      have h36 := Act.eval_of hs3 36 rfl
      have h37 := has_lit (Act.eval_of hs3 37 rfl)
      have h0v := Act.eval_of hs3 0 rfl
      simp only [Has] at h36 h0v
      have hsz := hs3.size
      have ev36 : a2.eval (.tmp 36) = .slice (some ⟨g, 0, none⟩) L.length cap := by rw [h36.1, hva]
      refine ops_raw rfl rfl (fun c hc => by cases hc) (run_slice_op (E := ⟨Try.prog, w, C, fun b => b = g, none, []⟩) T_ok rfl (by rfl) (by rfl) (by rfl) ev36 (l := j) (h := L.length) (.inr ⟨.i64, by simp only [Option.map_some, h37]⟩) (.inl ⟨rfl, rfl⟩) ⟨by omega, by omega, by omega⟩ hc1) ?_
      have hsl : sliced (some ⟨g, 0, none⟩) ((j : Int)).toNat ((L.length : Int)).toNat cap ((T (T 23).elem).size) = .slice (if cap = j then (some ⟨g, 0, none⟩) else some ⟨g, j * 2, none⟩) (L.length - j) (cap - j) := by
        have e2 : (T (T 23).elem).size = 2 := rfl
        rw [e2]
        simp only [sliced, Int.toNat_natCast]
        split
        · rfl
        · simp [Addr.add_lit]
      rw [hsl]
      have h38 := eval_put_at (a := a2) (d := 38) (v := .slice (if cap = j then (some ⟨g, 0, none⟩) else some ⟨g, j * 2, none⟩) (L.length - j) (cap - j)) (by rw [hsz]; simp)
      generalize hsv : Value.slice (if cap = j then (some ⟨g, 0, none⟩) else some ⟨g, j * 2, none⟩) (L.length - j) (cap - j) = sv at *
      obtain ⟨w3, hcr, hcf, hcg⟩ := run_clear (E := ⟨Try.prog, w, C, fun b => b = g, none, []⟩) T_ok (t := 23) (ty := 0) (n := L.length - j) (c := cap - j) (off := j * 2) rfl rfl rfl rfl hcur (by rw [hc3]; omega) (if cap = j then (some ⟨g, 0, none⟩) else some ⟨g, j * 2, none⟩) (fun h => by rw [if_neg (by omega)])
      refine ops_raw (v := .tuple #[]) (w' := w3) rfl rfl (fun c hc => by cases hc) ?_ ?_
      · rw [hsv] at hcr
        simp [execOp, resolve, invoke, builtin, h38, hcr]
      refine ops_end (by decide) ?_
      have z2 : w.heap.size ≤ w2.heap.size := hs3.fr.size
      have z3 := hcf.size
      have hL' : ((L.take j ++ List.replicate (L.length - j) (0, 0) : List Nm)).length = L.length := by simp; omega
      have hob3 : ObjAt ⟨w3.heap, fun b => C b ∨ ((w.heap.size ≤ b ∨ b = g) ∧ b < w3.heap.size)⟩ (.row va 25 2 (rowsN (L.take j ++ List.replicate (L.length - j) (0, 0)))) := by
        have h := rowN_mk (m := ⟨w3.heap, fun b => C b ∨ ((w.heap.size ≤ b ∨ b = g) ∧ b < w3.heap.size)⟩) (L := (L.take j ++ List.replicate (L.length - j) (0, 0) : List Nm)) hcg (by rw [hL']; exact hc1) hc2 (by simp [setMany, hc3]; omega) ?_
        · rw [hL'] at h
          rw [hva]
          exact h
        · rw [hL', valsN_append, valsN_zero, ← valsN_take, ← hc4]
          have h1 : (cur.toList.take (j * 2) ++ List.replicate ((L.length - j) * 2) (Value.int .i64 0)).length = L.length * 2 := by simp [hc3]; omega
          simp only [setMany]
          rw [← h1, List.take_left, List.take_take, Nat.min_eq_left (by omega)]
      generalize hLL : (L.take j ++ List.replicate (L.length - j) (0, 0) : List Nm) = L3 at *
      have hrep : Rep ⟨w3.heap, fun b => C b ∨ ((w.heap.size ≤ b ∨ b = g) ∧ b < w3.heap.size)⟩ (nms L3) va := by
        refine frz_rep (MemLe.refl _) rfl (fun b hb => ?_) hob3
        rw [hblk] at hb
        cases hb
        exact .inr ⟨.inr rfl, by omega⟩
      have hd3 : ((a2.put (some 38) sv).put none (.tuple #[])).defers = [] := hs3.defers
      have hs4 := Sat.anew (P := Try.prog) (C := fun b => C b ∨ ((w.heap.size ≤ b ∨ b = g) ∧ b < w3.heap.size)) (n := 42) (t := ((List.replicate 42 AV.any).set 5 (litI .i64 j)).set 0 (.d (nms L3))) (w := w3) hd3 (fun b hb => ?_) ?_
      rotate_left
      · rcases hb with hb | hb
        · have := (hC b hb).1; omega
        · exact hb.2
      · have hL0 := hasL_any (m := ⟨w3.heap, fun b => C b ∨ ((w.heap.size ≤ b ∨ b = g) ∧ b < w3.heap.size)⟩) (a2.put (some 38) sv).tmps.toList
        have hn : (a2.put (some 38) sv).tmps.toList.length = 42 := by
          show (a2.tmps.setIfInBounds 38 sv).toList.length = 42
          simp [hsz]
        rw [hn] at hL0
        have get : ∀ i : Nat, i ≠ 38 → i < 42 → (a2.put (some 38) sv).tmps.toList[i]? = some (a2.eval (.tmp i)) := by
          intro i hi hlt
          show (a2.tmps.setIfInBounds 38 sv).toList[i]? = _
          rw [Array.toList_setIfInBounds, List.getElem?_set_ne (Ne.symm hi)]
          simp only [Act.eval, Array.getElem?_toList, Array.getD_eq_getD_getElem?]
          have : i < a2.tmps.size := by rw [hsz]; simpa using hlt
          rw [Array.getElem?_eq_getElem this]; rfl
        have h5 := has_lit (Act.eval_of hs3 5 rfl)
        refine (hL0.upd 5 (get 5 (by decide) (by decide)) ?_).upd 0 (get 0 (by decide) (by decide)) ?_
        · rw [h5]; simp only [litI, Has, Rep]; exact ⟨trivial, rfl⟩
        · rw [h0v.1]; simp only [Has]; exact hrep
      simp only [litI, List.replicate_succ, List.replicate_zero, List.set_cons_succ, List.set_cons_zero] at hs4
      refine awq_go (E := ⟨Try.prog, w3, fun b => C b ∨ ((w.heap.size ≤ b ∨ b = g) ∧ b < w3.heap.size), fun _ => False, none, []⟩) rfl hs4 ?_
      repeat' first
        | (refine awq_seq ?_)
        | refine awq_block ?_
        | refine awp_seq ?_
        | refine awp_block ?_
        | refine awp_skip ?_
        | (refine reg _ (by (simp only [List.map_cons, List.map_nil]; rfl)) rfl ?_; intro K hK)
        | (refine awp_cond _ (by rfl) ?_ ?_ <;> (intro hb; first | (cases hb; done) | (have ht : true = true := hb; clear ht hb) | (have ht : false = false := hb; clear ht hb) | (simp only [hb]) | skip))
        | (refine awp_exit ?_; simp only [thenA, blockA, reduceIte, RetQ, Nat.reduceEqDiff])
        | (refine awp_ret ?_; simp only [thenA, blockA, RetQ])
        | (refine ev_nil (hK _ ?_); clear hK K)
        | refine ev_guardU _ (by (simp only [go_sem]; rfl)) (by (simp only [go_sem]; rfl)) _ (by (simp only [go_sem]; rfl)) ?_
        | (refine ev_guardT _ _ (by (simp only [go_sem]; rfl)) (by (simp only [go_sem]; rfl)) ?_ ?_ <;> (intro hb; first | (cases hb; done) | (have ht : true = true := hb; clear ht hb) | (have ht : false = false := hb; clear ht hb) | (simp only [hb]) | skip))
        | (refine ev_guardF _ _ (by (simp only [go_sem]; rfl)) (by (simp only [go_sem]; rfl)) ?_ ?_ <;> (intro hb; first | (cases hb; done) | (have ht : true = true := hb; clear ht hb) | (have ht : false = false := hb; clear ht hb) | (simp only [hb]) | skip))
        | refine ev_step0 _ _ (by (simp only [go_sem]; rfl)) (by (first | trivial | decide | (simp only [inB, sliceOk, appendOk, rowsOk]; omega) | (simp [inB, sliceOk, appendOk, rowsOk]; omega))) _ (by (simp only [go_sem]; rfl)) ?_
        | (refine ev_step _ (by (simp only [go_sem]; rfl)) (by (first | trivial | decide | (simp only [inB, sliceOk, appendOk, rowsOk]; omega) | (simp [inB, sliceOk, appendOk, rowsOk]; omega))) _ (fun g u => by (simp only [go_sem]; rfl)) ?_; intro g u; (try clear u); (try clear g))
        | fail
      refine awq_ret ?_
      intro a5 w5 hs5
      have hres := hs5.result (fn := Try.f56) (r := .d (nms (l.filter fun n => !p n))) ?_
      rotate_left
      · all_goals (refine resR_one T_ok rfl _ (by (simp only [go_sem, resA]; rfl)) (by first | trivial | (simp only [go_sem, resA])) (by first | trivial | (simp only [go_sem])) ?_; simp only [go_sem])
        refine LeA.s ?_
        rw [← hLL, ← hkeep]
        have h1 : (L.take j).length = j := by rw [List.length_take]; omega
        rw [List.take_append_of_le_length (by omega), List.take_take, Nat.min_self]
      obtain ⟨v, hv1, hv2⟩ := hres
      have z5 : w3.heap.size ≤ w5.heap.size := hs5.fr.size
      have hle : MemLe ⟨w5.heap, fun b => (C b ∨ ((w.heap.size ≤ b ∨ b = g) ∧ b < w3.heap.size)) ∨ ((w3.heap.size ≤ b ∨ False) ∧ b < w5.heap.size)⟩ ⟨w5.heap, fun b => C b ∨ ((w.heap.size ≤ b ∨ b = g) ∧ b < w5.heap.size)⟩ := by
        refine ⟨fun b hb => ?_, fun _ _ => rfl⟩
        rcases hb with (hb | hb) | hb
        · exact .inl hb
        · exact .inr ⟨hb.1, Nat.lt_of_lt_of_le hb.2 z5⟩
        · refine .inr ⟨.inl ?_, hb.2⟩
          have := hb.1.resolve_right fun h => h
          omega
      exact ⟨hs5.defers, v, hv1, v, rfl, (hs3.fr.trans hcf).trans (hs5.fr.mono fun _ _ h => h.elim), Has.mono hle _ _ hv2⟩
    have hdec : decide ((i : Int) < (L.length : Int)) = true := by simp; omega
    have hx := nms_at L hlt
    have hget := hI.get (by omega)
    have hxj := nms_at L (i := j) (by omega)
    rw [hget] at hx
    have hsk := hI.skip (by omega)
    have hmv := hI.move (by omega)
    generalize l.getD i (0, 0) = x at *
    repeat' first
      | refine awp_seq ?_
      | refine awp_block ?_
      | refine awp_skip ?_
      | (refine reg _ (by (simp only [List.map_cons, List.map_nil]; rfl)) rfl ?_; intro K hK)
      | (refine awp_cond _ (by rfl) ?_ ?_ <;> (intro hb; first | (cases hb; done) | (have ht : true = true := hb; clear ht hb) | (have ht : false = false := hb; clear ht hb) | (simp only [hb]) | skip))
      | (refine awp_exit ?_; simp only [thenA, blockA, reduceIte, RetQ, Nat.reduceEqDiff])
      | (refine awp_ret ?_; simp only [thenA, blockA, RetQ])
      | (refine ev_nil (hK _ ?_); clear hK K)
      | refine ev_guardU _ (by (simp only [go_sem, hdec, hx, hxj, hcl, hok, hids]; rfl)) (by (simp only [go_sem, hdec, hx, hxj, hcl, hok, hids]; rfl)) _ (by (simp only [go_sem, hdec, hx, hxj, hcl, hok, hids]; rfl)) ?_
      | (refine ev_guardT _ _ (by (simp only [go_sem, hdec, hx, hxj, hcl, hok, hids]; rfl)) (by (simp only [go_sem, hdec, hx, hxj, hcl, hok, hids]; rfl)) ?_ ?_ <;> (intro hb; first | (cases hb; done) | (have ht : true = true := hb; clear ht hb) | (have ht : false = false := hb; clear ht hb) | (simp only [hb]) | skip))
      | (refine ev_guardF _ _ (by (simp only [go_sem, hdec, hx, hxj, hcl, hok, hids]; rfl)) (by (simp only [go_sem, hdec, hx, hxj, hcl, hok, hids]; rfl)) ?_ ?_ <;> (intro hb; first | (cases hb; done) | (have ht : true = true := hb; clear ht hb) | (have ht : false = false := hb; clear ht hb) | (simp only [hb]) | skip))
      | refine ev_callFn hfn _ _ (by (simp only [go_sem, hdec, hx, hxj, hcl, hok, hids])) (by (simp only [go_sem, hdec, hx, hxj, hcl, hok, hids]; rfl)) ((hp x)) (by (simp only [go_sem, hdec, hx, hxj, hcl, hok, hids])) _ (by (simp only [go_sem, hdec, hx, hxj, hcl, hok, hids]; rfl)) ?_
      | refine ev_step0 _ _ (by (simp only [go_sem, hdec, hx, hxj, hcl, hok, hids]; rfl)) (by (first | trivial | decide | (simp only [inB, sliceOk, appendOk, rowsOk]; omega) | (simp [inB, sliceOk, appendOk, rowsOk]; omega))) _ (by (simp only [go_sem, hdec, hx, hxj, hcl, hok, hids]; rfl)) ?_
      | (refine ev_step _ (by (simp only [go_sem, hdec, hx, hxj, hcl, hok, hids]; rfl)) (by (first | trivial | decide | (simp only [inB, sliceOk, appendOk, rowsOk]; omega) | (simp [inB, sliceOk, appendOk, rowsOk]; omega))) _ (fun g u => by (simp only [go_sem, hdec, hx, hxj, hcl, hok, hids]; rfl)) ?_; intro g u; (try clear u); (try clear g))
      | fail
    · refine Exists.intro (i + 1, j + 1, L.set j x) ⟨hmv (by simp_all), by simp only; omega, ?_⟩
      have hset : (nmR L).set j [Dat.lit (.int .i64 x.1), Dat.lit (.int .i64 x.2)] = nmR (L.set j x) := by simp only [nmR, List.map_set]
      simp only [hset]
      refine Wk.mk ?_ ?_
      all_goals (repeat' first | exact trivial | exact LeA.refl _ | exact LeA.any _ | exact LeO.refl _ | exact LeO.no _ | exact LeA.nil _ | (refine LeA.i ?_; (first | rfl | (push_cast; rfl) | (rw [wrap_id (by omega)]; push_cast; omega) | (simp [wrap_id]; omega))) | refine ⟨?_, ?_⟩)
    · refine Exists.intro (i + 1, j, L) ⟨hsk (by simp_all), by simp only; omega, ?_⟩
      refine Wk.mk ?_ ?_
      all_goals (repeat' first | exact trivial | exact LeA.refl _ | exact LeA.any _ | exact LeO.refl _ | exact LeO.no _ | exact LeA.nil _ | (refine LeA.i ?_; (first | rfl | (push_cast; rfl) | (rw [wrap_id (by omega)]; push_cast; omega) | (simp [wrap_id]; omega))) | refine ⟨?_, ?_⟩)
  · rw [heq] at h67
    repeat' first
      | (refine awq_seq ?_)
      | refine awq_block ?_
      | refine awp_seq ?_
      | refine awp_block ?_
      | refine awp_skip ?_
      | (refine reg _ (by (simp only [List.map_cons, List.map_nil]; rfl)) rfl ?_; intro K hK)
      | (refine awp_cond _ (by rfl) ?_ ?_ <;> (intro hb; first | (cases hb; done) | (have ht : true = true := hb; clear ht hb) | (have ht : false = false := hb; clear ht hb) | (simp only [hb]) | skip))
      | (refine awp_exit ?_; simp only [thenA, blockA, reduceIte, RetQ, Nat.reduceEqDiff])
      | (refine awp_ret ?_; simp only [thenA, blockA, RetQ])
      | (refine ev_nil (hK _ ?_); clear hK K)
      | refine ev_guardU _ (by (simp only [go_sem, hcl, hok, hids]; rfl)) (by (simp only [go_sem, hcl, hok, hids]; rfl)) _ (by (simp only [go_sem, hcl, hok, hids]; rfl)) ?_
      | (refine ev_guardT _ _ (by (simp only [go_sem, hcl, hok, hids]; rfl)) (by (simp only [go_sem, hcl, hok, hids]; rfl)) ?_ ?_ <;> (intro hb; first | (cases hb; done) | (have ht : true = true := hb; clear ht hb) | (have ht : false = false := hb; clear ht hb) | (simp only [hb]) | skip))
      | (refine ev_guardF _ _ (by (simp only [go_sem, hcl, hok, hids]; rfl)) (by (simp only [go_sem, hcl, hok, hids]; rfl)) ?_ ?_ <;> (intro hb; first | (cases hb; done) | (have ht : true = true := hb; clear ht hb) | (have ht : false = false := hb; clear ht hb) | (simp only [hb]) | skip))
      | refine ev_call0 _ _ (by (simp only [go_sem, hcl, hok, hids]; rfl)) (by first | exact h67 ..) (by (simp only [go_sem, hcl, hok, hids])) _ (by (simp only [go_sem, hcl, hok, hids]; rfl)) ?_
      | refine ev_callC _ _ _ _ (by (simp only [go_sem, hcl, hok, hids]; rfl)) (by (simp only [go_sem, hcl, hok, hids]; rfl)) (by first | exact h67 ..) (by (simp only [go_sem, hcl, hok, hids])) _ (by (simp only [go_sem, hcl, hok, hids]; rfl)) ?_
      | refine ev_step0 _ _ (by (simp only [go_sem, hcl, hok, hids]; rfl)) (by (first | trivial | decide | (simp only [inB, sliceOk, appendOk, rowsOk]; omega) | (simp [inB, sliceOk, appendOk, rowsOk]; omega))) _ (by (simp only [go_sem, hcl, hok, hids]; rfl)) ?_
      | (refine ev_step _ (by (simp only [go_sem, hcl, hok, hids]; rfl)) (by (first | trivial | decide | (simp only [inB, sliceOk, appendOk, rowsOk]; omega) | (simp [inB, sliceOk, appendOk, rowsOk]; omega))) _ (fun g u => by (simp only [go_sem, hcl, hok, hids]; rfl)) ?_; intro g u; (try clear u); (try clear g))
      | fail
    intro a1 w1 hs1
    have hres := hs1.result (fn := Try.f56) (r := .d (nms l)) ?_
    rotate_left
    · all_goals (refine resR_one T_ok rfl _ (by (simp only [go_sem, resA]; rfl)) (by first | trivial | (simp only [go_sem, resA])) (by first | trivial | (simp only [go_sem])) ?_; simp only [go_sem])
      exact LeA.refl _
    obtain ⟨v, hv1, hv2⟩ := hres
    rw [idxN_none p l 0 heq]
    exact ⟨hs1.defers, v, hv1, v, rfl, hs1.fr, hv2⟩
theorem f56_nil {f : Nat} {caps : List AV} (hcl : ∀ o, clL o caps = caps) (hck : ∀ o, clOkL o caps = True) (hci : idsOfL caps = []) (p : Nm → Bool) (hp : ∀ n : Nm, Spec Try.prog f ([.agg (nm n.1 n.2)] ++ caps) (litB (p n))) :
    Spec Try.prog 56 [.d (nms []), .clo (.func f) caps] (.d (nms [])) := by
  have hfn := IsFn.clo f caps hcl hck hci
  have h67 := f67_spec hfn [] p hp
  simp only [idxN] at h67
  have hcl := hfn.cl
  have hok := hfn.ok
  have hids := hfn.ids
  refine spec_of_awp (fn := Try.f56) Try.func56 (by kernel_rfl) rfl ?_
  intro w0 C0
  simp only [Try.ntmps56, litI, litB, litS, List.length_cons, List.length_nil, Nat.reduceAdd, Nat.reduceSub, List.replicate_succ, List.replicate_zero, List.cons_append, List.nil_append]
  repeat' first
    | refine awp_seq ?_
    | refine awp_block ?_
    | refine awp_skip ?_
    | (refine reg _ (by (simp only [List.map_cons, List.map_nil]; rfl)) rfl ?_; intro K hK)
    | (refine awp_cond _ (by rfl) ?_ ?_ <;> (intro hb; first | (cases hb; done) | (have ht : true = true := hb; clear ht hb) | (have ht : false = false := hb; clear ht hb) | (simp only [hb]) | skip))
    | (refine awp_exit ?_; simp only [thenA, blockA, reduceIte, RetQ, Nat.reduceEqDiff])
    | (refine awp_ret ?_; simp only [thenA, blockA, RetQ])
    | (refine ev_nil (hK _ ?_); clear hK K)
    | refine ev_call0 _ _ (by (simp only [go_sem, hcl, hok, hids]; rfl)) (by first | exact h67 ..) (by (simp only [go_sem, hcl, hok, hids])) _ (by (simp only [go_sem, hcl, hok, hids]; rfl)) ?_
    | refine ev_callC _ _ _ _ (by (simp only [go_sem, hcl, hok, hids]; rfl)) (by (simp only [go_sem, hcl, hok, hids]; rfl)) (by first | exact h67 ..) (by (simp only [go_sem, hcl, hok, hids])) _ (by (simp only [go_sem, hcl, hok, hids]; rfl)) ?_
    | refine ev_step0 _ _ (by (simp only [go_sem, hcl, hok, hids]; rfl)) (by (first | trivial | decide | (simp only [inB, sliceOk, appendOk, rowsOk]; omega) | (simp [inB, sliceOk, appendOk, rowsOk]; omega))) _ (by (simp only [go_sem, hcl, hok, hids]; rfl)) ?_
    | (refine ev_step _ (by (simp only [go_sem, hcl, hok, hids]; rfl)) (by (first | trivial | decide | (simp only [inB, sliceOk, appendOk, rowsOk]; omega) | (simp [inB, sliceOk, appendOk, rowsOk]; omega))) _ (fun g u => by (simp only [go_sem, hcl, hok, hids]; rfl)) ?_; intro g u; (try clear u); (try clear g))
    | fail
  all_goals (refine resR_one T_ok rfl _ (by (simp only [go_sem, resA]; rfl)) (by first | trivial | (simp only [go_sem, resA])) (by first | trivial | (simp only [go_sem])) ?_; simp only [go_sem])
  exact LeA.refl _
end Go.Proofs.Ytalbfikfbejnfaa.A
