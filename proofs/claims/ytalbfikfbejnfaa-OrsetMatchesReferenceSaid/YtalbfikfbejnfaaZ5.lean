/- Drop, Apply, Fold. Apply, Fold; the law's own words for them. Sorted names, additions, drops: plain law. Headers: the commits of a history. Headers: the walk. Made: the changes of a history. Changes that commute; the changes of a history: plain law. The reference's Fold and Join. -/
import Derived.Test.YtalbfikfbejnfaaZ4
import Derived.Test.YtalbfikfbejnfaaE2
/- Drop, Apply, Fold. -/
set_option linter.unusedVariables false
set_option linter.unusedSimpArgs false
namespace Go.Proofs.Ytalbfikfbejnfaa.A
open Go.RowKit
attribute [local go_sem] Nat.reduceAdd Nat.reduceSub Nat.reduceMul Nat.reduceLT Nat.reduceLeDiff Nat.reduceEqDiff Nat.reduceBEq reduceIte reduceCtorEq e_step_none e_slotU e_slotB e_move e_assign e_pick e_unOp e_binOp e_alloc e_box e_build e_buildSlice e_load e_store e_fieldAddr e_field e_indexAddr e_index e_slice e_makeSlice e_makeFunc e_convert e_extract e_nilCheck e_len e_append e_max e_min e_call e_callV e_clo e_ev_tmp e_ev_int e_ev_bool e_ev_string e_ev_slice e_ev_nilFunc e_ev_nilIface e_ev_pointer e_ev_agg e_ev_func e_pickT e_pickF e_not e_neg e_add e_sub e_mul e_quo e_rem e_eql e_neq e_lss e_leq e_gtr e_geq e_beq e_bne e_sadd e_seql e_sneq e_b2_d e_b2_nil e_b2_nnil e_b2_agg e_lits_nil e_lits_cons e_litC e_eqR e_eqO_e e_eqO_n e_eqV4 e_eqV3 e_eqV2 e_eqV1 e_eqFs_nil e_eqFs_cons e_and2 e_eq1 e_eqL_i e_eqL_s e_eqL_b e_allocR e_boxR e_box_agg e_box_d e_box_own e_box_clo e_one_nil e_one_d e_one_own e_one_clo e_one_ptr e_cells_agg e_cells_d e_cells_own e_cells_clo e_cells_ptr e_ob_own e_ob_ptr e_ob_elo e_ob_d e_ob_el e_ob_agg e_load_box e_load_fzb e_load_el e_load_elo e_store_box e_storeB e_store_elo e_store_elo_agg e_storeE e_fa_ptr e_fa_el e_fa_elo e_faR e_fd e_fdR e_ia_d e_ia_row e_ia_fz e_ia_ptr e_ia_el e_ix_s e_ix_a e_len_s e_len_nil e_len_d e_len_row e_len_fz e_conv_i e_conv_s e_extr e_maxR e_minR e_nil_ptr e_nil_el e_nil_elo e_rows_nil e_rows_d e_rows_row e_rows_fz e_rok_nil e_rok_d e_rok_row e_rok_fz e_app_row e_appR e_app_nil e_appN e_make e_bnd_none e_bnd_some e_optmap_none e_optmap_some e_slR e_slRe e_sl_s e_sl_d e_sl_nil e_sl_row e_sl_fz e_fill_nil e_fill_cons e_fill1 e_placeS e_plS e_placeE e_buildO e_build1 e_build2 e_build3 e_bindD e_bs e_bsR e_allD_nil e_allD_cons e_allD1 e_chunk0 e_chunkS e_clP_nil e_clP_cons e_cl_d e_cl_any e_cl_el e_cl_agg e_cl_tup e_cl_clo e_cl_own e_clOwn_row e_clOwn_fz e_cl_ptr e_clPtr_box e_clBox e_clPtr_fzb e_clL_nil e_clL_cons e_ok_d e_ok_any e_ok_el e_ok_agg e_ok_tup e_ok_clo e_ok_own e_okOwn_row e_okOwn_fz e_ok_ptr e_okPtr_box e_okPtr_fzb e_okL_nil e_okL_cons e_ids_d e_ids_any e_ids_el e_ids_own e_ids_ptr e_ids_agg e_ids_tup e_ids_clo e_idsL_nil e_idsL_cons e_frz_nil e_frz_cons e_frz_row e_frz_fz e_frz_fzb e_frz_box e_frzB e_flat_lit e_flat_sl e_flat_agg e_flat_tup e_flat_any e_flat_clo e_flatL_nil e_flatL_cons e_objD e_setMany e_takeA e_zerosA e_gdL e_idsG e_idsOp e_callV' e_callF' e_o_move e_o_assign e_o_pick e_o_unOp e_o_binOp e_o_alloc e_o_box e_o_build e_o_buildSlice e_o_load e_o_store e_o_fieldAddr e_o_field e_o_indexAddr e_o_index e_o_slice0 e_o_slice1 e_o_slice2 e_o_slice3 e_o_makeSlice e_o_makeFunc e_o_convert e_o_extract e_o_nilCheck e_o_bcall e_o_vcall litI litB litS List.map_cons List.map_nil List.getD_cons_zero List.getD_cons_succ List.getD_nil List.getElem?_cons_zero List.getElem?_cons_succ List.getElem?_nil Option.getD_some Option.getD_none Option.map_some Option.map_none List.length_cons List.length_nil List.all_cons List.all_nil Bool.and_true Bool.true_and and_true true_and and_self
attribute [local go_sem] List.take_zero List.take_succ_cons List.drop_zero List.drop_succ_cons List.nil_append List.cons_append List.append_nil List.replicate_succ List.replicate_zero List.flatten_cons List.flatten_nil Nat.zero_add Nat.add_zero Nat.mul_one Nat.zero_mul Nat.one_mul Nat.mul_zero List.set_cons_zero List.set_cons_succ List.foldl_cons List.foldl_nil appendOk rowsOk inB sliceOk cutRows mtake mdrop List.length_append List.length_take List.length_drop if_true if_false or_false or_true true_or Bool.not_true Bool.not_false Bool.false_eq_true List.length_map Int.toNat_natCast Int.toNat_zero Int.toNat_one eq_self St.after St.put applyEff R0 T1 T2 T3 T4 T5 T6 T7 T8 T9 T10 T11 T12 T13 T14 T15 T16 T17 T18 T19 T20 T21 T22 T23 T24 T25 T26 T27 T28 T29 T30 T31 T32 T33 T34 T35 T36 T37 T38 T39 T40 T41 T42 T43 T44 T45 T46 T47 T48 T49 T50 T51 T52 T53 T54 T55 T56 T57 T58 T59 T60 T61 T62 T63 T64 T65 T66 T67 T68 T69 T70 T71 T72 T73 T74 T75 T76 T77 T78 T79 T80 T81 T82 T83 T84 T85 T86 T87 T88 T89 T90 T91 T92 T93 T94 T95 T96 T97 T98 T99 T100 T101 T102 T103 T105 T106 T107 T108 T109 T110 T111 T112 T113 T114 T117 T118 T119 T120 T121 T122 T123 T124 T125 T126 T127 T130 T131 T132 T133 T134 ti1 ti2 ti3 ti4 ti5 ti6 ti7 ti8 ti9 ti10 ti11 ti12 ti13 ti14 ti15 ti16 ti17 ti18 ti19 ti20 ti21 ti22 ti23 ti24 ti25 ti26 ti27 ti28 ti29 ti30 ti31 ti32 ti33 ti34 ti35 ti36 ti37 ti38 ti39 ti40 ti41 ti42 ti43 ti44 ti45 ti46 ti47 ti48 ti49 ti50 ti51 ti52 ti53 ti54 ti55 ti56 ti57 ti58 ti59 ti60 ti61 ti62 ti63 ti64 ti65 ti66 ti67 ti68 ti69 ti70 ti71 ti72 ti73 ti74 ti75 ti76 ti77 ti78 ti79 ti80 ti81 ti82 ti83 ti84 ti85 ti86 ti87 ti88 ti89 ti90 ti91 ti92 ti93 ti94 ti95 ti96 ti97 ti98 ti99 ti100 ti101 ti102 ti103 ti105 ti106 ti107 ti108 ti109 ti110 ti111 ti112 ti113 ti114 ti117 ti118 ti119 ti120 ti121 ti122 ti123 ti124 ti125 ti126 ti127 ti130 ti131 ti132 ti133 ti134
attribute [local irreducible] AWp evOps evD AWq Ops
theorem f28_spec (l : List Nm) (past : List Int) (hb0 : l.length ≤ 16777216) : Spec Try.prog 28 [.d (nms l), .d (ints past)] (.d (nms (keepN past l))) := by
  have hp : ∀ n : Nm, Spec Try.prog 58 ([.agg (nm n.1 n.2)] ++ [.el [ints past] 0]) (litB (inCut past n.1 n.2)) := fun n => f58_spec n past
  have hcl : ∀ o, clL o [.el [ints past] 0] = [.el [ints past] 0] := fun o => rfl
  have hck : ∀ o, clOkL o [.el [ints past] 0] = True := fun o => by simp [clOkL, clOk]
  have h57 := f57_spec l hb0
  by_cases hl : l = []
  · subst hl
    have h56 := f56_nil (f := 58) hcl hck rfl _ hp
    have hk : keepN past [] = [] := rfl
    rw [hk]
    refine spec_of_awp (fn := Try.f28) Try.func28 (by kernel_rfl) rfl ?_
    intro w0 C0
    simp only [Try.ntmps28, litI, litB, litS, List.length_cons, List.length_nil, Nat.reduceAdd, Nat.reduceSub, List.replicate_succ, List.replicate_zero, List.cons_append, List.nil_append]
    repeat' first
      | refine awp_seq ?_
      | refine awp_block ?_
      | refine awp_skip ?_
      | (refine reg _ (by (simp only [List.map_cons, List.map_nil]; rfl)) rfl ?_; intro K hK)
      | (refine awp_cond _ (by rfl) ?_ ?_ <;> (intro hb; first | (cases hb; done) | (have ht : true = true := hb; clear ht hb) | (have ht : false = false := hb; clear ht hb) | (simp only [hb]) | skip))
      | (refine awp_exit ?_; simp only [thenA, blockA, reduceIte, RetQ, Nat.reduceEqDiff])
      | (refine awp_ret ?_; simp only [thenA, blockA, RetQ])
      | (refine ev_nil (hK _ ?_); clear hK K)
      | refine ev_call0 _ _ (by (simp only [go_sem]; rfl)) (by first | exact h56 ..) (by (simp only [go_sem])) _ (by (simp only [go_sem]; rfl)) ?_
      | refine ev_callC _ _ _ _ (by (simp only [go_sem]; rfl)) (by (simp only [go_sem]; rfl)) (by first | exact h56 ..) (by (simp only [go_sem])) _ (by (simp only [go_sem]; rfl)) ?_
      | (refine ev_callF0 _ _ _ _ (by (simp only [go_sem]; rfl)) (by first | exact h57 ..) (by (simp only [go_sem])) (by simp) _ (fun u => by (simp only [go_sem]; rfl)) ?_; intro u)
      | refine ev_step0 _ _ (by (simp only [go_sem]; rfl)) (by (first | trivial | decide | (simp only [inB, sliceOk, appendOk, rowsOk]; omega) | (simp [inB, sliceOk, appendOk, rowsOk]; omega))) _ (by (simp only [go_sem]; rfl)) ?_
      | (refine ev_step _ (by (simp only [go_sem]; rfl)) (by (first | trivial | decide | (simp only [inB, sliceOk, appendOk, rowsOk]; omega) | (simp [inB, sliceOk, appendOk, rowsOk]; omega))) _ (fun g u => by (simp only [go_sem]; rfl)) ?_; intro g u; (try clear u); (try clear g))
      | fail
    all_goals (refine resR_one T_ok rfl _ (by (simp only [go_sem, resA]; rfl)) (by first | trivial | (simp only [go_sem, resA])) (by first | trivial | (simp only [go_sem])) ?_; simp only [go_sem])
    exact LeA.refl _
  refine ⟨⟨Try.f28, Try.func28, by kernel_rfl, rfl⟩, ?_⟩
  intro w C hC vs hv
  refine (callsIn_wide (n := 0)).1 (callsIn_of_wp (fn := Try.f28) Try.func28 rfl trivial ?_)
  have hs := sat_start (P := Try.prog) (n := 9) (holds := []) (M := fun _ => False) (fun x hx => ⟨hC x hx, fun h => h⟩) hv (by intro i x h; simp at h) (by intro i j x y g h; simp at h)
  refine awq_go (E := ⟨Try.prog, w, C, fun _ => False, none, []⟩) rfl hs ?_
  simp only [litI, litB, litS, List.length_cons, List.length_nil, Nat.reduceAdd, Nat.reduceSub, List.replicate_succ, List.replicate_zero, List.cons_append, List.nil_append]
  repeat' first
    | ((fail_if_success show AWq _ (Code.seq (Code.region 1 _ _) _) _ _); refine awq_seq ?_)
    | refine awq_block ?_
    | refine awp_seq ?_
    | refine awp_block ?_
    | refine awp_skip ?_
    | (refine reg _ (by (simp only [List.map_cons, List.map_nil]; rfl)) rfl ?_; intro K hK)
    | (refine awp_cond _ (by rfl) ?_ ?_ <;> (intro hb; first | (cases hb; done) | (have ht : true = true := hb; clear ht hb) | (have ht : false = false := hb; clear ht hb) | (simp only [hb]) | skip))
    | (refine awp_exit ?_; simp only [thenA, blockA, reduceIte, RetQ, Nat.reduceEqDiff])
    | (refine awp_ret ?_; simp only [thenA, blockA, RetQ])
    | (refine ev_nil (hK _ ?_); clear hK K)
    | refine ev_step0 _ _ (by (simp only [go_sem]; rfl)) (by (first | trivial | decide | (simp only [inB, sliceOk, appendOk, rowsOk]; omega) | (simp [inB, sliceOk, appendOk, rowsOk]; omega))) _ (by (simp only [go_sem]; rfl)) ?_
    | (refine ev_step _ (by (simp only [go_sem]; rfl)) (by (first | trivial | decide | (simp only [inB, sliceOk, appendOk, rowsOk]; omega) | (simp [inB, sliceOk, appendOk, rowsOk]; omega))) _ (fun g u => by (simp only [go_sem]; rfl)) ?_; intro g u; (try clear u); (try clear g))
    | fail
  refine awq_ops ?_
  intro a1 w1 hs1
  refine ops_step (K := fun s => ∃ g u, Wk ⟨Try.prog, w, C, fun _ => False, none, []⟩ s (⟨[.any, .any, .any, .ptr 3 g 0, .any, .any, .own 6 u, .clo (.func 58) [.ptr 3 g 0], .any], [.no, .no, .no, .box g [.d (ints past)], .no, .no, .row u 25 2 (nmR l), .no, .no]⟩)) T_ok 3 hs1 (by decide) rfl ?_ fun s a2 w2 hK hs2 => ?_
  · repeat' first
      | refine awp_seq ?_
      | refine awp_block ?_
      | refine awp_skip ?_
      | (refine reg _ (by (simp only [List.map_cons, List.map_nil]; rfl)) rfl ?_; intro K hK)
      | (refine awp_cond _ (by rfl) ?_ ?_ <;> (intro hb; first | (cases hb; done) | (have ht : true = true := hb; clear ht hb) | (have ht : false = false := hb; clear ht hb) | (simp only [hb]) | skip))
      | (refine awp_exit ?_; simp only [thenA, blockA, reduceIte, RetQ, Nat.reduceEqDiff])
      | (refine awp_ret ?_; simp only [thenA, blockA, RetQ])
      | (refine ev_nil (hK _ ?_); clear hK K)
      | (refine ev_callF0 _ _ _ _ (by (simp only [go_sem]; rfl)) (by first | exact h57 ..) (by (simp only [go_sem])) (by simp) _ (fun u => by (simp only [go_sem]; rfl)) ?_; intro u)
      | refine ev_step0 _ _ (by (simp only [go_sem]; rfl)) (by (first | trivial | decide | (simp only [inB, sliceOk, appendOk, rowsOk]; omega) | (simp [inB, sliceOk, appendOk, rowsOk]; omega))) _ (by (simp only [go_sem]; rfl)) ?_
      | (refine ev_step _ (by (simp only [go_sem]; rfl)) (by (first | trivial | decide | (simp only [inB, sliceOk, appendOk, rowsOk]; omega) | (simp [inB, sliceOk, appendOk, rowsOk]; omega))) _ (fun g u => by (simp only [go_sem]; rfl)) ?_; intro g u; (try clear u); (try clear g))
      | fail
    refine ev_nil ⟨g, u, ?_⟩
    refine Wk.mk ?_ ?_
    all_goals (repeat' first | exact trivial | exact LeA.refl _ | exact LeA.any _ | exact LeO.refl _ | exact LeO.no _ | exact LeA.nil _ | (refine LeA.i ?_; (first | rfl | (push_cast; rfl) | (rw [wrap_id (by omega)]; push_cast; omega) | (simp [wrap_id]; omega))) | refine ⟨?_, ?_⟩)
  obtain ⟨g, u, hK⟩ := hK
  have hs3 := hK _ _ hs2
  have hu : ∃ g6, u.ownBlock = some g6 := by
    obtain ⟨xs, ⟨_, h2⟩, _⟩ := hs3.o 6 _ rfl
    rcases h2 with ⟨_, h3⟩ | ⟨g6, cap, cur, rfl, _⟩
    · simp at h3; exact absurd h3 hl
    · exact ⟨g6, rfl⟩
  obtain ⟨g6, hg6⟩ := hu
  have hown6 := hs3.own 6 _ g6 rfl hg6
  have hg6' : w.heap.size ≤ g6 := hown6.1.resolve_right fun h => h
  have hs4 := hs3.frz 3
  have ho4 : ([.no, .no, .no, .box g [.d (ints past)], .no, .no, .row u 25 2 (nmR l), .no, .no] : List AObj).set 3 (frz (objD ([.no, .no, .no, .box g [.d (ints past)], .no, .no, .row u 25 2 (nmR l), .no, .no]) 3)) = [.no, .no, .no, .fzb g [ints past], .no, .no, .row u 25 2 (nmR l), .no, .no] := rfl
  simp only [ho4] at hs4
  have h6 := Act.eval_of hs4 6 rfl
  have h7 := Act.eval_of hs4 7 rfl
  have hsz := hs4.size
  have hfz := hs4.o 3 _ rfl
  simp only [Has] at h6 h7
  obtain ⟨ps, hf7, hps⟩ := h7
  match ps, hps with
  | [pv], hps =>
  simp only [HasL, Has] at hps
  obtain ⟨rfl, _⟩ := hps
  have hown4 := hs4.own 6 _ g6 rfl hg6
  refine ops_call rfl ⟨Try.f56, Try.func56, by kernel_rfl, rfl⟩ ?_
  simp only [List.map_cons, List.map_nil]
  rw [h6.1, hf7]
  refine (f56_calls (f := 58) hcl hck rfl l _ hb0 hp (C := Env.C ⟨Try.prog, w, C, fun _ => False, none, []⟩ ([.no, .no, .no, .fzb g [ints past], .no, .no, .row u 25 2 (nmR l), .no, .no]) w2) (g := g6) (fun x hx => ⟨hs4.lt_C hx, fun e => ?_⟩) ?_ (hs4.o 6 _ rfl) hg6 hown4.2).mono ?_
  · subst e
    exact hs4.not_own hx (i := 6) rfl hg6
  · simp only [Has]
    refine ⟨_, rfl, ?_⟩
    simp only [HasL, Has]
    exact ⟨⟨g, 0, rfl, hfz⟩, trivial⟩
  rintro e w3 ⟨v8, rfl, hfr, hv8⟩
  refine ⟨v8, rfl, ?_⟩
  have z2 : w.heap.size ≤ w2.heap.size := hs4.fr.size
  have z3 := hfr.size
  have hle : MemLe ⟨w3.heap, fun b => Env.C ⟨Try.prog, w, C, fun _ => False, none, []⟩ ([.no, .no, .no, .fzb g [ints past], .no, .no, .row u 25 2 (nmR l), .no, .no]) w2 b ∨ ((w2.heap.size ≤ b ∨ b = g6) ∧ b < w3.heap.size)⟩ ⟨w3.heap, fun b => C b ∨ (w.heap.size ≤ b ∧ b < w3.heap.size)⟩ := by
    refine ⟨fun b hb => ?_, fun _ _ => rfl⟩
    rcases hb with hb | hb
    · have h1 := hs4.lt_C hb
      rcases hb with hb | hb
      · exact .inl hb
      · exact .inr ⟨hb.1.resolve_right fun h => h, by omega⟩
    · refine .inr ⟨?_, hb.2⟩
      rcases hb.1 with h | rfl
      · omega
      · exact hg6'
  have hv9 := Has.mono hle _ _ hv8
  have hs5 := Sat.anew (P := Try.prog) (C := fun b => C b ∨ (w.heap.size ≤ b ∧ b < w3.heap.size)) (n := 9) (a := a2.put (some 8) v8) (w := w3) hs4.defers (fun b hb => ?_) (hasL_put hsz hv9)
  rotate_left
  · rcases hb with hb | hb
    · have := hC b hb; omega
    · exact hb.2
  refine Ops.env (E' := ⟨Try.prog, w3, fun b => C b ∨ (w.heap.size ≤ b ∧ b < w3.heap.size), fun _ => False, none, []⟩) rfl rfl ?_
  refine ops_step (K := fun s => s = ⟨[.any, .any, .any, .any, .d (nms (keepN past l)), .any, .any, .any, .d (nms (keepN past l))], [.no, .no, .no, .no, .no, .no, .no, .no, .no]⟩) T_ok 1 hs5 (by decide) rfl ?_ fun s a5 w5 hK hs6 => ?_
  · simp only [List.length_cons, List.length_nil, Nat.reduceAdd, List.replicate_succ, List.replicate_zero, List.set_cons_succ, List.set_cons_zero]
    repeat' first
      | refine awp_seq ?_
      | refine awp_block ?_
      | refine awp_skip ?_
      | (refine reg _ (by (simp only [List.map_cons, List.map_nil]; rfl)) rfl ?_; intro K hK)
      | (refine awp_cond _ (by rfl) ?_ ?_ <;> (intro hb; first | (cases hb; done) | (have ht : true = true := hb; clear ht hb) | (have ht : false = false := hb; clear ht hb) | (simp only [hb]) | skip))
      | (refine awp_exit ?_; simp only [thenA, blockA, reduceIte, RetQ, Nat.reduceEqDiff])
      | (refine awp_ret ?_; simp only [thenA, blockA, RetQ])
      | (refine ev_nil (hK _ ?_); clear hK K)
      | refine ev_step0 _ _ (by (simp only [go_sem]; rfl)) (by (first | trivial | decide | (simp only [inB, sliceOk, appendOk, rowsOk]; omega) | (simp [inB, sliceOk, appendOk, rowsOk]; omega))) _ (by (simp only [go_sem]; rfl)) ?_
      | (refine ev_step _ (by (simp only [go_sem]; rfl)) (by (first | trivial | decide | (simp only [inB, sliceOk, appendOk, rowsOk]; omega) | (simp [inB, sliceOk, appendOk, rowsOk]; omega))) _ (fun g u => by (simp only [go_sem]; rfl)) ?_; intro g u; (try clear u); (try clear g))
      | fail
    exact ev_nil rfl
  subst hK
  refine ops_end (by decide) (wpIn_ret ?_)
  have h5 := Act.eval_of hs6 4 rfl
  have z5 : w3.heap.size ≤ w5.heap.size := hs6.fr.size
  have hf1 : Fr (fun b => w.heap.size ≤ b) w w2 := hs4.fr.mono fun _ _ h => h.elim
  have hf2 : Fr (fun b => w.heap.size ≤ b) w w5 := hf1.trans ((hfr.mono fun k _ hk => by rw [hk]; exact hg6').trans (hs6.fr.mono fun _ _ h => h.elim))
  refine ⟨hs6.defers, _, results_tmp (t := 4) rfl _ _ _, _, rfl, ⟨hf2.os, hf2.tape, hf2.output, hf2.size, fun k hk => hf2.block k hk (by omega)⟩, ?_⟩
  have hle2 : MemLe (Env.mem ⟨Try.prog, w3, fun b => C b ∨ (w.heap.size ≤ b ∧ b < w3.heap.size), fun _ => False, none, []⟩ [.no, .no, .no, .no, .no, .no, .no, .no, .no] w5) ⟨w5.heap, fun b => C b ∨ (w.heap.size ≤ b ∧ b < w5.heap.size)⟩ := by
    refine ⟨fun b hb => ?_, fun _ _ => rfl⟩
    rcases hb with (hb | hb) | hb
    · exact .inl hb
    · exact .inr ⟨hb.1, by omega⟩
    · have h1 : w3.heap.size ≤ b := hb.1.resolve_right fun h => h
      exact .inr ⟨by omega, hb.2.1⟩
  exact Has.mono hle2 _ _ h5
end Go.Proofs.Ytalbfikfbejnfaa.A

/- Apply, Fold; the law's own words for them. -/
set_option linter.unusedVariables false
set_option linter.unusedSimpArgs false
namespace Go.Proofs.Ytalbfikfbejnfaa.A
open Go.RowKit
attribute [local go_sem] Nat.reduceAdd Nat.reduceSub Nat.reduceMul Nat.reduceLT Nat.reduceLeDiff Nat.reduceEqDiff Nat.reduceBEq reduceIte reduceCtorEq e_step_none e_slotU e_slotB e_move e_assign e_pick e_unOp e_binOp e_alloc e_box e_build e_buildSlice e_load e_store e_fieldAddr e_field e_indexAddr e_index e_slice e_makeSlice e_makeFunc e_convert e_extract e_nilCheck e_len e_append e_max e_min e_call e_callV e_clo e_ev_tmp e_ev_int e_ev_bool e_ev_string e_ev_slice e_ev_nilFunc e_ev_nilIface e_ev_pointer e_ev_agg e_ev_func e_pickT e_pickF e_not e_neg e_add e_sub e_mul e_quo e_rem e_eql e_neq e_lss e_leq e_gtr e_geq e_beq e_bne e_sadd e_seql e_sneq e_b2_d e_b2_nil e_b2_nnil e_b2_agg e_lits_nil e_lits_cons e_litC e_eqR e_eqO_e e_eqO_n e_eqV4 e_eqV3 e_eqV2 e_eqV1 e_eqFs_nil e_eqFs_cons e_and2 e_eq1 e_eqL_i e_eqL_s e_eqL_b e_allocR e_boxR e_box_agg e_box_d e_box_own e_box_clo e_one_nil e_one_d e_one_own e_one_clo e_one_ptr e_cells_agg e_cells_d e_cells_own e_cells_clo e_cells_ptr e_ob_own e_ob_ptr e_ob_elo e_ob_d e_ob_el e_ob_agg e_load_box e_load_fzb e_load_el e_load_elo e_store_box e_storeB e_store_elo e_store_elo_agg e_storeE e_fa_ptr e_fa_el e_fa_elo e_faR e_fd e_fdR e_ia_d e_ia_row e_ia_fz e_ia_ptr e_ia_el e_ix_s e_ix_a e_len_s e_len_nil e_len_d e_len_row e_len_fz e_conv_i e_conv_s e_extr e_maxR e_minR e_nil_ptr e_nil_el e_nil_elo e_rows_nil e_rows_d e_rows_row e_rows_fz e_rok_nil e_rok_d e_rok_row e_rok_fz e_app_row e_appR e_app_nil e_appN e_make e_bnd_none e_bnd_some e_optmap_none e_optmap_some e_slR e_slRe e_sl_s e_sl_d e_sl_nil e_sl_row e_sl_fz e_fill_nil e_fill_cons e_fill1 e_placeS e_plS e_placeE e_buildO e_build1 e_build2 e_build3 e_bindD e_bs e_bsR e_allD_nil e_allD_cons e_allD1 e_chunk0 e_chunkS e_clP_nil e_clP_cons e_cl_d e_cl_any e_cl_el e_cl_agg e_cl_tup e_cl_clo e_cl_own e_clOwn_row e_clOwn_fz e_cl_ptr e_clPtr_box e_clBox e_clPtr_fzb e_clL_nil e_clL_cons e_ok_d e_ok_any e_ok_el e_ok_agg e_ok_tup e_ok_clo e_ok_own e_okOwn_row e_okOwn_fz e_ok_ptr e_okPtr_box e_okPtr_fzb e_okL_nil e_okL_cons e_ids_d e_ids_any e_ids_el e_ids_own e_ids_ptr e_ids_agg e_ids_tup e_ids_clo e_idsL_nil e_idsL_cons e_frz_nil e_frz_cons e_frz_row e_frz_fz e_frz_fzb e_frz_box e_frzB e_flat_lit e_flat_sl e_flat_agg e_flat_tup e_flat_any e_flat_clo e_flatL_nil e_flatL_cons e_objD e_setMany e_takeA e_zerosA e_gdL e_idsG e_idsOp e_callV' e_callF' e_o_move e_o_assign e_o_pick e_o_unOp e_o_binOp e_o_alloc e_o_box e_o_build e_o_buildSlice e_o_load e_o_store e_o_fieldAddr e_o_field e_o_indexAddr e_o_index e_o_slice0 e_o_slice1 e_o_slice2 e_o_slice3 e_o_makeSlice e_o_makeFunc e_o_convert e_o_extract e_o_nilCheck e_o_bcall e_o_vcall litI litB litS List.map_cons List.map_nil List.getD_cons_zero List.getD_cons_succ List.getD_nil List.getElem?_cons_zero List.getElem?_cons_succ List.getElem?_nil Option.getD_some Option.getD_none Option.map_some Option.map_none List.length_cons List.length_nil List.all_cons List.all_nil Bool.and_true Bool.true_and and_true true_and and_self
attribute [local go_sem] List.take_zero List.take_succ_cons List.drop_zero List.drop_succ_cons List.nil_append List.cons_append List.append_nil List.replicate_succ List.replicate_zero List.flatten_cons List.flatten_nil Nat.zero_add Nat.add_zero Nat.mul_one Nat.zero_mul Nat.one_mul Nat.mul_zero List.set_cons_zero List.set_cons_succ List.foldl_cons List.foldl_nil appendOk rowsOk inB sliceOk cutRows mtake mdrop List.length_append List.length_take List.length_drop if_true if_false or_false or_true true_or Bool.not_true Bool.not_false Bool.false_eq_true List.length_map Int.toNat_natCast Int.toNat_zero Int.toNat_one eq_self St.after St.put applyEff R0 T1 T2 T3 T4 T5 T6 T7 T8 T9 T10 T11 T12 T13 T14 T15 T16 T17 T18 T19 T20 T21 T22 T23 T24 T25 T26 T27 T28 T29 T30 T31 T32 T33 T34 T35 T36 T37 T38 T39 T40 T41 T42 T43 T44 T45 T46 T47 T48 T49 T50 T51 T52 T53 T54 T55 T56 T57 T58 T59 T60 T61 T62 T63 T64 T65 T66 T67 T68 T69 T70 T71 T72 T73 T74 T75 T76 T77 T78 T79 T80 T81 T82 T83 T84 T85 T86 T87 T88 T89 T90 T91 T92 T93 T94 T95 T96 T97 T98 T99 T100 T101 T102 T103 T105 T106 T107 T108 T109 T110 T111 T112 T113 T114 T117 T118 T119 T120 T121 T122 T123 T124 T125 T126 T127 T130 T131 T132 T133 T134 ti1 ti2 ti3 ti4 ti5 ti6 ti7 ti8 ti9 ti10 ti11 ti12 ti13 ti14 ti15 ti16 ti17 ti18 ti19 ti20 ti21 ti22 ti23 ti24 ti25 ti26 ti27 ti28 ti29 ti30 ti31 ti32 ti33 ti34 ti35 ti36 ti37 ti38 ti39 ti40 ti41 ti42 ti43 ti44 ti45 ti46 ti47 ti48 ti49 ti50 ti51 ti52 ti53 ti54 ti55 ti56 ti57 ti58 ti59 ti60 ti61 ti62 ti63 ti64 ti65 ti66 ti67 ti68 ti69 ti70 ti71 ti72 ti73 ti74 ti75 ti76 ti77 ti78 ti79 ti80 ti81 ti82 ti83 ti84 ti85 ti86 ti87 ti88 ti89 ti90 ti91 ti92 ti93 ti94 ti95 ti96 ti97 ti98 ti99 ti100 ti101 ti102 ti103 ti105 ti106 ti107 ti108 ti109 ti110 ti111 ti112 ti113 ti114 ti117 ti118 ti119 ti120 ti121 ti122 ti123 ti124 ti125 ti126 ti127 ti130 ti131 ti132 ti133 ti134
attribute [local irreducible] AWp evOps evD AWq Ops
def applyO (l : List Nm) (c : Ch) : List Nm := if c.2.2 = true then uniL l [c.1] else keepN c.2.1 l
def foldO (l : List Ch) : List Nm := l.foldl applyO []
theorem applyO_len (l : List Nm) (c : Ch) : (applyO l c).length ≤ l.length + 1 := by
  unfold applyO
  split
  · have := uniL_length l [c.1]; simpa using this
  · have := keepN_len c.2.1 l; omega
theorem foldO_snoc (l : List Ch) (c : Ch) : foldO (l ++ [c]) = applyO (foldO l) c := by simp [foldO]
theorem foldO_len (l : List Ch) : (foldO l).length ≤ l.length := by
  have : ∀ (l : List Ch) (t : List Nm), (l.foldl applyO t).length ≤ t.length + l.length := by
    intro l
    induction l with
    | nil => intro t; simp
    | cons c l ih =>
      intro t
      have h1 := ih (applyO t c)
      have h2 := applyO_len t c
      simp only [List.foldl_cons, List.length_cons]
      omega
  have h := this l []
  simp only [List.length_nil, Nat.zero_add] at h
  exact h
theorem f24_spec (l : List Nm) (c : Ch) (hb0 : l.length ≤ 16777215) : Spec Try.prog 24 [.d (nms l), .agg (chg c.1 c.2.1 c.2.2)] (.d (nms (applyO l c))) := by
  have h26 := f26_spec l c.1 hb0
  have h28 := f28_spec l c.2.1 (by omega)
  obtain ⟨n, past, put⟩ := c
  refine spec_of_awp (fn := Try.f24) Try.func24 (by kernel_rfl) rfl ?_
  intro w0 C0
  simp only [Try.ntmps24, litI, litB, litS, List.length_cons, List.length_nil, Nat.reduceAdd, Nat.reduceSub, List.replicate_succ, List.replicate_zero, List.cons_append, List.nil_append]
  repeat' first
    | refine awp_seq ?_
    | refine awp_block ?_
    | refine awp_skip ?_
    | (refine reg _ (by (simp only [List.map_cons, List.map_nil]; rfl)) rfl ?_; intro K hK)
    | (refine awp_cond _ (by rfl) ?_ ?_ <;> (intro hb; first | (cases hb; done) | (have ht : true = true := hb; clear ht hb) | (have ht : false = false := hb; clear ht hb) | (simp only [hb]) | skip))
    | (refine awp_exit ?_; simp only [thenA, blockA, reduceIte, RetQ, Nat.reduceEqDiff])
    | (refine awp_ret ?_; simp only [thenA, blockA, RetQ])
    | (refine ev_nil (hK _ ?_); clear hK K)
    | refine ev_call0 _ _ (by (simp only [go_sem]; rfl)) (by first | exact h26 .. | exact h28 ..) (by (simp only [go_sem])) _ (by (simp only [go_sem]; rfl)) ?_
    | refine ev_callC _ _ _ _ (by (simp only [go_sem]; rfl)) (by (simp only [go_sem]; rfl)) (by first | exact h26 .. | exact h28 ..) (by (simp only [go_sem])) _ (by (simp only [go_sem]; rfl)) ?_
    | refine ev_step0 _ _ (by (simp only [go_sem]; rfl)) (by (first | trivial | decide | (simp only [inB, sliceOk, appendOk, rowsOk]; omega) | (simp [inB, sliceOk, appendOk, rowsOk]; omega))) _ (by (simp only [go_sem]; rfl)) ?_
    | (refine ev_step _ (by (simp only [go_sem]; rfl)) (by (first | trivial | decide | (simp only [inB, sliceOk, appendOk, rowsOk]; omega) | (simp [inB, sliceOk, appendOk, rowsOk]; omega))) _ (fun g u => by (simp only [go_sem]; rfl)) ?_; intro g u; (try clear u); (try clear g))
    | fail
  · all_goals (refine resR_one T_ok rfl _ (by (simp only [go_sem, resA]; rfl)) (by first | trivial | (simp only [go_sem, resA])) (by first | trivial | (simp only [go_sem])) ?_; simp only [go_sem])
    refine LeA.s ?_
    simp_all [applyO]
  · all_goals (refine resR_one T_ok rfl _ (by (simp only [go_sem, resA]; rfl)) (by first | trivial | (simp only [go_sem, resA])) (by first | trivial | (simp only [go_sem])) ?_; simp only [go_sem])
    refine LeA.s ?_
    simp_all [applyO]
theorem f45_spec (l : List Ch) (hb0 : l.length ≤ 16777215) : Spec Try.prog 45 [.d (chs l)] (.d (nms (foldO l))) := by
  refine spec_of_awp (fn := Try.f45) Try.func45 (by kernel_rfl) rfl ?_
  intro w0 C0
  simp only [Try.ntmps45, litI, litB, litS, List.length_cons, List.length_nil, Nat.reduceAdd, Nat.reduceSub, List.replicate_succ, List.replicate_zero, List.cons_append, List.nil_append]
  refine awp_len 0 rfl fun hl => ?_
  simp only [List.length_map] at hl
  repeat' first
    | refine awp_seq ?_
    | refine awp_block ?_
    | refine awp_skip ?_
    | (refine reg _ (by (simp only [List.map_cons, List.map_nil]; rfl)) rfl ?_; intro K hK)
    | (refine awp_cond _ (by rfl) ?_ ?_ <;> (intro hb; first | (cases hb; done) | (have ht : true = true := hb; clear ht hb) | (have ht : false = false := hb; clear ht hb) | (simp only [hb]) | skip))
    | (refine awp_exit ?_; simp only [thenA, blockA, reduceIte, RetQ, Nat.reduceEqDiff])
    | (refine awp_ret ?_; simp only [thenA, blockA, RetQ])
    | (refine ev_nil (hK _ ?_); clear hK K)
    | refine ev_step0 _ _ (by (simp only [go_sem]; rfl)) (by (first | trivial | decide | (simp only [inB, sliceOk, appendOk, rowsOk]; omega) | (simp [inB, sliceOk, appendOk, rowsOk]; omega))) _ (by (simp only [go_sem]; rfl)) ?_
    | (refine ev_step _ (by (simp only [go_sem]; rfl)) (by (first | trivial | decide | (simp only [inB, sliceOk, appendOk, rowsOk]; omega) | (simp [inB, sliceOk, appendOk, rowsOk]; omega))) _ (fun g u => by (simp only [go_sem]; rfl)) ?_; intro g u; (try clear u); (try clear g))
    | fail
  refine awp_loopI (fun i : Nat => i ≤ l.length) (fun i => l.length - i) (fun i => ⟨[.any, .any, .any, .d (nms (foldO (l.take i))), .any, .any, .d (chs l), litI .i64 l.length, litI .i64 i, .any, .any, .any, .any, .any, .any, .any, .any], [.no, .no, .no, .no, .no, .no, .no, .no, .no, .no, .no, .no, .no, .no, .no, .no, .no]⟩) 0 (by simp) ?_ ?_
  · refine Wk.mk ?_ ?_
    all_goals (repeat' first | exact trivial | exact LeA.refl _ | exact LeA.any _ | exact LeO.refl _ | exact LeO.no _ | exact LeA.nil _ | (refine LeA.i ?_; (first | rfl | (push_cast; rfl) | (rw [wrap_id (by omega)]; push_cast; omega) | (simp [wrap_id]; omega))) | refine ⟨?_, ?_⟩)
  intro i hi
  simp only [litI, litB] at hi ⊢
  by_cases hlt : i < l.length
  rotate_left
  have hdec : decide ((i : Int) < (l.length : Int)) = false := by simp; omega
  · repeat' first
      | refine awp_seq ?_
      | refine awp_block ?_
      | refine awp_skip ?_
      | (refine reg _ (by (simp only [List.map_cons, List.map_nil]; rfl)) rfl ?_; intro K hK)
      | (refine awp_cond _ (by rfl) ?_ ?_ <;> (intro hb; first | (cases hb; done) | (have ht : true = true := hb; clear ht hb) | (have ht : false = false := hb; clear ht hb) | (simp only [hb]) | skip))
      | (refine awp_exit ?_; simp only [thenA, blockA, reduceIte, RetQ, Nat.reduceEqDiff])
      | (refine awp_ret ?_; simp only [thenA, blockA, RetQ])
      | (refine ev_nil (hK _ ?_); clear hK K)
      | refine ev_step0 _ _ (by (simp only [go_sem, hdec]; rfl)) (by (first | trivial | decide | (simp only [inB, sliceOk, appendOk, rowsOk]; omega) | (simp [inB, sliceOk, appendOk, rowsOk]; omega))) _ (by (simp only [go_sem, hdec]; rfl)) ?_
      | (refine ev_step _ (by (simp only [go_sem, hdec]; rfl)) (by (first | trivial | decide | (simp only [inB, sliceOk, appendOk, rowsOk]; omega) | (simp [inB, sliceOk, appendOk, rowsOk]; omega))) _ (fun g u => by (simp only [go_sem, hdec]; rfl)) ?_; intro g u; (try clear u); (try clear g))
      | fail
    all_goals (refine resR_one T_ok rfl _ (by (simp only [go_sem, resA]; rfl)) (by first | trivial | (simp only [go_sem, resA])) (by first | trivial | (simp only [go_sem])) ?_; simp only [go_sem])
    refine LeA.s ?_
    rw [List.take_of_length_le (by omega)]
  have hdec : decide ((i : Int) < (l.length : Int)) = true := by simp; omega
  have hx := chs_at l hlt
  have hab1 : l.take (i + 1) = l.take i ++ [l.getD i ch0] := by rw [List.take_succ_eq_append_getElem hlt]; simp [List.getD_eq_getElem?_getD, hlt]
  have hlen := foldO_len (l.take i)
  rw [List.length_take] at hlen
  have h24 := f24_spec (foldO (l.take i)) (l.getD i ch0) (by omega)
  have hsn := foldO_snoc (l.take i) (l.getD i ch0)
  rw [← hab1] at hsn
  generalize l.getD i ch0 = x at *
  generalize foldO (l.take i) = tl at *
  repeat' first
    | refine awp_seq ?_
    | refine awp_block ?_
    | refine awp_skip ?_
    | (refine reg _ (by (simp only [List.map_cons, List.map_nil]; rfl)) rfl ?_; intro K hK)
    | (refine awp_cond _ (by rfl) ?_ ?_ <;> (intro hb; first | (cases hb; done) | (have ht : true = true := hb; clear ht hb) | (have ht : false = false := hb; clear ht hb) | (simp only [hb]) | skip))
    | (refine awp_exit ?_; simp only [thenA, blockA, reduceIte, RetQ, Nat.reduceEqDiff])
    | (refine awp_ret ?_; simp only [thenA, blockA, RetQ])
    | (refine ev_nil (hK _ ?_); clear hK K)
    | refine ev_call0 _ _ (by (simp only [go_sem, hdec, hx]; rfl)) (by first | exact h24 ..) (by (simp only [go_sem, hdec, hx])) _ (by (simp only [go_sem, hdec, hx]; rfl)) ?_
    | refine ev_callC _ _ _ _ (by (simp only [go_sem, hdec, hx]; rfl)) (by (simp only [go_sem, hdec, hx]; rfl)) (by first | exact h24 ..) (by (simp only [go_sem, hdec, hx])) _ (by (simp only [go_sem, hdec, hx]; rfl)) ?_
    | refine ev_step0 _ _ (by (simp only [go_sem, hdec, hx]; rfl)) (by (first | trivial | decide | (simp only [inB, sliceOk, appendOk, rowsOk]; omega) | (simp [inB, sliceOk, appendOk, rowsOk]; omega))) _ (by (simp only [go_sem, hdec, hx]; rfl)) ?_
    | (refine ev_step _ (by (simp only [go_sem, hdec, hx]; rfl)) (by (first | trivial | decide | (simp only [inB, sliceOk, appendOk, rowsOk]; omega) | (simp [inB, sliceOk, appendOk, rowsOk]; omega))) _ (fun g u => by (simp only [go_sem, hdec, hx]; rfl)) ?_; intro g u; (try clear u); (try clear g))
    | fail
  refine Exists.intro (i + 1) ⟨by omega, by omega, ?_⟩
  simp only [hsn]
  refine Wk.mk ?_ ?_
  all_goals (repeat' first | exact trivial | exact LeA.refl _ | exact LeA.any _ | exact LeO.refl _ | exact LeO.no _ | exact LeA.nil _ | (refine LeA.i ?_; (first | rfl | (push_cast; rfl) | (rw [wrap_id (by omega)]; push_cast; omega) | (simp [wrap_id]; omega))) | refine ⟨?_, ?_⟩)
theorem f13_spec (l : List Ch) (hb0 : l.length ≤ 16777215) : Spec Try.prog 13 [.d (chs l)] (.d (nms (foldO l))) := by
  have h45 := f45_spec l hb0
  refine spec_of_awp (fn := Try.f13) Try.func13 (by kernel_rfl) rfl ?_
  intro w0 C0
  simp only [Try.ntmps13, litI, litB, litS, List.length_cons, List.length_nil, Nat.reduceAdd, Nat.reduceSub, List.replicate_succ, List.replicate_zero, List.cons_append, List.nil_append]
  refine awp_len 0 rfl fun hl => ?_
  simp only [List.length_map] at hl
  repeat' first
    | refine awp_seq ?_
    | refine awp_block ?_
    | refine awp_skip ?_
    | (refine reg _ (by (simp only [List.map_cons, List.map_nil]; rfl)) rfl ?_; intro K hK)
    | (refine awp_cond _ (by rfl) ?_ ?_ <;> (intro hb; first | (cases hb; done) | (have ht : true = true := hb; clear ht hb) | (have ht : false = false := hb; clear ht hb) | (simp only [hb]) | skip))
    | (refine awp_exit ?_; simp only [thenA, blockA, reduceIte, RetQ, Nat.reduceEqDiff])
    | (refine awp_ret ?_; simp only [thenA, blockA, RetQ])
    | (refine ev_nil (hK _ ?_); clear hK K)
    | refine ev_step0 _ _ (by (simp only [go_sem]; rfl)) (by (first | trivial | decide | (simp only [inB, sliceOk, appendOk, rowsOk]; omega) | (simp [inB, sliceOk, appendOk, rowsOk]; omega))) _ (by (simp only [go_sem]; rfl)) ?_
    | (refine ev_step _ (by (simp only [go_sem]; rfl)) (by (first | trivial | decide | (simp only [inB, sliceOk, appendOk, rowsOk]; omega) | (simp [inB, sliceOk, appendOk, rowsOk]; omega))) _ (fun g u => by (simp only [go_sem]; rfl)) ?_; intro g u; (try clear u); (try clear g))
    | fail
  refine awp_loopI (fun i : Nat × Value => i.1 ≤ l.length) (fun i => l.length - i.1) (fun i => ⟨[.d (chs l), .any, .any, .own 5 i.2, litI .i64 i.1, .any, .any, .any, .any, .any, .any, .any, .any, .any, .any, .any, .any, .any, .any, .any, .any, .any], [.no, .no, .no, .no, .no, .row i.2 43 4 ((l.take i.1).map fun c => [.lit (.int .i64 c.1.1), .lit (.int .i64 c.1.2), ints c.2.1, .lit (.bool c.2.2)]), .no, .no, .no, .no, .no, .no, .no, .no, .no, .no, .no, .no, .no, .no, .no, .no]⟩) (0, u) (by simp) ?_ ?_
  · refine Wk.mk ?_ ?_
    all_goals (repeat' first | exact trivial | exact LeA.refl _ | exact LeA.any _ | exact LeO.refl _ | exact LeO.no _ | exact LeA.nil _ | (refine LeA.i ?_; (first | rfl | (push_cast; rfl) | (rw [wrap_id (by omega)]; push_cast; omega) | (simp [wrap_id]; omega))) | refine ⟨?_, ?_⟩)
  rintro ⟨i, v⟩ hi
  simp only [litI, litB] at hi ⊢
  by_cases hlt : i < l.length
  rotate_left
  have hdec : decide ((i : Int) < (l.length : Int)) = false := by simp; omega
  · have htk : l.take i = l := List.take_of_length_le (by omega)
    repeat' first
      | refine awp_seq ?_
      | refine awp_block ?_
      | refine awp_skip ?_
      | (refine reg _ (by (simp only [List.map_cons, List.map_nil]; rfl)) rfl ?_; intro K hK)
      | (refine awp_cond _ (by rfl) ?_ ?_ <;> (intro hb; first | (cases hb; done) | (have ht : true = true := hb; clear ht hb) | (have ht : false = false := hb; clear ht hb) | (simp only [hb]) | skip))
      | (refine awp_exit ?_; simp only [thenA, blockA, reduceIte, RetQ, Nat.reduceEqDiff])
      | (refine awp_ret ?_; simp only [thenA, blockA, RetQ])
      | (refine ev_nil (hK _ ?_); clear hK K)
      | refine ev_call0 _ _ (by (simp only [go_sem, hdec, htk]; rfl)) (by first | exact h45 ..) (by (simp only [go_sem, hdec, htk])) _ (by (simp only [go_sem, hdec, htk]; rfl)) ?_
      | refine ev_callC _ _ _ _ (by (simp only [go_sem, hdec, htk]; rfl)) (by (simp only [go_sem, hdec, htk]; rfl)) (by first | exact h45 ..) (by (simp only [go_sem, hdec, htk])) _ (by (simp only [go_sem, hdec, htk]; rfl)) ?_
      | refine ev_step0 _ _ (by (simp only [go_sem, hdec, htk]; rfl)) (by (first | trivial | decide | (simp only [inB, sliceOk, appendOk, rowsOk]; omega) | (simp [inB, sliceOk, appendOk, rowsOk]; omega))) _ (by (simp only [go_sem, hdec, htk]; rfl)) ?_
      | (refine ev_step _ (by (simp only [go_sem, hdec, htk]; rfl)) (by (first | trivial | decide | (simp only [inB, sliceOk, appendOk, rowsOk]; omega) | (simp [inB, sliceOk, appendOk, rowsOk]; omega))) _ (fun g u => by (simp only [go_sem, hdec, htk]; rfl)) ?_; intro g u; (try clear u); (try clear g))
      | fail
    all_goals (refine resR_one T_ok rfl _ (by (simp only [go_sem, resA]; rfl)) (by first | trivial | (simp only [go_sem, resA])) (by first | trivial | (simp only [go_sem])) ?_; simp only [go_sem])
    exact LeA.refl _
  have hdec : decide ((i : Int) < (l.length : Int)) = true := by simp; omega
  have hx := chs_at l hlt
  have hab1 : l.take (i + 1) = l.take i ++ [l.getD i ch0] := by rw [List.take_succ_eq_append_getElem hlt]; simp [List.getD_eq_getElem?_getD, hlt]
  have hk : (l.take i).length ≤ 16777215 := by rw [List.length_take]; omega
  generalize l.getD i ch0 = x at *
  generalize l.take i = kl at *
  repeat' first
    | refine awp_seq ?_
    | refine awp_block ?_
    | refine awp_skip ?_
    | (refine reg _ (by (simp only [List.map_cons, List.map_nil]; rfl)) rfl ?_; intro K hK)
    | (refine awp_cond _ (by rfl) ?_ ?_ <;> (intro hb; first | (cases hb; done) | (have ht : true = true := hb; clear ht hb) | (have ht : false = false := hb; clear ht hb) | (simp only [hb]) | skip))
    | (refine awp_exit ?_; simp only [thenA, blockA, reduceIte, RetQ, Nat.reduceEqDiff])
    | (refine awp_ret ?_; simp only [thenA, blockA, RetQ])
    | (refine ev_nil (hK _ ?_); clear hK K)
    | refine ev_call0 _ _ (by (simp only [go_sem, hdec, hx]; rfl)) (by first | exact f19_spec ..) (by (simp only [go_sem, hdec, hx])) _ (by (simp only [go_sem, hdec, hx]; rfl)) ?_
    | refine ev_callC _ _ _ _ (by (simp only [go_sem, hdec, hx]; rfl)) (by (simp only [go_sem, hdec, hx]; rfl)) (by first | exact f19_spec ..) (by (simp only [go_sem, hdec, hx])) _ (by (simp only [go_sem, hdec, hx]; rfl)) ?_
    | refine ev_step0 _ _ (by (simp only [go_sem, hdec, hx]; rfl)) (by (first | trivial | decide | (simp only [inB, sliceOk, appendOk, rowsOk]; omega) | (simp [inB, sliceOk, appendOk, rowsOk]; omega))) _ (by (simp only [go_sem, hdec, hx]; rfl)) ?_
    | (refine ev_step _ (by (simp only [go_sem, hdec, hx]; rfl)) (by (first | trivial | decide | (simp only [inB, sliceOk, appendOk, rowsOk]; omega) | (simp [inB, sliceOk, appendOk, rowsOk]; omega))) _ (fun g u => by (simp only [go_sem, hdec, hx]; rfl)) ?_; intro g u; (try clear u); (try clear g))
    | fail
  refine Exists.intro (i + 1, u) ⟨by simp; omega, by simp; omega, ?_⟩
  simp only [hab1, List.map_append, List.map_cons, List.map_nil]
  refine Wk.mk ?_ ?_
  all_goals (repeat' first | exact trivial | exact LeA.refl _ | exact LeA.any _ | exact LeO.refl _ | exact LeO.no _ | exact LeA.nil _ | (refine LeA.i ?_; (first | rfl | (push_cast; rfl) | (rw [wrap_id (by omega)]; push_cast; omega) | (simp [wrap_id]; omega))) | refine ⟨?_, ?_⟩)
theorem f31_spec (a b : List Nm) (x y : List Int) (hb0 : a.length + b.length ≤ 16777216) : Spec Try.prog 31 [.agg (rep a x), .agg (rep b y)] (.agg (rep (joinT a x b y) (joinL x y))) := by
  have h59 := f59_spec a x b y hb0
  refine spec_of_awp (fn := Try.f31) Try.func31 (by kernel_rfl) rfl ?_
  intro w0 C0
  simp only [Try.ntmps31, litI, litB, litS, List.length_cons, List.length_nil, Nat.reduceAdd, Nat.reduceSub, List.replicate_succ, List.replicate_zero, List.cons_append, List.nil_append]
  repeat' first
    | refine awp_seq ?_
    | refine awp_block ?_
    | refine awp_skip ?_
    | (refine reg _ (by (simp only [List.map_cons, List.map_nil]; rfl)) rfl ?_; intro K hK)
    | (refine awp_cond _ (by rfl) ?_ ?_ <;> (intro hb; first | (cases hb; done) | (have ht : true = true := hb; clear ht hb) | (have ht : false = false := hb; clear ht hb) | (simp only [hb]) | skip))
    | (refine awp_exit ?_; simp only [thenA, blockA, reduceIte, RetQ, Nat.reduceEqDiff])
    | (refine awp_ret ?_; simp only [thenA, blockA, RetQ])
    | (refine ev_nil (hK _ ?_); clear hK K)
    | refine ev_call0 _ _ (by (simp only [go_sem, Bool.and_false, Bool.false_and, Bool.and_self]; rfl)) (by first | exact f22_spec .. | exact h59 ..) (by (simp only [go_sem, Bool.and_false, Bool.false_and, Bool.and_self])) _ (by (simp only [go_sem, Bool.and_false, Bool.false_and, Bool.and_self]; rfl)) ?_
    | refine ev_callC _ _ _ _ (by (simp only [go_sem, Bool.and_false, Bool.false_and, Bool.and_self]; rfl)) (by (simp only [go_sem, Bool.and_false, Bool.false_and, Bool.and_self]; rfl)) (by first | exact f22_spec .. | exact h59 ..) (by (simp only [go_sem, Bool.and_false, Bool.false_and, Bool.and_self])) _ (by (simp only [go_sem, Bool.and_false, Bool.false_and, Bool.and_self]; rfl)) ?_
    | (apply regD; (case hd => (simp only [List.map_cons, List.map_nil]; rfl)); (case hok => rfl); (case' h => (intro K hK; (repeat' first
        | (apply evd_nil; refine (hK _ ?_); clear hK K)
        | (apply evd_call0; (case hi => (simp only [go_sem, Bool.and_false, Bool.false_and, Bool.and_self]; try rfl)); (case hys => (simp only [go_sem, Bool.and_false, Bool.false_and, Bool.and_self]; try rfl)); (case hs => first | exact f22_spec .. | exact h59 ..); (case hok => (simp only [go_sem, Bool.and_false, Bool.false_and, Bool.and_self])); (case hw => (simp only [go_sem, Bool.and_false, Bool.false_and, Bool.and_self]; try rfl)); (case hσ => (simp only [go_sem, Bool.and_false, Bool.false_and, Bool.and_self]; try rfl)))
        | (apply evd_callC; (case hf => (simp only [go_sem, Bool.and_false, Bool.false_and, Bool.and_self]; try rfl)); (case hi => (simp only [go_sem, Bool.and_false, Bool.false_and, Bool.and_self]; try rfl)); (case hys => (simp only [go_sem, Bool.and_false, Bool.false_and, Bool.and_self]; try rfl)); (case hs => first | exact f22_spec .. | exact h59 ..); (case hok => (simp only [go_sem, Bool.and_false, Bool.false_and, Bool.and_self])); (case hw => (simp only [go_sem, Bool.and_false, Bool.false_and, Bool.and_self]; try rfl)); (case hσ => (simp only [go_sem, Bool.and_false, Bool.false_and, Bool.and_self]; try rfl)))
        | (apply evd_step0; (case hr => (simp only [go_sem, Bool.and_false, Bool.false_and, Bool.and_self]; try rfl)); (case hi => (simp only [go_sem, Bool.and_false, Bool.false_and, Bool.and_self]; try rfl)); (case hc => (first | trivial | decide | (simp only [inB, sliceOk, appendOk, rowsOk]; omega) | (simp [inB, sliceOk, appendOk, rowsOk]; omega))); (case hσ => (simp only [go_sem, Bool.and_false, Bool.false_and, Bool.and_self]; try rfl)))
        | (apply evd_step; (case hr => (simp only [go_sem, Bool.and_false, Bool.false_and, Bool.and_self]; try rfl)); (case hi => (simp only [go_sem, Bool.and_false, Bool.false_and, Bool.and_self]; try rfl)); (case hc => (first | trivial | decide | (simp only [inB, sliceOk, appendOk, rowsOk]; omega) | (simp [inB, sliceOk, appendOk, rowsOk]; omega))); (case hw => (intro g u; simp only [go_sem, Bool.and_false, Bool.false_and, Bool.and_self]; try rfl)); (case hσ => (intro g u; simp only [go_sem, Bool.and_false, Bool.false_and, Bool.and_self]; try rfl)); (case' hk => (intro g u; (try clear u); (try clear g))))
        | fail))); (case hB => kernel_rfl))
    | refine ev_step0 _ _ (by (simp only [go_sem, Bool.and_false, Bool.false_and, Bool.and_self]; rfl)) (by (first | trivial | decide | (simp only [inB, sliceOk, appendOk, rowsOk]; omega) | (simp [inB, sliceOk, appendOk, rowsOk]; omega))) _ (by (simp only [go_sem, Bool.and_false, Bool.false_and, Bool.and_self]; rfl)) ?_
    | (refine ev_step _ (by (simp only [go_sem, Bool.and_false, Bool.false_and, Bool.and_self]; rfl)) (by (first | trivial | decide | (simp only [inB, sliceOk, appendOk, rowsOk]; omega) | (simp [inB, sliceOk, appendOk, rowsOk]; omega))) _ (fun g u => by (simp only [go_sem, Bool.and_false, Bool.false_and, Bool.and_self]; rfl)) ?_; intro g u; (try clear u); (try clear g))
    | fail
  all_goals (refine resR_one T_ok rfl _ (by (simp only [go_sem, resA]; rfl)) (by first | trivial | (simp only [go_sem, resA])) (by first | trivial | (simp only [go_sem])) ?_; simp only [go_sem])
  exact LeA.refl _
theorem f39_spec (l : List Ch) (c : List Int) (hb0 : l.length ≤ 16777215) : Spec Try.prog 39 [.d (chs l), .d (ints c)] (.agg (rep (foldO (withinC c l)) c)) := by
  have h60 := f60_spec l c (by omega)
  have h13 := f13_spec (withinC c l) (by have := withinC_len c l; omega)
  refine spec_of_awp (fn := Try.f39) Try.func39 (by kernel_rfl) rfl ?_
  intro w0 C0
  simp only [Try.ntmps39, litI, litB, litS, List.length_cons, List.length_nil, Nat.reduceAdd, Nat.reduceSub, List.replicate_succ, List.replicate_zero, List.cons_append, List.nil_append]
  repeat' first
    | refine awp_seq ?_
    | refine awp_block ?_
    | refine awp_skip ?_
    | (refine reg _ (by (simp only [List.map_cons, List.map_nil]; rfl)) rfl ?_; intro K hK)
    | (refine awp_cond _ (by rfl) ?_ ?_ <;> (intro hb; first | (cases hb; done) | (have ht : true = true := hb; clear ht hb) | (have ht : false = false := hb; clear ht hb) | (simp only [hb]) | skip))
    | (refine awp_exit ?_; simp only [thenA, blockA, reduceIte, RetQ, Nat.reduceEqDiff])
    | (refine awp_ret ?_; simp only [thenA, blockA, RetQ])
    | (refine ev_nil (hK _ ?_); clear hK K)
    | refine ev_call0 _ _ (by (simp only [go_sem]; rfl)) (by first | exact h60 .. | exact h13 ..) (by (simp only [go_sem])) _ (by (simp only [go_sem]; rfl)) ?_
    | refine ev_callC _ _ _ _ (by (simp only [go_sem]; rfl)) (by (simp only [go_sem]; rfl)) (by first | exact h60 .. | exact h13 ..) (by (simp only [go_sem])) _ (by (simp only [go_sem]; rfl)) ?_
    | refine ev_step0 _ _ (by (simp only [go_sem]; rfl)) (by (first | trivial | decide | (simp only [inB, sliceOk, appendOk, rowsOk]; omega) | (simp [inB, sliceOk, appendOk, rowsOk]; omega))) _ (by (simp only [go_sem]; rfl)) ?_
    | (refine ev_step _ (by (simp only [go_sem]; rfl)) (by (first | trivial | decide | (simp only [inB, sliceOk, appendOk, rowsOk]; omega) | (simp [inB, sliceOk, appendOk, rowsOk]; omega))) _ (fun g u => by (simp only [go_sem]; rfl)) ?_; intro g u; (try clear u); (try clear g))
    | fail
  all_goals (refine resR_one T_ok rfl _ (by (simp only [go_sem, resA]; rfl)) (by first | trivial | (simp only [go_sem, resA])) (by first | trivial | (simp only [go_sem])) ?_; simp only [go_sem])
  exact LeA.refl _
end Go.Proofs.Ytalbfikfbejnfaa.A

/- Sorted names, additions, drops: plain law. -/
set_option linter.unusedVariables false
set_option linter.unusedSimpArgs false
namespace Go.Proofs.Ytalbfikfbejnfaa.A
abbrev lt (x y : Nm) : Prop := less x.1 x.2 y.1 y.2 = true
theorem lt_iff {x y : Nm} : lt x y ↔ x.1 < y.1 ∨ (x.1 = y.1 ∧ x.2 < y.2) := by
  simp [lt, less]
theorem lt_irrefl (x : Nm) : ¬ lt x x := by rw [lt_iff]; omega
theorem lt_trans {x y z : Nm} (h : lt x y) (k : lt y z) : lt x z := by rw [lt_iff] at *; omega
theorem lt_total (x y : Nm) : x = y ∨ lt x y ∨ lt y x := by
  rw [lt_iff, lt_iff, Prod.ext_iff]; omega
theorem cmpN_le (x y : Nm) : cmpN x.1 x.2 y.1 y.2 ≤ 0 ↔ ¬ lt y x := by
  rw [lt_iff]
  simp only [cmpN, firstNZ, cmpI]
  by_cases h1 : x.1 < y.1
  · simp [h1]; omega
  · by_cases h2 : y.1 < x.1
    · simp [h1, h2]
    · have : x.1 = y.1 := by omega
      by_cases h3 : x.2 < y.2
      · simp [this, h3]; omega
      · by_cases h4 : y.2 < x.2
        · simp [this, h3, h4]
        · simp [this, h3, h4]
theorem inL_iff {l : List Nm} {n : Nm} : inL l n = true ↔ n ∈ l := by
  simp only [inL, List.any_eq_true, nmEq_iff]
  exact ⟨fun ⟨x, h, e⟩ => e ▸ h, fun h => ⟨n, h, rfl⟩⟩
theorem inL_bool (l : List Nm) (n : Nm) : inL l n = decide (n ∈ l) := by
  rw [Bool.eq_iff_iff, inL_iff, decide_eq_true_iff]
theorem sorted_iff : ∀ (l : List Nm) (p : Nm), sortedN p l = true ↔ (∀ x ∈ l, named x.1 x.2 = true ∧ lt p x) ∧ l.Pairwise lt
  | [], p => by simp [sortedN]
  | n :: l, p => by
    simp only [sortedN, Bool.and_eq_true, sorted_iff l n, List.mem_cons, List.pairwise_cons]
    constructor
    · rintro ⟨⟨h1, h2⟩, h3, h4⟩
      refine ⟨?_, fun x hx => (h3 x hx).2, h4⟩
      rintro x (rfl | hx)
      · exact ⟨h1, h2⟩
      · exact ⟨(h3 x hx).1, lt_trans h2 (h3 x hx).2⟩
    · rintro ⟨h1, h2, h3⟩
      exact ⟨h1 n (.inl rfl), fun x hx => ⟨(h1 x (.inr hx)).1, h2 x hx⟩, h3⟩
theorem sorted0_iff (l : List Nm) : sortedN (-1, 0) l = true ↔ (∀ x ∈ l, named x.1 x.2 = true) ∧ l.Pairwise lt := by
  rw [sorted_iff]
  refine ⟨fun h => ⟨fun x hx => (h.1 x hx).1, h.2⟩, fun h => ⟨fun x hx => ⟨h.1 x hx, ?_⟩, h.2⟩⟩
  have := h.1 x hx
  simp only [named, Bool.and_eq_true, decide_eq_true_eq] at this
  rw [lt_iff]
  left
  show (-1 : Int) < x.1
  omega
theorem sorted_keep {l : List Nm} (h : sortedN (-1, 0) l = true) (c : List Int) : sortedN (-1, 0) (keepN c l) = true := by
  rw [sorted0_iff] at *
  exact ⟨fun x hx => h.1 x (List.mem_filter.1 hx).1, h.2.filter _⟩
/-- A name at its place. -/
def insN : List Nm → Nm → List Nm
  | [], n => [n]
  | x :: r, n => if x = n then x :: r else if lt x n then x :: insN r n else n :: x :: r
theorem uniL_nil_right : ∀ (l : List Nm), uniL l [] = l
  | [] => rfl
  | x :: r => by
    rw [uniL_step _ _ rfl]
    have e1 : offHd x (x :: r) = r := by simp [offHd, nmEq]
    simp only [uniHd, e1]
    have e2 : offHd x [] = [] := rfl
    rw [e2, uniL_nil_right r]
theorem uniL_ins : ∀ (l : List Nm) (n : Nm), uniL l [n] = insN l n
  | [], n => by
    rw [uniL_step _ _ rfl]
    have e1 : offHd n [n] = [] := by simp [offHd, nmEq]
    have e2 : offHd n [] = [] := rfl
    simp only [uniHd, e1, e2]
    rfl
  | x :: r, n => by
    rw [uniL_step _ _ rfl]
    have e1 : offHd x (x :: r) = r := by simp [offHd, nmEq]
    simp only [insN]
    rcases lt_total x n with rfl | h | h
    · have hc : cmpN x.1 x.2 x.1 x.2 ≤ 0 := (cmpN_le x x).2 (lt_irrefl x)
      have e2 : offHd x [x] = [] := by simp [offHd, nmEq]
      simp only [uniHd, hc, if_true, e1, e2, uniL_nil_right]
    · have hne : x ≠ n := fun e => by subst e; exact lt_irrefl x h
      have hc : cmpN x.1 x.2 n.1 n.2 ≤ 0 := (cmpN_le x n).2 fun k => lt_irrefl x (lt_trans h k)
      have hq : nmEq n x = false := by rw [Bool.eq_false_iff, Ne, nmEq_iff]; exact fun e => hne e.symm
      have e2 : offHd x [n] = [n] := by simp [offHd, hq]
      simp only [uniHd, hc, if_true, e1, e2, hne, if_false, uniL_ins r n]
      rw [if_pos h]
    · have hne : x ≠ n := fun e => by subst e; exact lt_irrefl x h
      have hc : ¬ cmpN x.1 x.2 n.1 n.2 ≤ 0 := fun k => (cmpN_le x n).1 k h
      have hl : ¬ lt x n := fun k => lt_irrefl x (lt_trans k h)
      have hq : nmEq x n = false := by rw [Bool.eq_false_iff, Ne, nmEq_iff]; exact hne
      have e2 : offHd n (x :: r) = x :: r := by simp [offHd, hq]
      have e3 : offHd n [n] = [] := by simp [offHd, nmEq]
      simp only [uniHd, hc, if_false, e2, e3, uniL_nil_right, hne, hl]
theorem mem_ins {n y : Nm} : ∀ {l : List Nm}, y ∈ insN l n ↔ y = n ∨ y ∈ l
  | [] => by simp [insN]
  | x :: r => by
    simp only [insN]
    split
    · rename_i h
      subst h
      simp
    · split
      · simp only [List.mem_cons, mem_ins (l := r)]
        constructor
        · rintro (h | h | h)
          · exact .inr (.inl h)
          · exact .inl h
          · exact .inr (.inr h)
        · rintro (h | h | h)
          · exact .inr (.inl h)
          · exact .inl h
          · exact .inr (.inr h)
      · simp
theorem sorted_ins {n : Nm} : ∀ {l : List Nm}, l.Pairwise lt → (insN l n).Pairwise lt
  | [], _ => by simp [insN]
  | x :: r, h => by
    rw [List.pairwise_cons] at h
    simp only [insN]
    split
    · exact List.pairwise_cons.2 h
    · rename_i hne
      split
      · rename_i hl
        refine List.pairwise_cons.2 ⟨fun y hy => ?_, sorted_ins h.2⟩
        rcases mem_ins.1 hy with rfl | hy
        · exact hl
        · exact h.1 y hy
      · rename_i hl
        have hg : lt n x := ((lt_total x n).resolve_left hne).resolve_left hl
        refine List.pairwise_cons.2 ⟨fun y hy => ?_, List.pairwise_cons.2 h⟩
        rcases List.mem_cons.1 hy with rfl | hy
        · exact hg
        · exact lt_trans hg (h.1 y hy)
theorem length_ins {n : Nm} : ∀ {l : List Nm}, l.Pairwise lt → (insN l n).length = l.length + if inL l n = true then 0 else 1
  | [], _ => by simp [insN, inL]
  | x :: r, h => by
    rw [List.pairwise_cons] at h
    simp only [insN]
    have hin : inL (x :: r) n = true ↔ x = n ∨ inL r n = true := by
      rw [inL_iff, inL_iff, List.mem_cons]
      exact ⟨fun h => h.imp Eq.symm id, fun h => h.imp Eq.symm id⟩
    split
    · rename_i he
      rw [if_pos (hin.2 (.inl he))]; rfl
    · rename_i hne
      split
      · have := length_ins (n := n) h.2
        simp only [List.length_cons, this]
        by_cases hr : inL r n = true
        · rw [if_pos hr, if_pos (hin.2 (.inr hr))]
        · rw [if_neg hr, if_neg (fun hh => hr ((hin.1 hh).resolve_left hne))]
      · rename_i hl
        have hg : lt n x := ((lt_total x n).resolve_left hne).resolve_left hl
        have hr : ¬ inL (x :: r) n = true := fun hh => by
          rcases hin.1 hh with he | he
          · exact hne he
          · exact lt_irrefl n (lt_trans hg (h.1 n (inL_iff.1 he)))
        rw [if_neg hr]
        first | done | rfl
theorem sorted_add {l : List Nm} (h : sortedN (-1, 0) l = true) {n : Nm} (hn : named n.1 n.2 = true) : sortedN (-1, 0) (uniL l [n]) = true := by
  rw [uniL_ins, sorted0_iff] at *
  refine ⟨fun x hx => ?_, sorted_ins h.2⟩
  rcases mem_ins.1 hx with rfl | hx
  · exact hn
  · exact h.1 x hx
/-! ### Cuts -/
theorem cutV_len {c : List Int} (h : cutV c = true) : c.length = 6 := by simp only [cutV, Bool.and_eq_true, decide_eq_true_eq] at h; exact h.1
theorem cutV_iff {c : List Int} : cutV c = true ↔ c.length = 6 ∧ ∀ x ∈ c, 0 ≤ x ∧ x ≤ 999 := by
  simp only [cutV, Bool.and_eq_true, decide_eq_true_eq, List.all_eq_true, cutOk]
theorem cutV_join {x y : List Int} (hx : cutV x = true) (hy : cutV y = true) : joinL x y = List.zipWith max x y ∧ joinE x y = 0 ∧ cutV (joinL x y) = true := by
  have hok : cutsOk x y = true := by simp [cutsOk, hx, hy]
  have h1 : joinL x y = List.zipWith max x y := by simp [joinL, hok]
  refine ⟨h1, by simp [joinE, hok], ?_⟩
  rw [h1]
  rw [cutV_iff] at *
  refine ⟨by simp [hx.1, hy.1], fun z hz => ?_⟩
  obtain ⟨i, hi⟩ := List.mem_iff_getElem?.1 hz
  rw [List.getElem?_zipWith] at hi
  cases hxi : x[i]? with
  | none => rw [hxi] at hi; cases hi
  | some a =>
    cases hyi : y[i]? with
    | none => rw [hxi, hyi] at hi; cases hi
    | some b =>
      rw [hxi, hyi] at hi
      cases hi
      have h1 := hx.2 a (List.mem_of_getElem? hxi)
      have h2 := hy.2 b (List.mem_of_getElem? hyi)
      omega
theorem inCut_join {x y : List Int} (hx : cutV x = true) (hy : cutV y = true) (a b : Int) : inCut (joinL x y) a b = (inCut x a b || inCut y a b) := by
  obtain ⟨h1, _, h3⟩ := cutV_join hx hy
  have lx := cutV_len hx
  have ly := cutV_len hy
  simp only [inCut, hx, hy, h3, Bool.true_and]
  by_cases ha : 0 ≤ a ∧ a < 6
  · have hg : (joinL x y).getD a.toNat 0 = max (x.getD a.toNat 0) (y.getD a.toNat 0) := by
      rw [h1]
      have i1 : a.toNat < x.length := by omega
      have i2 : a.toNat < y.length := by omega
      simp only [List.getD_eq_getElem?_getD, List.getElem?_zipWith, List.getElem?_eq_getElem i1, List.getElem?_eq_getElem i2, Option.getD_some]
    rw [hg]
    rw [Bool.eq_iff_iff]
    simp only [Bool.and_eq_true, Bool.or_eq_true, decide_eq_true_eq]
    omega
  · rw [Bool.eq_iff_iff]
    simp only [Bool.and_eq_true, Bool.or_eq_true, decide_eq_true_eq]
    omega
theorem keep_keep {x y : List Int} (hx : cutV x = true) (hy : cutV y = true) (l : List Nm) : keepN y (keepN x l) = keepN (joinL x y) l ∧ keepN x (keepN y l) = keepN (joinL x y) l ∧ keepN x (keepN x l) = keepN x l := by
  simp only [keepN, List.filter_filter]
  refine ⟨?_, ?_, ?_⟩
  · apply List.filter_congr
    intro n _
    rw [inCut_join hx hy]; cases inCut x n.1 n.2 <;> cases inCut y n.1 n.2 <;> rfl
  · apply List.filter_congr
    intro n _
    rw [inCut_join hx hy]; cases inCut x n.1 n.2 <;> cases inCut y n.1 n.2 <;> rfl
  · apply List.filter_congr
    intro n _
    cases inCut x n.1 n.2 <;> rfl
theorem in_keep {l : List Nm} {z : Nm} (hz : z ∈ l) (x : List Int) : (inL (keepN x l) z == inCut x z.1 z.2) = false := by
  have : inL (keepN x l) z = !inCut x z.1 z.2 := by
    rw [Bool.eq_iff_iff, inL_iff, keepN, List.mem_filter]
    simp [hz]
  rw [this]
  cases inCut x z.1 z.2 <;> rfl
theorem cutV_lim (b : List Int) (hb : ∀ x ∈ b, 0 ≤ x ∧ x < 256) : cutV (limL b 6) = true := by
  rw [cutV_iff]
  refine ⟨limL_len b 6, fun x hx => ?_⟩
  simp only [limL, List.mem_map, List.mem_range] at hx
  obtain ⟨s, _, rfl⟩ := hx
  split
  · rename_i h
    have hlt := h.2
    have hm : b.getD s 0 ∈ b := by
      rw [List.getD_eq_getElem?_getD, List.getElem?_eq_getElem hlt]
      exact List.getElem_mem hlt
    have h1 := hb _ hm
    have h2 : (b.getD s 0).tmod 6 = (b.getD s 0) % 6 := Int.tmod_eq_emod_of_nonneg h1.1
    rw [h2]
    omega
  · omega
end Go.Proofs.Ytalbfikfbejnfaa.A

/- Headers: the commits of a history. -/
set_option linter.unusedVariables false
set_option linter.unusedSimpArgs false
namespace Go.Proofs.Ytalbfikfbejnfaa.A
open Go.RowKit
attribute [local go_sem] Nat.reduceAdd Nat.reduceSub Nat.reduceMul Nat.reduceLT Nat.reduceLeDiff Nat.reduceEqDiff Nat.reduceBEq reduceIte reduceCtorEq e_step_none e_slotU e_slotB e_move e_assign e_pick e_unOp e_binOp e_alloc e_box e_build e_buildSlice e_load e_store e_fieldAddr e_field e_indexAddr e_index e_slice e_makeSlice e_makeFunc e_convert e_extract e_nilCheck e_len e_append e_max e_min e_call e_callV e_clo e_ev_tmp e_ev_int e_ev_bool e_ev_string e_ev_slice e_ev_nilFunc e_ev_nilIface e_ev_pointer e_ev_agg e_ev_func e_pickT e_pickF e_not e_neg e_add e_sub e_mul e_quo e_rem e_eql e_neq e_lss e_leq e_gtr e_geq e_beq e_bne e_sadd e_seql e_sneq e_b2_d e_b2_nil e_b2_nnil e_b2_agg e_lits_nil e_lits_cons e_litC e_eqR e_eqO_e e_eqO_n e_eqV4 e_eqV3 e_eqV2 e_eqV1 e_eqFs_nil e_eqFs_cons e_and2 e_eq1 e_eqL_i e_eqL_s e_eqL_b e_allocR e_boxR e_box_agg e_box_d e_box_own e_box_clo e_one_nil e_one_d e_one_own e_one_clo e_one_ptr e_cells_agg e_cells_d e_cells_own e_cells_clo e_cells_ptr e_ob_own e_ob_ptr e_ob_elo e_ob_d e_ob_el e_ob_agg e_load_box e_load_fzb e_load_el e_load_elo e_store_box e_storeB e_store_elo e_store_elo_agg e_storeE e_fa_ptr e_fa_el e_fa_elo e_faR e_fd e_fdR e_ia_d e_ia_row e_ia_fz e_ia_ptr e_ia_el e_ix_s e_ix_a e_len_s e_len_nil e_len_d e_len_row e_len_fz e_conv_i e_conv_s e_extr e_maxR e_minR e_nil_ptr e_nil_el e_nil_elo e_rows_nil e_rows_d e_rows_row e_rows_fz e_rok_nil e_rok_d e_rok_row e_rok_fz e_app_row e_appR e_app_nil e_appN e_make e_bnd_none e_bnd_some e_optmap_none e_optmap_some e_slR e_slRe e_sl_s e_sl_d e_sl_nil e_sl_row e_sl_fz e_fill_nil e_fill_cons e_fill1 e_placeS e_plS e_placeE e_buildO e_build1 e_build2 e_build3 e_bindD e_bs e_bsR e_allD_nil e_allD_cons e_allD1 e_chunk0 e_chunkS e_clP_nil e_clP_cons e_cl_d e_cl_any e_cl_el e_cl_agg e_cl_tup e_cl_clo e_cl_own e_clOwn_row e_clOwn_fz e_cl_ptr e_clPtr_box e_clBox e_clPtr_fzb e_clL_nil e_clL_cons e_ok_d e_ok_any e_ok_el e_ok_agg e_ok_tup e_ok_clo e_ok_own e_okOwn_row e_okOwn_fz e_ok_ptr e_okPtr_box e_okPtr_fzb e_okL_nil e_okL_cons e_ids_d e_ids_any e_ids_el e_ids_own e_ids_ptr e_ids_agg e_ids_tup e_ids_clo e_idsL_nil e_idsL_cons e_frz_nil e_frz_cons e_frz_row e_frz_fz e_frz_fzb e_frz_box e_frzB e_flat_lit e_flat_sl e_flat_agg e_flat_tup e_flat_any e_flat_clo e_flatL_nil e_flatL_cons e_objD e_setMany e_takeA e_zerosA e_gdL e_idsG e_idsOp e_callV' e_callF' e_o_move e_o_assign e_o_pick e_o_unOp e_o_binOp e_o_alloc e_o_box e_o_build e_o_buildSlice e_o_load e_o_store e_o_fieldAddr e_o_field e_o_indexAddr e_o_index e_o_slice0 e_o_slice1 e_o_slice2 e_o_slice3 e_o_makeSlice e_o_makeFunc e_o_convert e_o_extract e_o_nilCheck e_o_bcall e_o_vcall litI litB litS List.map_cons List.map_nil List.getD_cons_zero List.getD_cons_succ List.getD_nil List.getElem?_cons_zero List.getElem?_cons_succ List.getElem?_nil Option.getD_some Option.getD_none Option.map_some Option.map_none List.length_cons List.length_nil List.all_cons List.all_nil Bool.and_true Bool.true_and and_true true_and and_self
attribute [local go_sem] List.take_zero List.take_succ_cons List.drop_zero List.drop_succ_cons List.nil_append List.cons_append List.append_nil List.replicate_succ List.replicate_zero List.flatten_cons List.flatten_nil Nat.zero_add Nat.add_zero Nat.mul_one Nat.zero_mul Nat.one_mul Nat.mul_zero List.set_cons_zero List.set_cons_succ List.foldl_cons List.foldl_nil appendOk rowsOk inB sliceOk cutRows mtake mdrop List.length_append List.length_take List.length_drop if_true if_false or_false or_true true_or Bool.not_true Bool.not_false Bool.false_eq_true List.length_map Int.toNat_natCast Int.toNat_zero Int.toNat_one eq_self St.after St.put applyEff R0 T1 T2 T3 T4 T5 T6 T7 T8 T9 T10 T11 T12 T13 T14 T15 T16 T17 T18 T19 T20 T21 T22 T23 T24 T25 T26 T27 T28 T29 T30 T31 T32 T33 T34 T35 T36 T37 T38 T39 T40 T41 T42 T43 T44 T45 T46 T47 T48 T49 T50 T51 T52 T53 T54 T55 T56 T57 T58 T59 T60 T61 T62 T63 T64 T65 T66 T67 T68 T69 T70 T71 T72 T73 T74 T75 T76 T77 T78 T79 T80 T81 T82 T83 T84 T85 T86 T87 T88 T89 T90 T91 T92 T93 T94 T95 T96 T97 T98 T99 T100 T101 T102 T103 T105 T106 T107 T108 T109 T110 T111 T112 T113 T114 T117 T118 T119 T120 T121 T122 T123 T124 T125 T126 T127 T130 T131 T132 T133 T134 ti1 ti2 ti3 ti4 ti5 ti6 ti7 ti8 ti9 ti10 ti11 ti12 ti13 ti14 ti15 ti16 ti17 ti18 ti19 ti20 ti21 ti22 ti23 ti24 ti25 ti26 ti27 ti28 ti29 ti30 ti31 ti32 ti33 ti34 ti35 ti36 ti37 ti38 ti39 ti40 ti41 ti42 ti43 ti44 ti45 ti46 ti47 ti48 ti49 ti50 ti51 ti52 ti53 ti54 ti55 ti56 ti57 ti58 ti59 ti60 ti61 ti62 ti63 ti64 ti65 ti66 ti67 ti68 ti69 ti70 ti71 ti72 ti73 ti74 ti75 ti76 ti77 ti78 ti79 ti80 ti81 ti82 ti83 ti84 ti85 ti86 ti87 ti88 ti89 ti90 ti91 ti92 ti93 ti94 ti95 ti96 ti97 ti98 ti99 ti100 ti101 ti102 ti103 ti105 ti106 ti107 ti108 ti109 ti110 ti111 ti112 ti113 ti114 ti117 ti118 ti119 ti120 ti121 ti122 ti123 ti124 ti125 ti126 ti127 ti130 ti131 ti132 ti133 ti134
attribute [local irreducible] AWp evOps evD
theorem f44_val : Spec Try.prog 44 [] (.d (ints zero6)) := by
  refine spec_of_awp (fn := Try.f44) Try.func44 (by kernel_rfl) rfl ?_
  intro w0 C0
  simp only [Try.ntmps44, litI, litB, litS, List.length_cons, List.length_nil, Nat.reduceAdd, Nat.reduceSub, List.replicate_succ, List.replicate_zero, List.cons_append, List.nil_append]
  repeat' first
    | refine awp_seq ?_
    | refine awp_block ?_
    | refine awp_skip ?_
    | (refine reg _ (by (simp only [List.map_cons, List.map_nil]; rfl)) rfl ?_; intro K hK)
    | (refine awp_cond _ (by rfl) ?_ ?_ <;> (intro hb; first | (cases hb; done) | (have ht : true = true := hb; clear ht hb) | (have ht : false = false := hb; clear ht hb) | (simp only [hb]) | skip))
    | (refine awp_exit ?_; simp only [thenA, blockA, reduceIte, RetQ, Nat.reduceEqDiff])
    | (refine awp_ret ?_; simp only [thenA, blockA, RetQ])
    | (refine ev_nil (hK _ ?_); clear hK K)
    | refine ev_step0 _ _ (by (simp only [go_sem]; rfl)) (by (first | trivial | decide | (simp only [inB, sliceOk, appendOk, rowsOk]; omega) | (simp [inB, sliceOk, appendOk, rowsOk]; omega))) _ (by (simp only [go_sem]; rfl)) ?_
    | (refine ev_step _ (by (simp only [go_sem]; rfl)) (by (first | trivial | decide | (simp only [inB, sliceOk, appendOk, rowsOk]; omega) | (simp [inB, sliceOk, appendOk, rowsOk]; omega))) _ (fun g u => by (simp only [go_sem]; rfl)) ?_; intro g u; (try clear u); (try clear g))
    | fail
  all_goals (refine resR_one T_ok rfl _ (by (simp only [go_sem, resA]; rfl)) (by first | trivial | (simp only [go_sem, resA])) (by first | trivial | (simp only [go_sem])) ?_; simp only [go_sem])
  exact LeA.s rfl
abbrev krow (K : List (List Int)) : List (List Dat) := K.map fun l => [ints l]
theorem krow_at (K : List (List Int)) {i : Nat} (h : i < K.length) : (K.map fun l => [ints l]).getD i [] = [ints (K.getD i [])] := by
  simp [List.getD_eq_getElem?_getD, h]
theorem krow_set (K : List (List Int)) (i : Nat) (l : List Int) : (K.map fun l => [ints l]).set i [ints l] = (K.set i l).map fun l => [ints l] := by
  rw [List.map_set]
/-- Cuts known to stations, and the commits so far: one step. -/
def hdrS (a : List (List Int) × List Cm) (x : Int) : List (List Int) × List Cm :=
  let s := (x.tmod 3).toNat
  let t := ((x.tdiv 3).tmod 3).toNat
  let K := if 0 < (x.tdiv 9).tmod 3 then a.1.set s (joinL (a.1.getD s []) (a.1.getD t [])) else a.1
  let c : Cm := ((s, (K.getD s []).getD s 0 + 1), K.getD s [])
  (K.set s (ownL c.2 c.1), a.2 ++ [c])
def hdrI (b : List Int) (i : Nat) : List (List Int) × List Cm := (b.take i).foldl hdrS ([zero6, zero6, zero6], [])
theorem hdrI_succ (b : List Int) {i : Nat} (h : i < b.length) : hdrI b (i + 1) = hdrS (hdrI b i) (b.getD i 0) := by
  have hab1 : b.take (i + 1) = b.take i ++ [b.getD i 0] := by rw [List.take_succ_eq_append_getElem h]; simp [List.getD_eq_getElem?_getD, h]
  simp only [hdrI, hab1, List.foldl_append, List.foldl_cons, List.foldl_nil]
/-- A cut of numbers of at most n. -/
def cutB (n : Nat) (c : List Int) : Prop := c.length = 6 ∧ ∀ x ∈ c, 0 ≤ x ∧ x ≤ n
theorem cutB_at {n : Nat} {c : List Int} (h : cutB n c) {i : Nat} (hi : i < 6) : 0 ≤ c.getD i 0 ∧ c.getD i 0 ≤ n := by
  have hl : i < c.length := by rw [h.1]; exact hi
  refine h.2 _ ?_
  rw [List.getD_eq_getElem?_getD, List.getElem?_eq_getElem hl]
  exact List.getElem_mem hl
theorem cutB_V {n : Nat} {c : List Int} (h : cutB n c) (hn : n ≤ 999) : cutV c = true := cutV_iff.2 ⟨h.1, fun x hx => ⟨(h.2 x hx).1, by have := (h.2 x hx).2; omega⟩⟩
theorem cutB_mono {n m : Nat} {c : List Int} (h : cutB n c) (hn : n ≤ m) : cutB m c := ⟨h.1, fun x hx => ⟨(h.2 x hx).1, by have := (h.2 x hx).2; omega⟩⟩
theorem cutB_join {n : Nat} {x y : List Int} (hx : cutB n x) (hy : cutB n y) (hn : n ≤ 999) : cutB n (joinL x y) := by
  obtain ⟨h1, -, -⟩ := cutV_join (cutB_V hx hn) (cutB_V hy hn)
  rw [h1]
  refine ⟨by simp [hx.1, hy.1], fun z hz => ?_⟩
  obtain ⟨i, hi⟩ := List.mem_iff_getElem?.1 hz
  rw [List.getElem?_zipWith] at hi
  cases hxi : x[i]? with
  | none => rw [hxi] at hi; cases hi
  | some a =>
    cases hyi : y[i]? with
    | none => rw [hxi, hyi] at hi; cases hi
    | some b =>
      rw [hxi, hyi] at hi
      cases hi
      have h1 := hx.2 a (List.mem_of_getElem? hxi)
      have h2 := hy.2 b (List.mem_of_getElem? hyi)
      omega
theorem cutB_own {n : Nat} {c : List Int} (h : cutB n c) (s : Nat) (v : Int) (hv : 0 ≤ v ∧ v ≤ n + 1) : cutB (n + 1) (ownL c (s, v)) := by
  refine ⟨by simp [ownL, h.1], fun x hx => ?_⟩
  simp only [ownL] at hx
  rcases List.mem_or_eq_of_mem_set hx with hx | rfl
  · have := h.2 x hx; push_cast; omega
  · push_cast; omega
structure HdrOk (n : Nat) (a : List (List Int) × List Cm) : Prop where
  k : a.1.length = 3
  c : ∀ c ∈ a.1, cutB n c
  l : a.2.length = n
  o : ∀ c ∈ a.2, (0 ≤ c.1.1 ∧ c.1.1 < 3) ∧ (1 ≤ c.1.2 ∧ c.1.2 ≤ n) ∧ cutB n c.2
theorem byte_st {x : Int} (h : 0 ≤ x ∧ x < 256) : ∃ s t : Nat, s < 3 ∧ t < 3 ∧ x.tmod 3 = s ∧ (x.tdiv 3).tmod 3 = t := by
  have h1 : x.tmod 3 = x % 3 := Int.tmod_eq_emod_of_nonneg h.1
  have h2 : x.tdiv 3 = x / 3 := Int.tdiv_eq_ediv_of_nonneg h.1
  have h3 : (x.tdiv 3).tmod 3 = x / 3 % 3 := by rw [h2]; exact Int.tmod_eq_emod_of_nonneg (by omega)
  exact ⟨(x % 3).toNat, (x / 3 % 3).toNat, by omega, by omega, by omega, by omega⟩
theorem getD_mem' {α : Type} {l : List α} {i : Nat} (h : i < l.length) (d : α) : l.getD i d ∈ l := by
  rw [List.getD_eq_getElem?_getD, List.getElem?_eq_getElem h]; exact List.getElem_mem h
theorem hdrS_ok {n : Nat} (hn : n ≤ 900) {a : List (List Int) × List Cm} (h : HdrOk n a) {x : Int} (hx : 0 ≤ x ∧ x < 256) : HdrOk (n + 1) (hdrS a x) := by
  obtain ⟨s, t, hs, ht, e1, e2⟩ := byte_st hx
  have hK : (if 0 < (x.tdiv 9).tmod 3 then a.1.set s (joinL (a.1.getD s []) (a.1.getD t [])) else a.1).length = 3 := by split <;> simp [h.k]
  have hC : ∀ c ∈ (if 0 < (x.tdiv 9).tmod 3 then a.1.set s (joinL (a.1.getD s []) (a.1.getD t [])) else a.1), cutB n c := by
    split
    · intro c hc
      rcases List.mem_or_eq_of_mem_set hc with hc | rfl
      · exact h.c c hc
      · exact cutB_join (h.c _ (getD_mem' (by rw [h.k]; exact hs) _)) (h.c _ (getD_mem' (by rw [h.k]; exact ht) _)) (by omega)
    · exact h.c
  simp only [hdrS, e1, e2, Int.toNat_natCast]
  generalize (if 0 < (x.tdiv 9).tmod 3 then a.1.set s (joinL (a.1.getD s []) (a.1.getD t [])) else a.1) = K at *
  have hk : cutB n (K.getD s []) := hC _ (getD_mem' (by rw [hK]; exact hs) _)
  have hb := cutB_at hk (i := s) (by omega)
  refine ⟨by simp [hK], fun c hc => ?_, by simp [h.l], fun c hc => ?_⟩
  · rcases List.mem_or_eq_of_mem_set hc with hc | rfl
    · exact cutB_mono (hC c hc) (by omega)
    · exact cutB_own hk s _ (by omega)
  · rcases List.mem_append.1 hc with hc | hc
    · obtain ⟨h1, h2, h3⟩ := h.o c hc
      exact ⟨h1, by push_cast; omega, cutB_mono h3 (by omega)⟩
    · rw [List.mem_singleton] at hc
      subst hc
      exact ⟨⟨by show (0 : Int) ≤ s; omega, by show (s : Int) < 3; omega⟩, ⟨by show 1 ≤ (K.getD s []).getD s 0 + 1; omega, by show (K.getD s []).getD s 0 + 1 ≤ ((n + 1 : Nat) : Int); push_cast; omega⟩, cutB_mono hk (by omega)⟩
theorem hdrI_ok {b : List Int} (hb : ∀ x ∈ b, 0 ≤ x ∧ x < 256) : ∀ i : Nat, i ≤ 12 → i ≤ b.length → HdrOk i (hdrI b i)
  | 0, _, _ => ⟨rfl, by simp [hdrI, cutB], rfl, by simp [hdrI]⟩
  | i + 1, h1, h2 => by
    rw [hdrI_succ b (by omega)]
    exact hdrS_ok (by omega) (hdrI_ok hb i (by omega) (by omega)) (hb _ (getD_mem' (by omega) _))
theorem hdrI_end (b : List Int) {i : Nat} (h : ¬ (i < b.length ∧ i < 12)) (hi : i ≤ 12) : hdrI b i = hdrI b 12 := by
  simp only [hdrI]
  by_cases h1 : i = 12
  · rw [h1]
  · rw [List.take_of_length_le (by omega), List.take_of_length_le (by omega)]
/-- The commits of a history. -/
def hdrL (b : List Int) : List Cm := (hdrI b 12).2
theorem hdrL_ok {b : List Int} (hb : ∀ x ∈ b, 0 ≤ x ∧ x < 256) : (hdrL b).length ≤ 12 ∧ ∀ c ∈ hdrL b, (0 ≤ c.1.1 ∧ c.1.1 < 3) ∧ (1 ≤ c.1.2 ∧ c.1.2 ≤ 12) ∧ cutB 12 c.2 := by
  have h := hdrI_ok hb (min b.length 12) (by omega) (by omega)
  rw [hdrI_end b (by omega) (by omega)] at h
  refine ⟨by rw [hdrL, h.l]; omega, fun c hc => ?_⟩
  obtain ⟨h1, h2, h3⟩ := h.o c hc
  exact ⟨h1, by omega, cutB_mono h3 (by omega)⟩
end Go.Proofs.Ytalbfikfbejnfaa.A

/- Headers: the walk. -/
set_option linter.unusedVariables false
set_option linter.unusedSimpArgs false
namespace Go.Proofs.Ytalbfikfbejnfaa.A
open Go.RowKit
attribute [local go_sem] Nat.reduceAdd Nat.reduceSub Nat.reduceMul Nat.reduceLT Nat.reduceLeDiff Nat.reduceEqDiff Nat.reduceBEq reduceIte reduceCtorEq e_step_none e_slotU e_slotB e_move e_assign e_pick e_unOp e_binOp e_alloc e_box e_build e_buildSlice e_load e_store e_fieldAddr e_field e_indexAddr e_index e_slice e_makeSlice e_makeFunc e_convert e_extract e_nilCheck e_len e_append e_max e_min e_call e_callV e_clo e_ev_tmp e_ev_int e_ev_bool e_ev_string e_ev_slice e_ev_nilFunc e_ev_nilIface e_ev_pointer e_ev_agg e_ev_func e_pickT e_pickF e_not e_neg e_add e_sub e_mul e_quo e_rem e_eql e_neq e_lss e_leq e_gtr e_geq e_beq e_bne e_sadd e_seql e_sneq e_b2_d e_b2_nil e_b2_nnil e_b2_agg e_lits_nil e_lits_cons e_litC e_eqR e_eqO_e e_eqO_n e_eqV4 e_eqV3 e_eqV2 e_eqV1 e_eqFs_nil e_eqFs_cons e_and2 e_eq1 e_eqL_i e_eqL_s e_eqL_b e_allocR e_boxR e_box_agg e_box_d e_box_own e_box_clo e_one_nil e_one_d e_one_own e_one_clo e_one_ptr e_cells_agg e_cells_d e_cells_own e_cells_clo e_cells_ptr e_ob_own e_ob_ptr e_ob_elo e_ob_d e_ob_el e_ob_agg e_load_box e_load_fzb e_load_el e_load_elo e_store_box e_storeB e_store_elo e_store_elo_agg e_storeE e_fa_ptr e_fa_el e_fa_elo e_faR e_fd e_fdR e_ia_d e_ia_row e_ia_fz e_ia_ptr e_ia_el e_ix_s e_ix_a e_len_s e_len_nil e_len_d e_len_row e_len_fz e_conv_i e_conv_s e_extr e_maxR e_minR e_nil_ptr e_nil_el e_nil_elo e_rows_nil e_rows_d e_rows_row e_rows_fz e_rok_nil e_rok_d e_rok_row e_rok_fz e_app_row e_appR e_app_nil e_appN e_make e_bnd_none e_bnd_some e_optmap_none e_optmap_some e_slR e_slRe e_sl_s e_sl_d e_sl_nil e_sl_row e_sl_fz e_fill_nil e_fill_cons e_fill1 e_placeS e_plS e_placeE e_buildO e_build1 e_build2 e_build3 e_bindD e_bs e_bsR e_allD_nil e_allD_cons e_allD1 e_chunk0 e_chunkS e_clP_nil e_clP_cons e_cl_d e_cl_any e_cl_el e_cl_agg e_cl_tup e_cl_clo e_cl_own e_clOwn_row e_clOwn_fz e_cl_ptr e_clPtr_box e_clBox e_clPtr_fzb e_clL_nil e_clL_cons e_ok_d e_ok_any e_ok_el e_ok_agg e_ok_tup e_ok_clo e_ok_own e_okOwn_row e_okOwn_fz e_ok_ptr e_okPtr_box e_okPtr_fzb e_okL_nil e_okL_cons e_ids_d e_ids_any e_ids_el e_ids_own e_ids_ptr e_ids_agg e_ids_tup e_ids_clo e_idsL_nil e_idsL_cons e_frz_nil e_frz_cons e_frz_row e_frz_fz e_frz_fzb e_frz_box e_frzB e_flat_lit e_flat_sl e_flat_agg e_flat_tup e_flat_any e_flat_clo e_flatL_nil e_flatL_cons e_objD e_setMany e_takeA e_zerosA e_gdL e_idsG e_idsOp e_callV' e_callF' e_o_move e_o_assign e_o_pick e_o_unOp e_o_binOp e_o_alloc e_o_box e_o_build e_o_buildSlice e_o_load e_o_store e_o_fieldAddr e_o_field e_o_indexAddr e_o_index e_o_slice0 e_o_slice1 e_o_slice2 e_o_slice3 e_o_makeSlice e_o_makeFunc e_o_convert e_o_extract e_o_nilCheck e_o_bcall e_o_vcall litI litB litS List.map_cons List.map_nil List.getD_cons_zero List.getD_cons_succ List.getD_nil List.getElem?_cons_zero List.getElem?_cons_succ List.getElem?_nil Option.getD_some Option.getD_none Option.map_some Option.map_none List.length_cons List.length_nil List.all_cons List.all_nil Bool.and_true Bool.true_and and_true true_and and_self
attribute [local go_sem] List.take_zero List.take_succ_cons List.drop_zero List.drop_succ_cons List.nil_append List.cons_append List.append_nil List.replicate_succ List.replicate_zero List.flatten_cons List.flatten_nil Nat.zero_add Nat.add_zero Nat.mul_one Nat.zero_mul Nat.one_mul Nat.mul_zero List.set_cons_zero List.set_cons_succ List.foldl_cons List.foldl_nil appendOk rowsOk inB sliceOk cutRows mtake mdrop List.length_append List.length_take List.length_drop if_true if_false or_false or_true true_or Bool.not_true Bool.not_false Bool.false_eq_true List.length_map Int.toNat_natCast Int.toNat_zero Int.toNat_one eq_self St.after St.put applyEff R0 T1 T2 T3 T4 T5 T6 T7 T8 T9 T10 T11 T12 T13 T14 T15 T16 T17 T18 T19 T20 T21 T22 T23 T24 T25 T26 T27 T28 T29 T30 T31 T32 T33 T34 T35 T36 T37 T38 T39 T40 T41 T42 T43 T44 T45 T46 T47 T48 T49 T50 T51 T52 T53 T54 T55 T56 T57 T58 T59 T60 T61 T62 T63 T64 T65 T66 T67 T68 T69 T70 T71 T72 T73 T74 T75 T76 T77 T78 T79 T80 T81 T82 T83 T84 T85 T86 T87 T88 T89 T90 T91 T92 T93 T94 T95 T96 T97 T98 T99 T100 T101 T102 T103 T105 T106 T107 T108 T109 T110 T111 T112 T113 T114 T117 T118 T119 T120 T121 T122 T123 T124 T125 T126 T127 T130 T131 T132 T133 T134 ti1 ti2 ti3 ti4 ti5 ti6 ti7 ti8 ti9 ti10 ti11 ti12 ti13 ti14 ti15 ti16 ti17 ti18 ti19 ti20 ti21 ti22 ti23 ti24 ti25 ti26 ti27 ti28 ti29 ti30 ti31 ti32 ti33 ti34 ti35 ti36 ti37 ti38 ti39 ti40 ti41 ti42 ti43 ti44 ti45 ti46 ti47 ti48 ti49 ti50 ti51 ti52 ti53 ti54 ti55 ti56 ti57 ti58 ti59 ti60 ti61 ti62 ti63 ti64 ti65 ti66 ti67 ti68 ti69 ti70 ti71 ti72 ti73 ti74 ti75 ti76 ti77 ti78 ti79 ti80 ti81 ti82 ti83 ti84 ti85 ti86 ti87 ti88 ti89 ti90 ti91 ti92 ti93 ti94 ti95 ti96 ti97 ti98 ti99 ti100 ti101 ti102 ti103 ti105 ti106 ti107 ti108 ti109 ti110 ti111 ti112 ti113 ti114 ti117 ti118 ti119 ti120 ti121 ti122 ti123 ti124 ti125 ti126 ti127 ti130 ti131 ti132 ti133 ti134
attribute [local irreducible] AWp evOps evD
theorem wrap_u8 {n : Int} (h : 0 ≤ n ∧ n < 256) : IntKind.u8.wrap n = n := by
  simp [IntKind.wrap, IntKind.bits, IntKind.signed]; omega
set_option maxHeartbeats 4000000 in
set_option maxRecDepth 4000 in
theorem f12_spec (b : List Int) (hb : ∀ x ∈ b, 0 ≤ x ∧ x < 256) : Spec Try.prog 12 [.d (bytesD b)] (.d (cms (hdrL b))) := by
  refine spec_of_awp (fn := Try.f12) Try.func12 (by kernel_rfl) rfl ?_
  intro w0 C0
  simp only [Try.ntmps12, litI, litB, litS, List.length_cons, List.length_nil, Nat.reduceAdd, Nat.reduceSub, List.replicate_succ, List.replicate_zero, List.cons_append, List.nil_append]
  repeat' first
    | refine awp_seq ?_
    | refine awp_block ?_
    | refine awp_skip ?_
    | (refine reg _ (by (simp only [List.map_cons, List.map_nil]; rfl)) rfl ?_; intro K hK)
    | (refine awp_cond _ (by rfl) ?_ ?_ <;> (intro hb; first | (cases hb; done) | (have ht : true = true := hb; clear ht hb) | (have ht : false = false := hb; clear ht hb) | (simp only [hb]) | skip))
    | (refine awp_exit ?_; simp only [thenA, blockA, reduceIte, RetQ, Nat.reduceEqDiff])
    | (refine awp_ret ?_; simp only [thenA, blockA, RetQ])
    | (refine ev_nil (hK _ ?_); clear hK K)
    | refine ev_guardU _ (by (simp only [go_sem]; rfl)) (by (simp only [go_sem]; rfl)) _ (by (simp only [go_sem]; rfl)) ?_
    | (refine ev_guardT _ _ (by (simp only [go_sem]; rfl)) (by (simp only [go_sem]; rfl)) ?_ ?_ <;> (intro hb; first | (cases hb; done) | (have ht : true = true := hb; clear ht hb) | (have ht : false = false := hb; clear ht hb) | (simp only [hb]) | skip))
    | (refine ev_guardF _ _ (by (simp only [go_sem]; rfl)) (by (simp only [go_sem]; rfl)) ?_ ?_ <;> (intro hb; first | (cases hb; done) | (have ht : true = true := hb; clear ht hb) | (have ht : false = false := hb; clear ht hb) | (simp only [hb]) | skip))
    | refine ev_call0 _ _ (by (simp only [go_sem]; rfl)) (by first | exact f44_val ..) (by (simp only [go_sem])) _ (by (simp only [go_sem]; rfl)) ?_
    | refine ev_callC _ _ _ _ (by (simp only [go_sem]; rfl)) (by (simp only [go_sem]; rfl)) (by first | exact f44_val ..) (by (simp only [go_sem])) _ (by (simp only [go_sem]; rfl)) ?_
    | refine ev_step0 _ _ (by (simp only [go_sem]; rfl)) (by (first | trivial | decide | (simp only [inB, sliceOk, appendOk, rowsOk]; omega) | (simp [inB, sliceOk, appendOk, rowsOk]; omega))) _ (by (simp only [go_sem]; rfl)) ?_
    | (refine ev_step _ (by (simp only [go_sem]; rfl)) (by (first | trivial | decide | (simp only [inB, sliceOk, appendOk, rowsOk]; omega) | (simp [inB, sliceOk, appendOk, rowsOk]; omega))) _ (fun g u => by (simp only [go_sem]; rfl)) ?_; intro g u; (try clear u); (try clear g))
    | fail
  rename_i ua
  refine awp_loopI (fun j : Nat × Value × Value => j.1 ≤ 12 ∧ j.1 ≤ b.length) (fun j => 12 - j.1) (fun j => ⟨[.d (bytesD b), .any, .d (.lit (.slice none 0 0)), .own 8 j.2.1, .own 12 j.2.2, litI .i64 j.1, .any, .any, .any, .any, .any, .any, .any, .any, .any, .any, .any, .any, .any, .any, .any, .any, .any, .any, .any, .any, .any, .any, .any, .any, .any, .any, .any, .any, .any, .any, .any, .any, .any, .any, .any, .any, .any, .any, .any, .any, .any, .any, .any, .any, .any, .any, .any, .any, .any, .any, .any, .any, .any, .any, .any, .any, .any, .any, .any, .any, .any, .any, .any, .any, .any, .any, .any, .any, .any, .any, .any, .any, .any, .any, .any, .any, .any, .any, .any], [.no, .no, .no, .no, .no, .no, .no, .no, .row j.2.1 79 5 ((hdrI b j.1).2.map fun c => [.lit (.int .i64 c.1.1), .lit (.int .i64 c.1.2), ints c.2, .lit (.int .i64 0), .lit (.slice none 0 0)]), .no, .no, .no, .row j.2.2 26 1 ((hdrI b j.1).1.map fun l => [ints l]), .no, .no, .no, .no, .no, .no, .no, .no, .no, .no, .no, .no, .no, .no, .no, .no, .no, .no, .no, .no, .no, .no, .no, .no, .no, .no, .no, .no, .no, .no, .no, .no, .no, .no, .no, .no, .no, .no, .no, .no, .no, .no, .no, .no, .no, .no, .no, .no, .no, .no, .no, .no, .no, .no, .no, .no, .no, .no, .no, .no, .no, .no, .no, .no, .no, .no, .no, .no, .no, .no, .no, .no]⟩) (0, ua, u) (by simp) ?_ ?_
  · refine Wk.mk ?_ ?_
    all_goals (repeat' first | exact trivial | exact LeA.refl _ | exact LeA.any _ | exact LeO.refl _ | exact LeO.no _ | exact LeA.nil _ | (refine LeA.i ?_; (first | rfl | (push_cast; rfl) | (rw [wrap_id (by omega)]; push_cast; omega) | (simp [wrap_id]; omega))) | refine ⟨?_, ?_⟩)
  rintro ⟨i, v, v2⟩ ⟨hi, hib⟩
  simp only [litI, litB] at hi hib ⊢
  by_cases hlt : i < b.length ∧ i < 12
  · have h1 : decide ((i : Int) < (b.length : Int)) = true := by simp; omega
    have h2 : decide ((i : Int) < 12) = true := by simp; omega
    have hx := bytes_at b hlt.1
    have hxr := hb _ (getD_mem' hlt.1 0)
    have hS := hdrI_succ b hlt.1
    have hok := hdrI_ok hb i (by omega) hib
    generalize b.getD i 0 = x at *
    generalize hdrI b i = a at *
    obtain ⟨K, o⟩ := a
    obtain ⟨s, t, hs, ht, e1, e2⟩ := byte_st hxr
    obtain ⟨hk3, hcut, hol, -⟩ := hok
    simp only at hk3 hcut hol
    have w3 : IntKind.u8.wrap (x.tdiv 3) = x.tdiv 3 := wrap_u8 (by rw [Int.tdiv_eq_ediv_of_nonneg hxr.1]; omega)
    have w9 : IntKind.u8.wrap (x.tdiv 9) = x.tdiv 9 := wrap_u8 (by rw [Int.tdiv_eq_ediv_of_nonneg hxr.1]; omega)
    have ws : IntKind.i64.wrap (s : Int) = s := wrap_id (by omega)
    have wt : IntKind.i64.wrap (t : Int) = t := wrap_id (by omega)
    have wi : IntKind.i64.wrap (((i + 1 : Nat) : Int) - 1) = i := by rw [show (((i + 1 : Nat) : Int) - 1) = i from by push_cast; omega]; exact wrap_id (by omega)
    have hgs := krow_at K (i := s) (by omega)
    have hgt := krow_at K (i := t) (by omega)
    have hcs := hcut _ (getD_mem' (i := s) (by omega) [])
    have hct := hcut _ (getD_mem' (i := t) (by omega) [])
    by_cases h9 : 0 < (x.tdiv 9).tmod 3
    · have h9' : decide ((x.tdiv 9).tmod 3 > 0) = true := decide_eq_true h9
      have hS' : hdrS (K, o) x = ((K.set s (joinL (K.getD s []) (K.getD t []))).set s (ownL ((K.set s (joinL (K.getD s []) (K.getD t []))).getD s []) ((s : Int), ((K.set s (joinL (K.getD s []) (K.getD t []))).getD s []).getD s 0 + 1)), o ++ [(((s : Int), ((K.set s (joinL (K.getD s []) (K.getD t []))).getD s []).getD s 0 + 1), (K.set s (joinL (K.getD s []) (K.getD t []))).getD s [])]) := by
        simp only [hdrS, e1, e2, Int.toNat_natCast, if_pos h9]
      rw [hS'] at hS
      have hJ := cutB_join hcs hct (by omega)
      have hset := krow_set K s (joinL (K.getD s []) (K.getD t []))
      have hgJ : (K.set s (joinL (K.getD s []) (K.getD t []))).getD s [] = joinL (K.getD s []) (K.getD t []) := by
        rw [List.getD_eq_getElem?_getD, List.getElem?_set_self (by omega)]; rfl
      rw [hgJ] at hS
      have hg1 := krow_at (K.set s (joinL (K.getD s []) (K.getD t []))) (i := s) (by rw [List.length_set]; omega)
      rw [hgJ] at hg1
      have hK1l : (K.set s (joinL (K.getD s []) (K.getD t []))).length = 3 := by rw [List.length_set]; exact hk3
      generalize hKs : K.getD s [] = ks at *
      generalize hKt : K.getD t [] = kt at *
      have f38 : Spec Try.prog 38 [.d (ints ks), .d (ints kt)] (.agg [.d (ints (joinL ks kt)), litI .i64 (joinE ks kt)]) := f38_spec ks kt
      generalize joinL ks kt = k at *
      generalize hK1 : K.set s k = K1 at *
      have h6 : k.length = 6 := hJ.1
      have hk := ints_at k (i := s) (by omega)
      have hkr := cutB_at hJ (i := s) (by omega)
      have hset2 := krow_set K1 s (ownL k ((s : Int), k.getD s 0 + 1))
      have h43 : Spec Try.prog 43 [.agg [litI .i64 s, litI .i64 (k.getD s 0 + 1), .d (ints k), litI .i64 0, .d (.lit (.slice none 0 0))]] (.d (ints (ownL k ((s : Int), k.getD s 0 + 1)))) := f43_spec ((s : Int), k.getD s 0 + 1) k (by omega) ⟨by show (0 : Int) ≤ s; omega, by show (s : Int) < k.length; omega⟩
      generalize k.getD s 0 = q at *
      have wq : IntKind.i64.wrap (q + 1) = q + 1 := wrap_id (by omega)
      have hap : ((o.map fun c => [Dat.lit (.int .i64 c.1.1), .lit (.int .i64 c.1.2), ints c.2, .lit (.int .i64 0), .lit (.slice none 0 0)]) ++ [[Dat.lit (.int .i64 s), .lit (.int .i64 (q + 1)), ints k, .lit (.int .i64 0), .lit (.slice none 0 0)]]).getD i [] = [Dat.lit (.int .i64 s), .lit (.int .i64 (q + 1)), ints k, .lit (.int .i64 0), .lit (.slice none 0 0)] := by
        rw [List.getD_eq_getElem?_getD, List.getElem?_append_right (by simp [hol])]
        simp [hol]
      repeat' first
        | refine awp_seq ?_
        | refine awp_block ?_
        | refine awp_skip ?_
        | (refine reg _ (by (simp only [List.map_cons, List.map_nil]; rfl)) rfl ?_; intro K hK)
        | (refine awp_cond _ (by rfl) ?_ ?_ <;> (intro hb; first | (cases hb; done) | (have ht : true = true := hb; clear ht hb) | (have ht : false = false := hb; clear ht hb) | (simp only [hb]) | skip))
        | (refine awp_exit ?_; simp only [thenA, blockA, reduceIte, RetQ, Nat.reduceEqDiff])
        | (refine awp_ret ?_; simp only [thenA, blockA, RetQ])
        | (refine ev_nil (hK _ ?_); clear hK K)
        | refine ev_guardU _ (by (simp only [go_sem, h1, h2, hx, e1, e2, w3, w9, ws, wt, wi, h9', hgs, hgt, hg1, hk, wq, hap, hset, hol]; rfl)) (by (simp only [go_sem, h1, h2, hx, e1, e2, w3, w9, ws, wt, wi, h9', hgs, hgt, hg1, hk, wq, hap, hset, hol]; rfl)) _ (by (simp only [go_sem, h1, h2, hx, e1, e2, w3, w9, ws, wt, wi, h9', hgs, hgt, hg1, hk, wq, hap, hset, hol]; rfl)) ?_
        | (refine ev_guardT _ _ (by (simp only [go_sem, h1, h2, hx, e1, e2, w3, w9, ws, wt, wi, h9', hgs, hgt, hg1, hk, wq, hap, hset, hol]; rfl)) (by (simp only [go_sem, h1, h2, hx, e1, e2, w3, w9, ws, wt, wi, h9', hgs, hgt, hg1, hk, wq, hap, hset, hol]; rfl)) ?_ ?_ <;> (intro hb; first | (cases hb; done) | (have ht : true = true := hb; clear ht hb) | (have ht : false = false := hb; clear ht hb) | (simp only [hb]) | skip))
        | (refine ev_guardF _ _ (by (simp only [go_sem, h1, h2, hx, e1, e2, w3, w9, ws, wt, wi, h9', hgs, hgt, hg1, hk, wq, hap, hset, hol]; rfl)) (by (simp only [go_sem, h1, h2, hx, e1, e2, w3, w9, ws, wt, wi, h9', hgs, hgt, hg1, hk, wq, hap, hset, hol]; rfl)) ?_ ?_ <;> (intro hb; first | (cases hb; done) | (have ht : true = true := hb; clear ht hb) | (have ht : false = false := hb; clear ht hb) | (simp only [hb]) | skip))
        | refine ev_call0 _ _ (by (simp only [go_sem, h1, h2, hx, e1, e2, w3, w9, ws, wt, wi, h9', hgs, hgt, hg1, hk, wq, hap, hset, hol]; rfl)) (by first | exact f38 .. | exact h43 ..) (by (simp only [go_sem, h1, h2, hx, e1, e2, w3, w9, ws, wt, wi, h9', hgs, hgt, hg1, hk, wq, hap, hset, hol])) _ (by (simp only [go_sem, h1, h2, hx, e1, e2, w3, w9, ws, wt, wi, h9', hgs, hgt, hg1, hk, wq, hap, hset, hol]; rfl)) ?_
        | refine ev_callC _ _ _ _ (by (simp only [go_sem, h1, h2, hx, e1, e2, w3, w9, ws, wt, wi, h9', hgs, hgt, hg1, hk, wq, hap, hset, hol]; rfl)) (by (simp only [go_sem, h1, h2, hx, e1, e2, w3, w9, ws, wt, wi, h9', hgs, hgt, hg1, hk, wq, hap, hset, hol]; rfl)) (by first | exact f38 .. | exact h43 ..) (by (simp only [go_sem, h1, h2, hx, e1, e2, w3, w9, ws, wt, wi, h9', hgs, hgt, hg1, hk, wq, hap, hset, hol])) _ (by (simp only [go_sem, h1, h2, hx, e1, e2, w3, w9, ws, wt, wi, h9', hgs, hgt, hg1, hk, wq, hap, hset, hol]; rfl)) ?_
        | (apply regD; (case hd => (simp only [List.map_cons, List.map_nil]; rfl)); (case hok => rfl); (case' h => (intro K hK; (repeat' first
        | (apply evd_nil; refine (hK _ ?_); clear hK K)
        | (apply evd_guardU0; (case hj => (simp only [go_sem, h1, h2, hx, e1, e2, w3, w9, ws, wt, wi, h9', hgs, hgt, hg1, hk, wq, hap, hset, hol]; try rfl)); (case hu => (simp only [go_sem, h1, h2, hx, e1, e2, w3, w9, ws, wt, wi, h9', hgs, hgt, hg1, hk, wq, hap, hset, hol])); (case hσ => (simp only [go_sem, h1, h2, hx, e1, e2, w3, w9, ws, wt, wi, h9', hgs, hgt, hg1, hk, wq, hap, hset, hol]; try rfl)))
        | (apply evd_skipT0; (case hj => (simp only [go_sem, h1, h2, hx, e1, e2, w3, w9, ws, wt, wi, h9', hgs, hgt, hg1, hk, wq, hap, hset, hol]; try rfl)); (case hb => (simp only [go_sem, h1, h2, hx, e1, e2, w3, w9, ws, wt, wi, h9', hgs, hgt, hg1, hk, wq, hap, hset, hol]; try rfl)); (case hσ => (simp only [go_sem, h1, h2, hx, e1, e2, w3, w9, ws, wt, wi, h9', hgs, hgt, hg1, hk, wq, hap, hset, hol]; try rfl)))
        | (apply evd_skipF0; (case hj => (simp only [go_sem, h1, h2, hx, e1, e2, w3, w9, ws, wt, wi, h9', hgs, hgt, hg1, hk, wq, hap, hset, hol]; try rfl)); (case hb => (simp only [go_sem, h1, h2, hx, e1, e2, w3, w9, ws, wt, wi, h9', hgs, hgt, hg1, hk, wq, hap, hset, hol]; try rfl)); (case hσ => (simp only [go_sem, h1, h2, hx, e1, e2, w3, w9, ws, wt, wi, h9', hgs, hgt, hg1, hk, wq, hap, hset, hol]; try rfl)))
        | (apply evd_guardU; (case hj => (simp only [go_sem, h1, h2, hx, e1, e2, w3, w9, ws, wt, wi, h9', hgs, hgt, hg1, hk, wq, hap, hset, hol]; try rfl)); (case hu => (simp only [go_sem, h1, h2, hx, e1, e2, w3, w9, ws, wt, wi, h9', hgs, hgt, hg1, hk, wq, hap, hset, hol])); (case hσ => (simp only [go_sem, h1, h2, hx, e1, e2, w3, w9, ws, wt, wi, h9', hgs, hgt, hg1, hk, wq, hap, hset, hol]; try rfl)))
        | (apply evd_skipT; (case hj => (simp only [go_sem, h1, h2, hx, e1, e2, w3, w9, ws, wt, wi, h9', hgs, hgt, hg1, hk, wq, hap, hset, hol]; try rfl)); (case hb => (simp only [go_sem, h1, h2, hx, e1, e2, w3, w9, ws, wt, wi, h9', hgs, hgt, hg1, hk, wq, hap, hset, hol]; try rfl)); (case hσ => (simp only [go_sem, h1, h2, hx, e1, e2, w3, w9, ws, wt, wi, h9', hgs, hgt, hg1, hk, wq, hap, hset, hol]; try rfl)))
        | (apply evd_skipF; (case hj => (simp only [go_sem, h1, h2, hx, e1, e2, w3, w9, ws, wt, wi, h9', hgs, hgt, hg1, hk, wq, hap, hset, hol]; try rfl)); (case hb => (simp only [go_sem, h1, h2, hx, e1, e2, w3, w9, ws, wt, wi, h9', hgs, hgt, hg1, hk, wq, hap, hset, hol]; try rfl)); (case hσ => (simp only [go_sem, h1, h2, hx, e1, e2, w3, w9, ws, wt, wi, h9', hgs, hgt, hg1, hk, wq, hap, hset, hol]; try rfl)))
        | (apply evd_guardT; (case hj => (simp only [go_sem, h1, h2, hx, e1, e2, w3, w9, ws, wt, wi, h9', hgs, hgt, hg1, hk, wq, hap, hset, hol]; try rfl)); (case hb => (simp only [go_sem, h1, h2, hx, e1, e2, w3, w9, ws, wt, wi, h9', hgs, hgt, hg1, hk, wq, hap, hset, hol]; try rfl)); (case' h2 => (intro hb; first | (cases hb; done) | (simp only [hb]) | skip)); (case' h1 => (intro hb; first | (cases hb; done) | (simp only [hb]) | skip)))
        | (apply evd_guardF; (case hj => (simp only [go_sem, h1, h2, hx, e1, e2, w3, w9, ws, wt, wi, h9', hgs, hgt, hg1, hk, wq, hap, hset, hol]; try rfl)); (case hb => (simp only [go_sem, h1, h2, hx, e1, e2, w3, w9, ws, wt, wi, h9', hgs, hgt, hg1, hk, wq, hap, hset, hol]; try rfl)); (case' h2 => (intro hb; first | (cases hb; done) | (simp only [hb]) | skip)); (case' h1 => (intro hb; first | (cases hb; done) | (simp only [hb]) | skip)))
        | (apply evd_call0; (case hi => (simp only [go_sem, h1, h2, hx, e1, e2, w3, w9, ws, wt, wi, h9', hgs, hgt, hg1, hk, wq, hap, hset, hol]; try rfl)); (case hys => (simp only [go_sem, h1, h2, hx, e1, e2, w3, w9, ws, wt, wi, h9', hgs, hgt, hg1, hk, wq, hap, hset, hol]; try rfl)); (case hs => first | exact f38 .. | exact h43 ..); (case hok => (simp only [go_sem, h1, h2, hx, e1, e2, w3, w9, ws, wt, wi, h9', hgs, hgt, hg1, hk, wq, hap, hset, hol])); (case hw => (simp only [go_sem, h1, h2, hx, e1, e2, w3, w9, ws, wt, wi, h9', hgs, hgt, hg1, hk, wq, hap, hset, hol]; try rfl)); (case hσ => (simp only [go_sem, h1, h2, hx, e1, e2, w3, w9, ws, wt, wi, h9', hgs, hgt, hg1, hk, wq, hap, hset, hol]; try rfl)))
        | (apply evd_callC; (case hf => (simp only [go_sem, h1, h2, hx, e1, e2, w3, w9, ws, wt, wi, h9', hgs, hgt, hg1, hk, wq, hap, hset, hol]; try rfl)); (case hi => (simp only [go_sem, h1, h2, hx, e1, e2, w3, w9, ws, wt, wi, h9', hgs, hgt, hg1, hk, wq, hap, hset, hol]; try rfl)); (case hys => (simp only [go_sem, h1, h2, hx, e1, e2, w3, w9, ws, wt, wi, h9', hgs, hgt, hg1, hk, wq, hap, hset, hol]; try rfl)); (case hs => first | exact f38 .. | exact h43 ..); (case hok => (simp only [go_sem, h1, h2, hx, e1, e2, w3, w9, ws, wt, wi, h9', hgs, hgt, hg1, hk, wq, hap, hset, hol])); (case hw => (simp only [go_sem, h1, h2, hx, e1, e2, w3, w9, ws, wt, wi, h9', hgs, hgt, hg1, hk, wq, hap, hset, hol]; try rfl)); (case hσ => (simp only [go_sem, h1, h2, hx, e1, e2, w3, w9, ws, wt, wi, h9', hgs, hgt, hg1, hk, wq, hap, hset, hol]; try rfl)))
        | (apply evd_step0; (case hr => (simp only [go_sem, h1, h2, hx, e1, e2, w3, w9, ws, wt, wi, h9', hgs, hgt, hg1, hk, wq, hap, hset, hol]; try rfl)); (case hi => (simp only [go_sem, h1, h2, hx, e1, e2, w3, w9, ws, wt, wi, h9', hgs, hgt, hg1, hk, wq, hap, hset, hol]; try rfl)); (case hc => (first | trivial | decide | (simp only [inB, sliceOk, appendOk, rowsOk]; omega) | (simp [inB, sliceOk, appendOk, rowsOk]; omega))); (case hσ => (simp only [go_sem, h1, h2, hx, e1, e2, w3, w9, ws, wt, wi, h9', hgs, hgt, hg1, hk, wq, hap, hset, hol]; try rfl)))
        | (apply evd_step; (case hr => (simp only [go_sem, h1, h2, hx, e1, e2, w3, w9, ws, wt, wi, h9', hgs, hgt, hg1, hk, wq, hap, hset, hol]; try rfl)); (case hi => (simp only [go_sem, h1, h2, hx, e1, e2, w3, w9, ws, wt, wi, h9', hgs, hgt, hg1, hk, wq, hap, hset, hol]; try rfl)); (case hc => (first | trivial | decide | (simp only [inB, sliceOk, appendOk, rowsOk]; omega) | (simp [inB, sliceOk, appendOk, rowsOk]; omega))); (case hw => (intro g u; simp only [go_sem, h1, h2, hx, e1, e2, w3, w9, ws, wt, wi, h9', hgs, hgt, hg1, hk, wq, hap, hset, hol]; try rfl)); (case hσ => (intro g u; simp only [go_sem, h1, h2, hx, e1, e2, w3, w9, ws, wt, wi, h9', hgs, hgt, hg1, hk, wq, hap, hset, hol]; try rfl)); (case' hk => (intro g u; (try clear u); (try clear g))))
        | fail))); (case hB => kernel_rfl))
        | refine ev_step0 _ _ (by (simp only [go_sem, h1, h2, hx, e1, e2, w3, w9, ws, wt, wi, h9', hgs, hgt, hg1, hk, wq, hap, hset, hol]; rfl)) (by (first | trivial | decide | (simp only [inB, sliceOk, appendOk, rowsOk]; omega) | (simp [inB, sliceOk, appendOk, rowsOk]; omega))) _ (by (simp only [go_sem, h1, h2, hx, e1, e2, w3, w9, ws, wt, wi, h9', hgs, hgt, hg1, hk, wq, hap, hset, hol]; rfl)) ?_
        | (refine ev_step _ (by (simp only [go_sem, h1, h2, hx, e1, e2, w3, w9, ws, wt, wi, h9', hgs, hgt, hg1, hk, wq, hap, hset, hol]; rfl)) (by (first | trivial | decide | (simp only [inB, sliceOk, appendOk, rowsOk]; omega) | (simp [inB, sliceOk, appendOk, rowsOk]; omega))) _ (fun g u => by (simp only [go_sem, h1, h2, hx, e1, e2, w3, w9, ws, wt, wi, h9', hgs, hgt, hg1, hk, wq, hap, hset, hol]; rfl)) ?_; intro g u; (try clear u); (try clear g))
        | fail
      refine Exists.intro (i + 1, u, v2) ⟨⟨by show i + 1 ≤ 12; omega, by show i + 1 ≤ b.length; omega⟩, by show 12 - (i + 1) < 12 - i; omega, ?_⟩
      simp only [hS, hset2, List.map_append, List.map_cons, List.map_nil]
      refine Wk.mk ?_ ?_
      all_goals (repeat' first | exact trivial | exact LeA.refl _ | exact LeA.any _ | exact LeO.refl _ | exact LeO.no _ | exact LeA.nil _ | (refine LeA.i ?_; (first | rfl | (push_cast; rfl) | (rw [wrap_id (by omega)]; push_cast; omega) | (simp [wrap_id]; omega))) | refine ⟨?_, ?_⟩)
    · have h9' : decide ((x.tdiv 9).tmod 3 > 0) = false := decide_eq_false h9
      have hS' : hdrS (K, o) x = (K.set s (ownL (K.getD s []) ((s : Int), (K.getD s []).getD s 0 + 1)), o ++ [(((s : Int), (K.getD s []).getD s 0 + 1), K.getD s [])]) := by
        simp only [hdrS, e1, e2, Int.toNat_natCast, if_neg h9]
      rw [hS'] at hS
      generalize hKs : K.getD s [] = k at *
      have h6 : k.length = 6 := hcs.1
      have hk := ints_at k (i := s) (by omega)
      have hkr := cutB_at hcs (i := s) (by omega)
      have hset2 := krow_set K s (ownL k ((s : Int), k.getD s 0 + 1))
      have h43 : Spec Try.prog 43 [.agg [litI .i64 s, litI .i64 (k.getD s 0 + 1), .d (ints k), litI .i64 0, .d (.lit (.slice none 0 0))]] (.d (ints (ownL k ((s : Int), k.getD s 0 + 1)))) := f43_spec ((s : Int), k.getD s 0 + 1) k (by omega) ⟨by show (0 : Int) ≤ s; omega, by show (s : Int) < k.length; omega⟩
      generalize k.getD s 0 = q at *
      have wq : IntKind.i64.wrap (q + 1) = q + 1 := wrap_id (by omega)
      have hap : ((o.map fun c => [Dat.lit (.int .i64 c.1.1), .lit (.int .i64 c.1.2), ints c.2, .lit (.int .i64 0), .lit (.slice none 0 0)]) ++ [[Dat.lit (.int .i64 s), .lit (.int .i64 (q + 1)), ints k, .lit (.int .i64 0), .lit (.slice none 0 0)]]).getD i [] = [Dat.lit (.int .i64 s), .lit (.int .i64 (q + 1)), ints k, .lit (.int .i64 0), .lit (.slice none 0 0)] := by
        rw [List.getD_eq_getElem?_getD, List.getElem?_append_right (by simp [hol])]
        simp [hol]
      repeat' first
        | refine awp_seq ?_
        | refine awp_block ?_
        | refine awp_skip ?_
        | (refine reg _ (by (simp only [List.map_cons, List.map_nil]; rfl)) rfl ?_; intro K hK)
        | (refine awp_cond _ (by rfl) ?_ ?_ <;> (intro hb; first | (cases hb; done) | (have ht : true = true := hb; clear ht hb) | (have ht : false = false := hb; clear ht hb) | (simp only [hb]) | skip))
        | (refine awp_exit ?_; simp only [thenA, blockA, reduceIte, RetQ, Nat.reduceEqDiff])
        | (refine awp_ret ?_; simp only [thenA, blockA, RetQ])
        | (refine ev_nil (hK _ ?_); clear hK K)
        | refine ev_guardU _ (by (simp only [go_sem, h1, h2, hx, e1, e2, w3, w9, ws, wt, wi, h9', hgs, hk, wq, hap, hol]; rfl)) (by (simp only [go_sem, h1, h2, hx, e1, e2, w3, w9, ws, wt, wi, h9', hgs, hk, wq, hap, hol]; rfl)) _ (by (simp only [go_sem, h1, h2, hx, e1, e2, w3, w9, ws, wt, wi, h9', hgs, hk, wq, hap, hol]; rfl)) ?_
        | (refine ev_guardT _ _ (by (simp only [go_sem, h1, h2, hx, e1, e2, w3, w9, ws, wt, wi, h9', hgs, hk, wq, hap, hol]; rfl)) (by (simp only [go_sem, h1, h2, hx, e1, e2, w3, w9, ws, wt, wi, h9', hgs, hk, wq, hap, hol]; rfl)) ?_ ?_ <;> (intro hb; first | (cases hb; done) | (have ht : true = true := hb; clear ht hb) | (have ht : false = false := hb; clear ht hb) | (simp only [hb]) | skip))
        | (refine ev_guardF _ _ (by (simp only [go_sem, h1, h2, hx, e1, e2, w3, w9, ws, wt, wi, h9', hgs, hk, wq, hap, hol]; rfl)) (by (simp only [go_sem, h1, h2, hx, e1, e2, w3, w9, ws, wt, wi, h9', hgs, hk, wq, hap, hol]; rfl)) ?_ ?_ <;> (intro hb; first | (cases hb; done) | (have ht : true = true := hb; clear ht hb) | (have ht : false = false := hb; clear ht hb) | (simp only [hb]) | skip))
        | refine ev_call0 _ _ (by (simp only [go_sem, h1, h2, hx, e1, e2, w3, w9, ws, wt, wi, h9', hgs, hk, wq, hap, hol]; rfl)) (by first | exact h43 ..) (by (simp only [go_sem, h1, h2, hx, e1, e2, w3, w9, ws, wt, wi, h9', hgs, hk, wq, hap, hol])) _ (by (simp only [go_sem, h1, h2, hx, e1, e2, w3, w9, ws, wt, wi, h9', hgs, hk, wq, hap, hol]; rfl)) ?_
        | refine ev_callC _ _ _ _ (by (simp only [go_sem, h1, h2, hx, e1, e2, w3, w9, ws, wt, wi, h9', hgs, hk, wq, hap, hol]; rfl)) (by (simp only [go_sem, h1, h2, hx, e1, e2, w3, w9, ws, wt, wi, h9', hgs, hk, wq, hap, hol]; rfl)) (by first | exact h43 ..) (by (simp only [go_sem, h1, h2, hx, e1, e2, w3, w9, ws, wt, wi, h9', hgs, hk, wq, hap, hol])) _ (by (simp only [go_sem, h1, h2, hx, e1, e2, w3, w9, ws, wt, wi, h9', hgs, hk, wq, hap, hol]; rfl)) ?_
        | (apply regD; (case hd => (simp only [List.map_cons, List.map_nil]; rfl)); (case hok => rfl); (case' h => (intro K hK; (repeat' first
        | (apply evd_nil; refine (hK _ ?_); clear hK K)
        | (apply evd_guardU0; (case hj => (simp only [go_sem, h1, h2, hx, e1, e2, w3, w9, ws, wt, wi, h9', hgs, hk, wq, hap, hol]; try rfl)); (case hu => (simp only [go_sem, h1, h2, hx, e1, e2, w3, w9, ws, wt, wi, h9', hgs, hk, wq, hap, hol])); (case hσ => (simp only [go_sem, h1, h2, hx, e1, e2, w3, w9, ws, wt, wi, h9', hgs, hk, wq, hap, hol]; try rfl)))
        | (apply evd_skipT0; (case hj => (simp only [go_sem, h1, h2, hx, e1, e2, w3, w9, ws, wt, wi, h9', hgs, hk, wq, hap, hol]; try rfl)); (case hb => (simp only [go_sem, h1, h2, hx, e1, e2, w3, w9, ws, wt, wi, h9', hgs, hk, wq, hap, hol]; try rfl)); (case hσ => (simp only [go_sem, h1, h2, hx, e1, e2, w3, w9, ws, wt, wi, h9', hgs, hk, wq, hap, hol]; try rfl)))
        | (apply evd_skipF0; (case hj => (simp only [go_sem, h1, h2, hx, e1, e2, w3, w9, ws, wt, wi, h9', hgs, hk, wq, hap, hol]; try rfl)); (case hb => (simp only [go_sem, h1, h2, hx, e1, e2, w3, w9, ws, wt, wi, h9', hgs, hk, wq, hap, hol]; try rfl)); (case hσ => (simp only [go_sem, h1, h2, hx, e1, e2, w3, w9, ws, wt, wi, h9', hgs, hk, wq, hap, hol]; try rfl)))
        | (apply evd_guardU; (case hj => (simp only [go_sem, h1, h2, hx, e1, e2, w3, w9, ws, wt, wi, h9', hgs, hk, wq, hap, hol]; try rfl)); (case hu => (simp only [go_sem, h1, h2, hx, e1, e2, w3, w9, ws, wt, wi, h9', hgs, hk, wq, hap, hol])); (case hσ => (simp only [go_sem, h1, h2, hx, e1, e2, w3, w9, ws, wt, wi, h9', hgs, hk, wq, hap, hol]; try rfl)))
        | (apply evd_skipT; (case hj => (simp only [go_sem, h1, h2, hx, e1, e2, w3, w9, ws, wt, wi, h9', hgs, hk, wq, hap, hol]; try rfl)); (case hb => (simp only [go_sem, h1, h2, hx, e1, e2, w3, w9, ws, wt, wi, h9', hgs, hk, wq, hap, hol]; try rfl)); (case hσ => (simp only [go_sem, h1, h2, hx, e1, e2, w3, w9, ws, wt, wi, h9', hgs, hk, wq, hap, hol]; try rfl)))
        | (apply evd_skipF; (case hj => (simp only [go_sem, h1, h2, hx, e1, e2, w3, w9, ws, wt, wi, h9', hgs, hk, wq, hap, hol]; try rfl)); (case hb => (simp only [go_sem, h1, h2, hx, e1, e2, w3, w9, ws, wt, wi, h9', hgs, hk, wq, hap, hol]; try rfl)); (case hσ => (simp only [go_sem, h1, h2, hx, e1, e2, w3, w9, ws, wt, wi, h9', hgs, hk, wq, hap, hol]; try rfl)))
        | (apply evd_guardT; (case hj => (simp only [go_sem, h1, h2, hx, e1, e2, w3, w9, ws, wt, wi, h9', hgs, hk, wq, hap, hol]; try rfl)); (case hb => (simp only [go_sem, h1, h2, hx, e1, e2, w3, w9, ws, wt, wi, h9', hgs, hk, wq, hap, hol]; try rfl)); (case' h2 => (intro hb; first | (cases hb; done) | (simp only [hb]) | skip)); (case' h1 => (intro hb; first | (cases hb; done) | (simp only [hb]) | skip)))
        | (apply evd_guardF; (case hj => (simp only [go_sem, h1, h2, hx, e1, e2, w3, w9, ws, wt, wi, h9', hgs, hk, wq, hap, hol]; try rfl)); (case hb => (simp only [go_sem, h1, h2, hx, e1, e2, w3, w9, ws, wt, wi, h9', hgs, hk, wq, hap, hol]; try rfl)); (case' h2 => (intro hb; first | (cases hb; done) | (simp only [hb]) | skip)); (case' h1 => (intro hb; first | (cases hb; done) | (simp only [hb]) | skip)))
        | (apply evd_call0; (case hi => (simp only [go_sem, h1, h2, hx, e1, e2, w3, w9, ws, wt, wi, h9', hgs, hk, wq, hap, hol]; try rfl)); (case hys => (simp only [go_sem, h1, h2, hx, e1, e2, w3, w9, ws, wt, wi, h9', hgs, hk, wq, hap, hol]; try rfl)); (case hs => first | exact h43 ..); (case hok => (simp only [go_sem, h1, h2, hx, e1, e2, w3, w9, ws, wt, wi, h9', hgs, hk, wq, hap, hol])); (case hw => (simp only [go_sem, h1, h2, hx, e1, e2, w3, w9, ws, wt, wi, h9', hgs, hk, wq, hap, hol]; try rfl)); (case hσ => (simp only [go_sem, h1, h2, hx, e1, e2, w3, w9, ws, wt, wi, h9', hgs, hk, wq, hap, hol]; try rfl)))
        | (apply evd_callC; (case hf => (simp only [go_sem, h1, h2, hx, e1, e2, w3, w9, ws, wt, wi, h9', hgs, hk, wq, hap, hol]; try rfl)); (case hi => (simp only [go_sem, h1, h2, hx, e1, e2, w3, w9, ws, wt, wi, h9', hgs, hk, wq, hap, hol]; try rfl)); (case hys => (simp only [go_sem, h1, h2, hx, e1, e2, w3, w9, ws, wt, wi, h9', hgs, hk, wq, hap, hol]; try rfl)); (case hs => first | exact h43 ..); (case hok => (simp only [go_sem, h1, h2, hx, e1, e2, w3, w9, ws, wt, wi, h9', hgs, hk, wq, hap, hol])); (case hw => (simp only [go_sem, h1, h2, hx, e1, e2, w3, w9, ws, wt, wi, h9', hgs, hk, wq, hap, hol]; try rfl)); (case hσ => (simp only [go_sem, h1, h2, hx, e1, e2, w3, w9, ws, wt, wi, h9', hgs, hk, wq, hap, hol]; try rfl)))
        | (apply evd_step0; (case hr => (simp only [go_sem, h1, h2, hx, e1, e2, w3, w9, ws, wt, wi, h9', hgs, hk, wq, hap, hol]; try rfl)); (case hi => (simp only [go_sem, h1, h2, hx, e1, e2, w3, w9, ws, wt, wi, h9', hgs, hk, wq, hap, hol]; try rfl)); (case hc => (first | trivial | decide | (simp only [inB, sliceOk, appendOk, rowsOk]; omega) | (simp [inB, sliceOk, appendOk, rowsOk]; omega))); (case hσ => (simp only [go_sem, h1, h2, hx, e1, e2, w3, w9, ws, wt, wi, h9', hgs, hk, wq, hap, hol]; try rfl)))
        | (apply evd_step; (case hr => (simp only [go_sem, h1, h2, hx, e1, e2, w3, w9, ws, wt, wi, h9', hgs, hk, wq, hap, hol]; try rfl)); (case hi => (simp only [go_sem, h1, h2, hx, e1, e2, w3, w9, ws, wt, wi, h9', hgs, hk, wq, hap, hol]; try rfl)); (case hc => (first | trivial | decide | (simp only [inB, sliceOk, appendOk, rowsOk]; omega) | (simp [inB, sliceOk, appendOk, rowsOk]; omega))); (case hw => (intro g u; simp only [go_sem, h1, h2, hx, e1, e2, w3, w9, ws, wt, wi, h9', hgs, hk, wq, hap, hol]; try rfl)); (case hσ => (intro g u; simp only [go_sem, h1, h2, hx, e1, e2, w3, w9, ws, wt, wi, h9', hgs, hk, wq, hap, hol]; try rfl)); (case' hk => (intro g u; (try clear u); (try clear g))))
        | fail))); (case hB => kernel_rfl))
        | refine ev_step0 _ _ (by (simp only [go_sem, h1, h2, hx, e1, e2, w3, w9, ws, wt, wi, h9', hgs, hk, wq, hap, hol]; rfl)) (by (first | trivial | decide | (simp only [inB, sliceOk, appendOk, rowsOk]; omega) | (simp [inB, sliceOk, appendOk, rowsOk]; omega))) _ (by (simp only [go_sem, h1, h2, hx, e1, e2, w3, w9, ws, wt, wi, h9', hgs, hk, wq, hap, hol]; rfl)) ?_
        | (refine ev_step _ (by (simp only [go_sem, h1, h2, hx, e1, e2, w3, w9, ws, wt, wi, h9', hgs, hk, wq, hap, hol]; rfl)) (by (first | trivial | decide | (simp only [inB, sliceOk, appendOk, rowsOk]; omega) | (simp [inB, sliceOk, appendOk, rowsOk]; omega))) _ (fun g u => by (simp only [go_sem, h1, h2, hx, e1, e2, w3, w9, ws, wt, wi, h9', hgs, hk, wq, hap, hol]; rfl)) ?_; intro g u; (try clear u); (try clear g))
        | fail
      refine Exists.intro (i + 1, u, v2) ⟨⟨by show i + 1 ≤ 12; omega, by show i + 1 ≤ b.length; omega⟩, by show 12 - (i + 1) < 12 - i; omega, ?_⟩
      simp only [hS, hset2, List.map_append, List.map_cons, List.map_nil]
      refine Wk.mk ?_ ?_
      all_goals (repeat' first | exact trivial | exact LeA.refl _ | exact LeA.any _ | exact LeO.refl _ | exact LeO.no _ | exact LeA.nil _ | (refine LeA.i ?_; (first | rfl | (push_cast; rfl) | (rw [wrap_id (by omega)]; push_cast; omega) | (simp [wrap_id]; omega))) | refine ⟨?_, ?_⟩)
  by_cases hlb : i < b.length
  · have h1 : decide ((i : Int) < (b.length : Int)) = true := by simp; omega
    have h2 : decide ((i : Int) < 12) = false := by simp; omega
    repeat' first
      | refine awp_seq ?_
      | refine awp_block ?_
      | refine awp_skip ?_
      | (refine reg _ (by (simp only [List.map_cons, List.map_nil]; rfl)) rfl ?_; intro K hK)
      | (refine awp_cond _ (by rfl) ?_ ?_ <;> (intro hb; first | (cases hb; done) | (have ht : true = true := hb; clear ht hb) | (have ht : false = false := hb; clear ht hb) | (simp only [hb]) | skip))
      | (refine awp_exit ?_; simp only [thenA, blockA, reduceIte, RetQ, Nat.reduceEqDiff])
      | (refine awp_ret ?_; simp only [thenA, blockA, RetQ])
      | (refine ev_nil (hK _ ?_); clear hK K)
      | refine ev_guardU _ (by (simp only [go_sem, h1, h2]; rfl)) (by (simp only [go_sem, h1, h2]; rfl)) _ (by (simp only [go_sem, h1, h2]; rfl)) ?_
      | (refine ev_guardT _ _ (by (simp only [go_sem, h1, h2]; rfl)) (by (simp only [go_sem, h1, h2]; rfl)) ?_ ?_ <;> (intro hb; first | (cases hb; done) | (have ht : true = true := hb; clear ht hb) | (have ht : false = false := hb; clear ht hb) | (simp only [hb]) | skip))
      | (refine ev_guardF _ _ (by (simp only [go_sem, h1, h2]; rfl)) (by (simp only [go_sem, h1, h2]; rfl)) ?_ ?_ <;> (intro hb; first | (cases hb; done) | (have ht : true = true := hb; clear ht hb) | (have ht : false = false := hb; clear ht hb) | (simp only [hb]) | skip))
      | refine ev_step0 _ _ (by (simp only [go_sem, h1, h2]; rfl)) (by (first | trivial | decide | (simp only [inB, sliceOk, appendOk, rowsOk]; omega) | (simp [inB, sliceOk, appendOk, rowsOk]; omega))) _ (by (simp only [go_sem, h1, h2]; rfl)) ?_
      | (refine ev_step _ (by (simp only [go_sem, h1, h2]; rfl)) (by (first | trivial | decide | (simp only [inB, sliceOk, appendOk, rowsOk]; omega) | (simp [inB, sliceOk, appendOk, rowsOk]; omega))) _ (fun g u => by (simp only [go_sem, h1, h2]; rfl)) ?_; intro g u; (try clear u); (try clear g))
      | fail
    all_goals (refine resR_one T_ok rfl _ (by (simp only [go_sem, resA]; rfl)) (by first | trivial | (simp only [go_sem, resA])) (by first | trivial | (simp only [go_sem])) ?_; simp only [go_sem])
    exact LeA.s (by rw [hdrI_end b hlt hi]; rfl)
  · have h1 : decide ((i : Int) < (b.length : Int)) = false := by simp; omega
    repeat' first
      | refine awp_seq ?_
      | refine awp_block ?_
      | refine awp_skip ?_
      | (refine reg _ (by (simp only [List.map_cons, List.map_nil]; rfl)) rfl ?_; intro K hK)
      | (refine awp_cond _ (by rfl) ?_ ?_ <;> (intro hb; first | (cases hb; done) | (have ht : true = true := hb; clear ht hb) | (have ht : false = false := hb; clear ht hb) | (simp only [hb]) | skip))
      | (refine awp_exit ?_; simp only [thenA, blockA, reduceIte, RetQ, Nat.reduceEqDiff])
      | (refine awp_ret ?_; simp only [thenA, blockA, RetQ])
      | (refine ev_nil (hK _ ?_); clear hK K)
      | refine ev_guardU _ (by (simp only [go_sem, h1]; rfl)) (by (simp only [go_sem, h1]; rfl)) _ (by (simp only [go_sem, h1]; rfl)) ?_
      | (refine ev_guardT _ _ (by (simp only [go_sem, h1]; rfl)) (by (simp only [go_sem, h1]; rfl)) ?_ ?_ <;> (intro hb; first | (cases hb; done) | (have ht : true = true := hb; clear ht hb) | (have ht : false = false := hb; clear ht hb) | (simp only [hb]) | skip))
      | (refine ev_guardF _ _ (by (simp only [go_sem, h1]; rfl)) (by (simp only [go_sem, h1]; rfl)) ?_ ?_ <;> (intro hb; first | (cases hb; done) | (have ht : true = true := hb; clear ht hb) | (have ht : false = false := hb; clear ht hb) | (simp only [hb]) | skip))
      | refine ev_step0 _ _ (by (simp only [go_sem, h1]; rfl)) (by (first | trivial | decide | (simp only [inB, sliceOk, appendOk, rowsOk]; omega) | (simp [inB, sliceOk, appendOk, rowsOk]; omega))) _ (by (simp only [go_sem, h1]; rfl)) ?_
      | (refine ev_step _ (by (simp only [go_sem, h1]; rfl)) (by (first | trivial | decide | (simp only [inB, sliceOk, appendOk, rowsOk]; omega) | (simp [inB, sliceOk, appendOk, rowsOk]; omega))) _ (fun g u => by (simp only [go_sem, h1]; rfl)) ?_; intro g u; (try clear u); (try clear g))
      | fail
    all_goals (refine resR_one T_ok rfl _ (by (simp only [go_sem, resA]; rfl)) (by first | trivial | (simp only [go_sem, resA])) (by first | trivial | (simp only [go_sem])) ?_; simp only [go_sem])
    exact LeA.s (by rw [hdrI_end b hlt hi]; rfl)
end Go.Proofs.Ytalbfikfbejnfaa.A

/- Made: the changes of a history. -/
set_option linter.unusedVariables false
set_option linter.unusedSimpArgs false
namespace Go.Proofs.Ytalbfikfbejnfaa.A
open Go.RowKit
attribute [local go_sem] Nat.reduceAdd Nat.reduceSub Nat.reduceMul Nat.reduceLT Nat.reduceLeDiff Nat.reduceEqDiff Nat.reduceBEq reduceIte reduceCtorEq e_step_none e_slotU e_slotB e_move e_assign e_pick e_unOp e_binOp e_alloc e_box e_build e_buildSlice e_load e_store e_fieldAddr e_field e_indexAddr e_index e_slice e_makeSlice e_makeFunc e_convert e_extract e_nilCheck e_len e_append e_max e_min e_call e_callV e_clo e_ev_tmp e_ev_int e_ev_bool e_ev_string e_ev_slice e_ev_nilFunc e_ev_nilIface e_ev_pointer e_ev_agg e_ev_func e_pickT e_pickF e_not e_neg e_add e_sub e_mul e_quo e_rem e_eql e_neq e_lss e_leq e_gtr e_geq e_beq e_bne e_sadd e_seql e_sneq e_b2_d e_b2_nil e_b2_nnil e_b2_agg e_lits_nil e_lits_cons e_litC e_eqR e_eqO_e e_eqO_n e_eqV4 e_eqV3 e_eqV2 e_eqV1 e_eqFs_nil e_eqFs_cons e_and2 e_eq1 e_eqL_i e_eqL_s e_eqL_b e_allocR e_boxR e_box_agg e_box_d e_box_own e_box_clo e_one_nil e_one_d e_one_own e_one_clo e_one_ptr e_cells_agg e_cells_d e_cells_own e_cells_clo e_cells_ptr e_ob_own e_ob_ptr e_ob_elo e_ob_d e_ob_el e_ob_agg e_load_box e_load_fzb e_load_el e_load_elo e_store_box e_storeB e_store_elo e_store_elo_agg e_storeE e_fa_ptr e_fa_el e_fa_elo e_faR e_fd e_fdR e_ia_d e_ia_row e_ia_fz e_ia_ptr e_ia_el e_ix_s e_ix_a e_len_s e_len_nil e_len_d e_len_row e_len_fz e_conv_i e_conv_s e_extr e_maxR e_minR e_nil_ptr e_nil_el e_nil_elo e_rows_nil e_rows_d e_rows_row e_rows_fz e_rok_nil e_rok_d e_rok_row e_rok_fz e_app_row e_appR e_app_nil e_appN e_make e_bnd_none e_bnd_some e_optmap_none e_optmap_some e_slR e_slRe e_sl_s e_sl_d e_sl_nil e_sl_row e_sl_fz e_fill_nil e_fill_cons e_fill1 e_placeS e_plS e_placeE e_buildO e_build1 e_build2 e_build3 e_bindD e_bs e_bsR e_allD_nil e_allD_cons e_allD1 e_chunk0 e_chunkS e_clP_nil e_clP_cons e_cl_d e_cl_any e_cl_el e_cl_agg e_cl_tup e_cl_clo e_cl_own e_clOwn_row e_clOwn_fz e_cl_ptr e_clPtr_box e_clBox e_clPtr_fzb e_clL_nil e_clL_cons e_ok_d e_ok_any e_ok_el e_ok_agg e_ok_tup e_ok_clo e_ok_own e_okOwn_row e_okOwn_fz e_ok_ptr e_okPtr_box e_okPtr_fzb e_okL_nil e_okL_cons e_ids_d e_ids_any e_ids_el e_ids_own e_ids_ptr e_ids_agg e_ids_tup e_ids_clo e_idsL_nil e_idsL_cons e_frz_nil e_frz_cons e_frz_row e_frz_fz e_frz_fzb e_frz_box e_frzB e_flat_lit e_flat_sl e_flat_agg e_flat_tup e_flat_any e_flat_clo e_flatL_nil e_flatL_cons e_objD e_setMany e_takeA e_zerosA e_gdL e_idsG e_idsOp e_callV' e_callF' e_o_move e_o_assign e_o_pick e_o_unOp e_o_binOp e_o_alloc e_o_box e_o_build e_o_buildSlice e_o_load e_o_store e_o_fieldAddr e_o_field e_o_indexAddr e_o_index e_o_slice0 e_o_slice1 e_o_slice2 e_o_slice3 e_o_makeSlice e_o_makeFunc e_o_convert e_o_extract e_o_nilCheck e_o_bcall e_o_vcall litI litB litS List.map_cons List.map_nil List.getD_cons_zero List.getD_cons_succ List.getD_nil List.getElem?_cons_zero List.getElem?_cons_succ List.getElem?_nil Option.getD_some Option.getD_none Option.map_some Option.map_none List.length_cons List.length_nil List.all_cons List.all_nil Bool.and_true Bool.true_and and_true true_and and_self
attribute [local go_sem] List.take_zero List.take_succ_cons List.drop_zero List.drop_succ_cons List.nil_append List.cons_append List.append_nil List.replicate_succ List.replicate_zero List.flatten_cons List.flatten_nil Nat.zero_add Nat.add_zero Nat.mul_one Nat.zero_mul Nat.one_mul Nat.mul_zero List.set_cons_zero List.set_cons_succ List.foldl_cons List.foldl_nil appendOk rowsOk inB sliceOk cutRows mtake mdrop List.length_append List.length_take List.length_drop if_true if_false or_false or_true true_or Bool.not_true Bool.not_false Bool.false_eq_true List.length_map Int.toNat_natCast Int.toNat_zero Int.toNat_one eq_self St.after St.put applyEff R0 T1 T2 T3 T4 T5 T6 T7 T8 T9 T10 T11 T12 T13 T14 T15 T16 T17 T18 T19 T20 T21 T22 T23 T24 T25 T26 T27 T28 T29 T30 T31 T32 T33 T34 T35 T36 T37 T38 T39 T40 T41 T42 T43 T44 T45 T46 T47 T48 T49 T50 T51 T52 T53 T54 T55 T56 T57 T58 T59 T60 T61 T62 T63 T64 T65 T66 T67 T68 T69 T70 T71 T72 T73 T74 T75 T76 T77 T78 T79 T80 T81 T82 T83 T84 T85 T86 T87 T88 T89 T90 T91 T92 T93 T94 T95 T96 T97 T98 T99 T100 T101 T102 T103 T105 T106 T107 T108 T109 T110 T111 T112 T113 T114 T117 T118 T119 T120 T121 T122 T123 T124 T125 T126 T127 T130 T131 T132 T133 T134 ti1 ti2 ti3 ti4 ti5 ti6 ti7 ti8 ti9 ti10 ti11 ti12 ti13 ti14 ti15 ti16 ti17 ti18 ti19 ti20 ti21 ti22 ti23 ti24 ti25 ti26 ti27 ti28 ti29 ti30 ti31 ti32 ti33 ti34 ti35 ti36 ti37 ti38 ti39 ti40 ti41 ti42 ti43 ti44 ti45 ti46 ti47 ti48 ti49 ti50 ti51 ti52 ti53 ti54 ti55 ti56 ti57 ti58 ti59 ti60 ti61 ti62 ti63 ti64 ti65 ti66 ti67 ti68 ti69 ti70 ti71 ti72 ti73 ti74 ti75 ti76 ti77 ti78 ti79 ti80 ti81 ti82 ti83 ti84 ti85 ti86 ti87 ti88 ti89 ti90 ti91 ti92 ti93 ti94 ti95 ti96 ti97 ti98 ti99 ti100 ti101 ti102 ti103 ti105 ti106 ti107 ti108 ti109 ti110 ti111 ti112 ti113 ti114 ti117 ti118 ti119 ti120 ti121 ti122 ti123 ti124 ti125 ti126 ti127 ti130 ti131 ti132 ti133 ti134
attribute [local irreducible] AWp evOps evD
/-- The number for the commit k. -/
def numB (b : List Int) (k : Nat) : Int := if b.length = 0 then 0 else b.getD (k % b.length) 0
def mkC (l : List Cm) (b : List Int) (k : Nat) : List Ch :=
  let c := l.getD k ((0, 0), [])
  if (numB b k).tmod 7 < 6 then [(c.1, ownL c.2 c.1, decide ((numB b k).tmod 7 < 4))] else []
def madeI (l : List Cm) (b : List Int) (i : Nat) : List Ch := ((List.range i).map (mkC l b)).flatten
/-- The changes of a history. -/
def madeL (l : List Cm) (b : List Int) : List Ch := madeI l b l.length
theorem madeI_succ (l : List Cm) (b : List Int) (i : Nat) : madeI l b (i + 1) = madeI l b i ++ mkC l b i := by
  simp [madeI, List.range_succ]
theorem madeI_len (l : List Cm) (b : List Int) : ∀ i, (madeI l b i).length ≤ i
  | 0 => by simp [madeI]
  | i + 1 => by
    rw [madeI_succ, List.length_append]
    have := madeI_len l b i
    have h : (mkC l b i).length ≤ 1 := by simp only [mkC]; split <;> simp
    omega
set_option maxHeartbeats 4000000 in
theorem f11_spec (l : List Cm) (b : List Int) (hb : ∀ x ∈ b, 0 ≤ x ∧ x < 256) (hb0 : l.length ≤ 1000) (hl : ∀ c ∈ l, (0 ≤ c.1.1 ∧ c.1.1 < 3) ∧ c.2.length = 6) : Spec Try.prog 11 [.d (cms l), .d (bytesD b)] (.d (chs (madeL l b))) := by
  refine spec_of_awp (fn := Try.f11) Try.func11 (by kernel_rfl) rfl ?_
  intro w0 C0
  simp only [Try.ntmps11, litI, litB, litS, List.length_cons, List.length_nil, Nat.reduceAdd, Nat.reduceSub, List.replicate_succ, List.replicate_zero, List.cons_append, List.nil_append]
  refine awp_len 1 rfl fun hbl => ?_
  simp only [List.length_map] at hbl
  repeat' first
    | refine awp_seq ?_
    | refine awp_block ?_
    | refine awp_skip ?_
    | (refine reg _ (by (simp only [List.map_cons, List.map_nil]; rfl)) rfl ?_; intro K hK)
    | (refine awp_cond _ (by rfl) ?_ ?_ <;> (intro hb; first | (cases hb; done) | (have ht : true = true := hb; clear ht hb) | (have ht : false = false := hb; clear ht hb) | (simp only [hb]) | skip))
    | (refine awp_exit ?_; simp only [thenA, blockA, reduceIte, RetQ, Nat.reduceEqDiff])
    | (refine awp_ret ?_; simp only [thenA, blockA, RetQ])
    | (refine ev_nil (hK _ ?_); clear hK K)
    | refine ev_step0 _ _ (by (simp only [go_sem]; rfl)) (by (first | trivial | decide | (simp only [inB, sliceOk, appendOk, rowsOk]; omega) | (simp [inB, sliceOk, appendOk, rowsOk]; omega))) _ (by (simp only [go_sem]; rfl)) ?_
    | (refine ev_step _ (by (simp only [go_sem]; rfl)) (by (first | trivial | decide | (simp only [inB, sliceOk, appendOk, rowsOk]; omega) | (simp [inB, sliceOk, appendOk, rowsOk]; omega))) _ (fun g u => by (simp only [go_sem]; rfl)) ?_; intro g u; (try clear u); (try clear g))
    | fail
  refine awp_loopI (fun j : Nat × Value => j.1 ≤ l.length) (fun j => l.length - j.1) (fun j => ⟨[.d (cms l), .d (bytesD b), .any, .any, .d (.lit (.slice none 0 0)), .own 8 j.2, litI .i64 j.1, .any, .any, .any, .any, .any, .any, .any, .any, .any, .any, .any, .any, .any, .any, .any, .any, .any, .any, .any, .any, .any, .any, .any, .any, .any, .any, .any, .any, .any, .any, .any, .any, .any, .any, .any, .any, .any, .any, .any, .any], [.no, .no, .no, .no, .no, .no, .no, .no, .row j.2 28 4 ((madeI l b j.1).map fun c => [.lit (.int .i64 c.1.1), .lit (.int .i64 c.1.2), ints c.2.1, .lit (.bool c.2.2)]), .no, .no, .no, .no, .no, .no, .no, .no, .no, .no, .no, .no, .no, .no, .no, .no, .no, .no, .no, .no, .no, .no, .no, .no, .no, .no, .no, .no, .no, .no, .no, .no, .no, .no, .no, .no, .no, .no]⟩) (0, u) (by simp) ?_ ?_
  · refine Wk.mk ?_ ?_
    all_goals (repeat' first | exact trivial | exact LeA.refl _ | exact LeA.any _ | exact LeO.refl _ | exact LeO.no _ | exact LeA.nil _ | (refine LeA.i ?_; (first | rfl | (push_cast; rfl) | (rw [wrap_id (by omega)]; push_cast; omega) | (simp [wrap_id]; omega))) | refine ⟨?_, ?_⟩)
  rintro ⟨i, v⟩ hi
  simp only [litI, litB] at hi ⊢
  by_cases hlt : i < l.length
  rotate_left
  have hdec : decide ((i : Int) < (l.length : Int)) = false := by simp; omega
  · have : i = l.length := by omega
    repeat' first
      | refine awp_seq ?_
      | refine awp_block ?_
      | refine awp_skip ?_
      | (refine reg _ (by (simp only [List.map_cons, List.map_nil]; rfl)) rfl ?_; intro K hK)
      | (refine awp_cond _ (by rfl) ?_ ?_ <;> (intro hb; first | (cases hb; done) | (have ht : true = true := hb; clear ht hb) | (have ht : false = false := hb; clear ht hb) | (simp only [hb]) | skip))
      | (refine awp_exit ?_; simp only [thenA, blockA, reduceIte, RetQ, Nat.reduceEqDiff])
      | (refine awp_ret ?_; simp only [thenA, blockA, RetQ])
      | (refine ev_nil (hK _ ?_); clear hK K)
      | refine ev_step0 _ _ (by (simp only [go_sem, hdec]; rfl)) (by (first | trivial | decide | (simp only [inB, sliceOk, appendOk, rowsOk]; omega) | (simp [inB, sliceOk, appendOk, rowsOk]; omega))) _ (by (simp only [go_sem, hdec]; rfl)) ?_
      | (refine ev_step _ (by (simp only [go_sem, hdec]; rfl)) (by (first | trivial | decide | (simp only [inB, sliceOk, appendOk, rowsOk]; omega) | (simp [inB, sliceOk, appendOk, rowsOk]; omega))) _ (fun g u => by (simp only [go_sem, hdec]; rfl)) ?_; intro g u; (try clear u); (try clear g))
      | fail
    all_goals (refine resR_one T_ok rfl _ (by (simp only [go_sem, resA]; rfl)) (by first | trivial | (simp only [go_sem, resA])) (by first | trivial | (simp only [go_sem])) ?_; simp only [go_sem])
    exact LeA.s (by rw [this]; rfl)
  have hdec : decide ((i : Int) < (l.length : Int)) = true := by simp; omega
  have hx := cms_at l hlt
  have hS := madeI_succ l b i
  have hlen := madeI_len l b i
  have hc := hl _ (getD_mem' hlt ((0, 0), []))
  simp only [mkC] at hS
  generalize l.getD i ((0, 0), []) = c at *
  generalize madeI l b i = o at *
  obtain ⟨n, past⟩ := c
  simp only at hc hS hx
  have h43 : Spec Try.prog 43 [.agg [litI .i64 n.1, litI .i64 n.2, .d (ints past), litI .i64 0, .d (.lit (.slice none 0 0))]] (.d (ints (ownL past n))) := f43_spec n past (by omega) (by omega)
  generalize ownL past n = pn at *
  by_cases hbz : b.length = 0
  · have hd : decide ((b.length : Int) > 0) = false := decide_eq_false (by omega)
    have hn : numB b i = 0 := by simp [numB, hbz]
    rw [hn] at hS
    have hS' : madeI l b (i + 1) = o ++ [(n, pn, true)] := hS
    repeat' first
      | refine awp_seq ?_
      | refine awp_block ?_
      | refine awp_skip ?_
      | (refine reg _ (by (simp only [List.map_cons, List.map_nil]; rfl)) rfl ?_; intro K hK)
      | (refine awp_cond _ (by rfl) ?_ ?_ <;> (intro hb; first | (cases hb; done) | (have ht : true = true := hb; clear ht hb) | (have ht : false = false := hb; clear ht hb) | (simp only [hb]) | skip))
      | (refine awp_exit ?_; simp only [thenA, blockA, reduceIte, RetQ, Nat.reduceEqDiff])
      | (refine awp_ret ?_; simp only [thenA, blockA, RetQ])
      | (refine ev_nil (hK _ ?_); clear hK K)
      | refine ev_call0 _ _ (by (simp only [go_sem, hdec, hx, hd]; rfl)) (by first | exact h43 ..) (by (simp only [go_sem, hdec, hx, hd])) _ (by (simp only [go_sem, hdec, hx, hd]; rfl)) ?_
      | refine ev_callC _ _ _ _ (by (simp only [go_sem, hdec, hx, hd]; rfl)) (by (simp only [go_sem, hdec, hx, hd]; rfl)) (by first | exact h43 ..) (by (simp only [go_sem, hdec, hx, hd])) _ (by (simp only [go_sem, hdec, hx, hd]; rfl)) ?_
      | (apply regD; (case hd => (simp only [List.map_cons, List.map_nil]; rfl)); (case hok => rfl); (case' h => (intro K hK; (repeat' first
        | (apply evd_nil; refine (hK _ ?_); clear hK K)
        | (apply evd_call0; (case hi => (simp only [go_sem, hdec, hx, hd]; try rfl)); (case hys => (simp only [go_sem, hdec, hx, hd]; try rfl)); (case hs => first | exact h43 ..); (case hok => (simp only [go_sem, hdec, hx, hd])); (case hw => (simp only [go_sem, hdec, hx, hd]; try rfl)); (case hσ => (simp only [go_sem, hdec, hx, hd]; try rfl)))
        | (apply evd_callC; (case hf => (simp only [go_sem, hdec, hx, hd]; try rfl)); (case hi => (simp only [go_sem, hdec, hx, hd]; try rfl)); (case hys => (simp only [go_sem, hdec, hx, hd]; try rfl)); (case hs => first | exact h43 ..); (case hok => (simp only [go_sem, hdec, hx, hd])); (case hw => (simp only [go_sem, hdec, hx, hd]; try rfl)); (case hσ => (simp only [go_sem, hdec, hx, hd]; try rfl)))
        | (apply evd_step0; (case hr => (simp only [go_sem, hdec, hx, hd]; try rfl)); (case hi => (simp only [go_sem, hdec, hx, hd]; try rfl)); (case hc => (first | trivial | decide | (simp only [inB, sliceOk, appendOk, rowsOk]; omega) | (simp [inB, sliceOk, appendOk, rowsOk]; omega))); (case hσ => (simp only [go_sem, hdec, hx, hd]; try rfl)))
        | (apply evd_step; (case hr => (simp only [go_sem, hdec, hx, hd]; try rfl)); (case hi => (simp only [go_sem, hdec, hx, hd]; try rfl)); (case hc => (first | trivial | decide | (simp only [inB, sliceOk, appendOk, rowsOk]; omega) | (simp [inB, sliceOk, appendOk, rowsOk]; omega))); (case hw => (intro g u; simp only [go_sem, hdec, hx, hd]; try rfl)); (case hσ => (intro g u; simp only [go_sem, hdec, hx, hd]; try rfl)); (case' hk => (intro g u; (try clear u); (try clear g))))
        | fail))); (case hB => kernel_rfl))
      | refine ev_step0 _ _ (by (simp only [go_sem, hdec, hx, hd]; rfl)) (by (first | trivial | decide | (simp only [inB, sliceOk, appendOk, rowsOk]; omega) | (simp [inB, sliceOk, appendOk, rowsOk]; omega))) _ (by (simp only [go_sem, hdec, hx, hd]; rfl)) ?_
      | (refine ev_step _ (by (simp only [go_sem, hdec, hx, hd]; rfl)) (by (first | trivial | decide | (simp only [inB, sliceOk, appendOk, rowsOk]; omega) | (simp [inB, sliceOk, appendOk, rowsOk]; omega))) _ (fun g u => by (simp only [go_sem, hdec, hx, hd]; rfl)) ?_; intro g u; (try clear u); (try clear g))
      | fail
    refine Exists.intro (i + 1, u) ⟨by show i + 1 ≤ l.length; omega, by show l.length - (i + 1) < l.length - i; omega, ?_⟩
    simp only [hS', List.map_append, List.map_cons, List.map_nil]
    refine Wk.mk ?_ ?_
    all_goals (repeat' first | exact trivial | exact LeA.refl _ | exact LeA.any _ | exact LeO.refl _ | exact LeO.no _ | exact LeA.nil _ | (refine LeA.i ?_; (first | rfl | (push_cast; rfl) | (rw [wrap_id (by omega)]; push_cast; omega) | (simp [wrap_id]; omega))) | refine ⟨?_, ?_⟩)
  · have hd : decide ((b.length : Int) > 0) = true := decide_eq_true (by omega)
    have hbi : i % b.length < b.length := Nat.mod_lt _ (by omega)
    have hm : (i : Int).tmod (b.length : Int) = ((i % b.length : Nat) : Int) := by rw [Int.tmod_eq_emod_of_nonneg (by omega)]; rfl
    have hy := bytes_at b hbi
    have hyr := hb _ (getD_mem' hbi 0)
    have hn : numB b i = b.getD (i % b.length) 0 := by simp [numB, hbz]
    rw [hn] at hS
    generalize b.getD (i % b.length) 0 = y at *
    generalize i % b.length = bi at *
    have wy : IntKind.i64.wrap y = y := wrap_id (by omega)
    repeat' first
      | refine awp_seq ?_
      | refine awp_block ?_
      | refine awp_skip ?_
      | (refine reg _ (by (simp only [List.map_cons, List.map_nil]; rfl)) rfl ?_; intro K hK)
      | (refine awp_cond _ (by rfl) ?_ ?_ <;> (intro hb; first | (cases hb; done) | (have ht : true = true := hb; clear ht hb) | (have ht : false = false := hb; clear ht hb) | (simp only [hb]) | skip))
      | (refine awp_exit ?_; simp only [thenA, blockA, reduceIte, RetQ, Nat.reduceEqDiff])
      | (refine awp_ret ?_; simp only [thenA, blockA, RetQ])
      | (refine ev_nil (hK _ ?_); clear hK K)
      | refine ev_call0 _ _ (by (simp only [go_sem, hdec, hx, hd, hm, hy, wy]; rfl)) (by first | exact h43 ..) (by (simp only [go_sem, hdec, hx, hd, hm, hy, wy])) _ (by (simp only [go_sem, hdec, hx, hd, hm, hy, wy]; rfl)) ?_
      | refine ev_callC _ _ _ _ (by (simp only [go_sem, hdec, hx, hd, hm, hy, wy]; rfl)) (by (simp only [go_sem, hdec, hx, hd, hm, hy, wy]; rfl)) (by first | exact h43 ..) (by (simp only [go_sem, hdec, hx, hd, hm, hy, wy])) _ (by (simp only [go_sem, hdec, hx, hd, hm, hy, wy]; rfl)) ?_
      | (apply regD; (case hd => (simp only [List.map_cons, List.map_nil]; rfl)); (case hok => rfl); (case' h => (intro K hK; (repeat' first
        | (apply evd_nil; refine (hK _ ?_); clear hK K)
        | (apply evd_call0; (case hi => (simp only [go_sem, hdec, hx, hd, hm, hy, wy]; try rfl)); (case hys => (simp only [go_sem, hdec, hx, hd, hm, hy, wy]; try rfl)); (case hs => first | exact h43 ..); (case hok => (simp only [go_sem, hdec, hx, hd, hm, hy, wy])); (case hw => (simp only [go_sem, hdec, hx, hd, hm, hy, wy]; try rfl)); (case hσ => (simp only [go_sem, hdec, hx, hd, hm, hy, wy]; try rfl)))
        | (apply evd_callC; (case hf => (simp only [go_sem, hdec, hx, hd, hm, hy, wy]; try rfl)); (case hi => (simp only [go_sem, hdec, hx, hd, hm, hy, wy]; try rfl)); (case hys => (simp only [go_sem, hdec, hx, hd, hm, hy, wy]; try rfl)); (case hs => first | exact h43 ..); (case hok => (simp only [go_sem, hdec, hx, hd, hm, hy, wy])); (case hw => (simp only [go_sem, hdec, hx, hd, hm, hy, wy]; try rfl)); (case hσ => (simp only [go_sem, hdec, hx, hd, hm, hy, wy]; try rfl)))
        | (apply evd_step0; (case hr => (simp only [go_sem, hdec, hx, hd, hm, hy, wy]; try rfl)); (case hi => (simp only [go_sem, hdec, hx, hd, hm, hy, wy]; try rfl)); (case hc => (first | trivial | decide | (simp only [inB, sliceOk, appendOk, rowsOk]; omega) | (simp [inB, sliceOk, appendOk, rowsOk]; omega))); (case hσ => (simp only [go_sem, hdec, hx, hd, hm, hy, wy]; try rfl)))
        | (apply evd_step; (case hr => (simp only [go_sem, hdec, hx, hd, hm, hy, wy]; try rfl)); (case hi => (simp only [go_sem, hdec, hx, hd, hm, hy, wy]; try rfl)); (case hc => (first | trivial | decide | (simp only [inB, sliceOk, appendOk, rowsOk]; omega) | (simp [inB, sliceOk, appendOk, rowsOk]; omega))); (case hw => (intro g u; simp only [go_sem, hdec, hx, hd, hm, hy, wy]; try rfl)); (case hσ => (intro g u; simp only [go_sem, hdec, hx, hd, hm, hy, wy]; try rfl)); (case' hk => (intro g u; (try clear u); (try clear g))))
        | fail))); (case hB => kernel_rfl))
      | refine ev_step0 _ _ (by (simp only [go_sem, hdec, hx, hd, hm, hy, wy]; rfl)) (by (first | trivial | decide | (simp only [inB, sliceOk, appendOk, rowsOk]; omega) | (simp [inB, sliceOk, appendOk, rowsOk]; omega))) _ (by (simp only [go_sem, hdec, hx, hd, hm, hy, wy]; rfl)) ?_
      | (refine ev_step _ (by (simp only [go_sem, hdec, hx, hd, hm, hy, wy]; rfl)) (by (first | trivial | decide | (simp only [inB, sliceOk, appendOk, rowsOk]; omega) | (simp [inB, sliceOk, appendOk, rowsOk]; omega))) _ (fun g u => by (simp only [go_sem, hdec, hx, hd, hm, hy, wy]; rfl)) ?_; intro g u; (try clear u); (try clear g))
      | fail
    · have hS' : madeI l b (i + 1) = o ++ [(n, pn, decide (y.tmod 7 < 4))] := by rw [hS, if_pos (by simpa using hb)]
      refine Exists.intro (i + 1, u) ⟨by show i + 1 ≤ l.length; omega, by show l.length - (i + 1) < l.length - i; omega, ?_⟩
      simp only [hS', List.map_append, List.map_cons, List.map_nil]
      refine Wk.mk ?_ ?_
      all_goals (repeat' first | exact trivial | exact LeA.refl _ | exact LeA.any _ | exact LeO.refl _ | exact LeO.no _ | exact LeA.nil _ | (refine LeA.i ?_; (first | rfl | (push_cast; rfl) | (rw [wrap_id (by omega)]; push_cast; omega) | (simp [wrap_id]; omega))) | refine ⟨?_, ?_⟩)
    · have hS' : madeI l b (i + 1) = o := by rw [hS, if_neg (by simpa using hb)]; simp
      refine Exists.intro (i + 1, v) ⟨by show i + 1 ≤ l.length; omega, by show l.length - (i + 1) < l.length - i; omega, ?_⟩
      simp only [hS']
      refine Wk.mk ?_ ?_
      all_goals (repeat' first | exact trivial | exact LeA.refl _ | exact LeA.any _ | exact LeO.refl _ | exact LeO.no _ | exact LeA.nil _ | (refine LeA.i ?_; (first | rfl | (push_cast; rfl) | (rw [wrap_id (by omega)]; push_cast; omega) | (simp [wrap_id]; omega))) | refine ⟨?_, ?_⟩)
end Go.Proofs.Ytalbfikfbejnfaa.A

/- Changes that commute; the changes of a history: plain law. -/
set_option linter.unusedVariables false
set_option linter.unusedSimpArgs false
namespace Go.Proofs.Ytalbfikfbejnfaa.A
theorem sorted_eq : ∀ {l m : List Nm}, l.Pairwise lt → m.Pairwise lt → (∀ x, x ∈ l ↔ x ∈ m) → l = m
  | [], [], _, _, _ => rfl
  | [], y :: m, _, _, h => absurd ((h y).2 (.head _)) (by simp)
  | x :: l, [], _, _, h => absurd ((h x).1 (.head _)) (by simp)
  | x :: l, y :: m, hl, hm, h => by
    rw [List.pairwise_cons] at hl hm
    have hxy : x = y := by
      rcases List.mem_cons.1 ((h x).1 (.head _)) with e | hx
      · exact e
      · rcases List.mem_cons.1 ((h y).2 (.head _)) with e | hy
        · exact e.symm
        · exact absurd (lt_trans (hl.1 y hy) (hm.1 x hx)) (lt_irrefl x)
    subst hxy
    rw [sorted_eq hl.2 hm.2 fun z => ?_]
    constructor
    · intro hz
      rcases List.mem_cons.1 ((h z).1 (.tail _ hz)) with e | h'
      · subst e; exact absurd (hl.1 z hz) (lt_irrefl z)
      · exact h'
    · intro hz
      rcases List.mem_cons.1 ((h z).2 (.tail _ hz)) with e | h'
      · subst e; exact absurd (hm.1 z hz) (lt_irrefl z)
      · exact h'
theorem mem_apply {l : List Nm} {c : Ch} {x : Nm} : x ∈ applyO l c ↔ if c.2.2 = true then x = c.1 ∨ x ∈ l else x ∈ l ∧ inCut c.2.1 x.1 x.2 = false := by
  unfold applyO
  split
  · rw [uniL_ins, mem_ins]
  · rw [keepN, List.mem_filter]
    simp
theorem sorted_apply {l : List Nm} (h : sortedN (-1, 0) l = true) {c : Ch} (hn : named c.1.1 c.1.2 = true) : sortedN (-1, 0) (applyO l c) = true := by
  unfold applyO
  split
  · exact sorted_add h hn
  · exact sorted_keep h _
theorem apply_comm {l : List Nm} (h : sortedN (-1, 0) l = true) {c d : Ch} (hc : named c.1.1 c.1.2 = true) (hd : named d.1.1 d.1.2 = true)
    (h1 : inCut c.2.1 d.1.1 d.1.2 = false) (h2 : inCut d.2.1 c.1.1 c.1.2 = false) : applyO (applyO l c) d = applyO (applyO l d) c := by
  refine sorted_eq ((sorted0_iff _).1 (sorted_apply (sorted_apply h hc) hd)).2 ((sorted0_iff _).1 (sorted_apply (sorted_apply h hd) hc)).2 fun x => ?_
  simp only [mem_apply]
  cases c.2.2 <;> cases d.2.2 <;> simp only [if_true, if_false, Bool.false_eq_true]
  · constructor <;> (rintro ⟨⟨p, q⟩, r⟩; exact ⟨⟨p, r⟩, q⟩)
  · constructor
    · rintro (rfl | ⟨p, q⟩)
      · exact ⟨.inl rfl, h1⟩
      · exact ⟨.inr p, q⟩
    · rintro ⟨rfl | p, q⟩
      · exact .inl rfl
      · exact .inr ⟨p, q⟩
  · constructor
    · rintro ⟨rfl | p, q⟩
      · exact .inl rfl
      · exact .inr ⟨p, q⟩
    · rintro (rfl | ⟨p, q⟩)
      · exact ⟨.inl rfl, h2⟩
      · exact ⟨.inr p, q⟩
  · constructor
    · rintro (h | h | h)
      · exact .inr (.inl h)
      · exact .inl h
      · exact .inr (.inr h)
    · rintro (h | h | h)
      · exact .inr (.inl h)
      · exact .inl h
      · exact .inr (.inr h)
/-- What is known of a change of a history. -/
structure ChOk (c : Ch) : Prop where
  st : 0 ≤ c.1.1 ∧ c.1.1 < 3
  sq : 1 ≤ c.1.2 ∧ c.1.2 ≤ 12
  p : c.2.1.length = 6
theorem ChOk.named {c : Ch} (h : ChOk c) : named c.1.1 c.1.2 = true := by
  have h1 := h.st; have h2 := h.sq
  simp only [A.named, Bool.and_eq_true, decide_eq_true_eq]
  omega
theorem made_mem {l : List Cm} {b : List Int} {c : Ch} (h : c ∈ madeL l b) : ∃ k, k < l.length ∧ c.1 = (l.getD k ((0, 0), [])).1 ∧ c.2.1 = ownL (l.getD k ((0, 0), [])).2 (l.getD k ((0, 0), [])).1 := by
  simp only [madeL, madeI, List.mem_flatten, List.mem_map, List.mem_range] at h
  obtain ⟨_, ⟨k, hk, rfl⟩, hc⟩ := h
  simp only [mkC] at hc
  split at hc
  · rw [List.mem_singleton] at hc
    subst hc
    exact ⟨k, hk, rfl, rfl⟩
  · simp at hc
theorem made_ok {h b : List Int} (hh : ∀ x ∈ h, 0 ≤ x ∧ x < 256) : (madeL (hdrL h) b).length ≤ 12 ∧ ∀ c ∈ madeL (hdrL h) b, ChOk c := by
  obtain ⟨h1, h2⟩ := hdrL_ok hh
  refine ⟨Nat.le_trans (madeI_len _ _ _) h1, fun c hc => ?_⟩
  obtain ⟨k, hk, e1, e2⟩ := made_mem hc
  obtain ⟨h3, h4, h5⟩ := h2 _ (getD_mem' hk ((0, 0), []))
  exact ⟨e1 ▸ h3, e1 ▸ h4, by rw [e2, ownL, List.length_set]; exact h5.1⟩
end Go.Proofs.Ytalbfikfbejnfaa.A

/- The reference's Fold and Join. -/
set_option linter.unusedVariables false
set_option linter.unusedSimpArgs false
namespace Go.Proofs.Ytalbfikfbejnfaa.A
open Go.RowKit
attribute [local go_sem] Nat.reduceAdd Nat.reduceSub Nat.reduceMul Nat.reduceLT Nat.reduceLeDiff Nat.reduceEqDiff Nat.reduceBEq reduceIte reduceCtorEq e_step_none e_slotU e_slotB e_move e_assign e_pick e_unOp e_binOp e_alloc e_box e_build e_buildSlice e_load e_store e_fieldAddr e_field e_indexAddr e_index e_slice e_makeSlice e_makeFunc e_convert e_extract e_nilCheck e_len e_append e_max e_min e_call e_callV e_clo e_ev_tmp e_ev_int e_ev_bool e_ev_string e_ev_slice e_ev_nilFunc e_ev_nilIface e_ev_pointer e_ev_agg e_ev_func e_pickT e_pickF e_not e_neg e_add e_sub e_mul e_quo e_rem e_eql e_neq e_lss e_leq e_gtr e_geq e_beq e_bne e_sadd e_seql e_sneq e_b2_d e_b2_nil e_b2_nnil e_b2_agg e_lits_nil e_lits_cons e_litC e_eqR e_eqO_e e_eqO_n e_eqV4 e_eqV3 e_eqV2 e_eqV1 e_eqFs_nil e_eqFs_cons e_and2 e_eq1 e_eqL_i e_eqL_s e_eqL_b e_allocR e_boxR e_box_agg e_box_d e_box_own e_box_clo e_one_nil e_one_d e_one_own e_one_clo e_one_ptr e_cells_agg e_cells_d e_cells_own e_cells_clo e_cells_ptr e_ob_own e_ob_ptr e_ob_elo e_ob_d e_ob_el e_ob_agg e_load_box e_load_fzb e_load_el e_load_elo e_store_box e_storeB e_store_elo e_store_elo_agg e_storeE e_fa_ptr e_fa_el e_fa_elo e_faR e_fd e_fdR e_ia_d e_ia_row e_ia_fz e_ia_ptr e_ia_el e_ix_s e_ix_a e_len_s e_len_nil e_len_d e_len_row e_len_fz e_conv_i e_conv_s e_extr e_maxR e_minR e_nil_ptr e_nil_el e_nil_elo e_rows_nil e_rows_d e_rows_row e_rows_fz e_rok_nil e_rok_d e_rok_row e_rok_fz e_app_row e_appR e_app_nil e_appN e_make e_bnd_none e_bnd_some e_optmap_none e_optmap_some e_slR e_slRe e_sl_s e_sl_d e_sl_nil e_sl_row e_sl_fz e_fill_nil e_fill_cons e_fill1 e_placeS e_plS e_placeE e_buildO e_build1 e_build2 e_build3 e_bindD e_bs e_bsR e_allD_nil e_allD_cons e_allD1 e_chunk0 e_chunkS e_clP_nil e_clP_cons e_cl_d e_cl_any e_cl_el e_cl_agg e_cl_tup e_cl_clo e_cl_own e_clOwn_row e_clOwn_fz e_cl_ptr e_clPtr_box e_clBox e_clPtr_fzb e_clL_nil e_clL_cons e_ok_d e_ok_any e_ok_el e_ok_agg e_ok_tup e_ok_clo e_ok_own e_okOwn_row e_okOwn_fz e_ok_ptr e_okPtr_box e_okPtr_fzb e_okL_nil e_okL_cons e_ids_d e_ids_any e_ids_el e_ids_own e_ids_ptr e_ids_agg e_ids_tup e_ids_clo e_idsL_nil e_idsL_cons e_frz_nil e_frz_cons e_frz_row e_frz_fz e_frz_fzb e_frz_box e_frzB e_flat_lit e_flat_sl e_flat_agg e_flat_tup e_flat_any e_flat_clo e_flatL_nil e_flatL_cons e_objD e_setMany e_takeA e_zerosA e_gdL e_idsG e_idsOp e_callV' e_callF' e_o_move e_o_assign e_o_pick e_o_unOp e_o_binOp e_o_alloc e_o_box e_o_build e_o_buildSlice e_o_load e_o_store e_o_fieldAddr e_o_field e_o_indexAddr e_o_index e_o_slice0 e_o_slice1 e_o_slice2 e_o_slice3 e_o_makeSlice e_o_makeFunc e_o_convert e_o_extract e_o_nilCheck e_o_bcall e_o_vcall litI litB litS List.map_cons List.map_nil List.getD_cons_zero List.getD_cons_succ List.getD_nil List.getElem?_cons_zero List.getElem?_cons_succ List.getElem?_nil Option.getD_some Option.getD_none Option.map_some Option.map_none List.length_cons List.length_nil List.all_cons List.all_nil Bool.and_true Bool.true_and and_true true_and and_self
attribute [local go_sem] List.take_zero List.take_succ_cons List.drop_zero List.drop_succ_cons List.nil_append List.cons_append List.append_nil List.replicate_succ List.replicate_zero List.flatten_cons List.flatten_nil Nat.zero_add Nat.add_zero Nat.mul_one Nat.zero_mul Nat.one_mul Nat.mul_zero List.set_cons_zero List.set_cons_succ List.foldl_cons List.foldl_nil appendOk rowsOk inB sliceOk cutRows mtake mdrop List.length_append List.length_take List.length_drop if_true if_false or_false or_true true_or Bool.not_true Bool.not_false Bool.false_eq_true List.length_map Int.toNat_natCast Int.toNat_zero Int.toNat_one eq_self St.after St.put applyEff R0 T1 T2 T3 T4 T5 T6 T7 T8 T9 T10 T11 T12 T13 T14 T15 T16 T17 T18 T19 T20 T21 T22 T23 T24 T25 T26 T27 T28 T29 T30 T31 T32 T33 T34 T35 T36 T37 T38 T39 T40 T41 T42 T43 T44 T45 T46 T47 T48 T49 T50 T51 T52 T53 T54 T55 T56 T57 T58 T59 T60 T61 T62 T63 T64 T65 T66 T67 T68 T69 T70 T71 T72 T73 T74 T75 T76 T77 T78 T79 T80 T81 T82 T83 T84 T85 T86 T87 T88 T89 T90 T91 T92 T93 T94 T95 T96 T97 T98 T99 T100 T101 T102 T103 T105 T106 T107 T108 T109 T110 T111 T112 T113 T114 T117 T118 T119 T120 T121 T122 T123 T124 T125 T126 T127 T130 T131 T132 T133 T134 ti1 ti2 ti3 ti4 ti5 ti6 ti7 ti8 ti9 ti10 ti11 ti12 ti13 ti14 ti15 ti16 ti17 ti18 ti19 ti20 ti21 ti22 ti23 ti24 ti25 ti26 ti27 ti28 ti29 ti30 ti31 ti32 ti33 ti34 ti35 ti36 ti37 ti38 ti39 ti40 ti41 ti42 ti43 ti44 ti45 ti46 ti47 ti48 ti49 ti50 ti51 ti52 ti53 ti54 ti55 ti56 ti57 ti58 ti59 ti60 ti61 ti62 ti63 ti64 ti65 ti66 ti67 ti68 ti69 ti70 ti71 ti72 ti73 ti74 ti75 ti76 ti77 ti78 ti79 ti80 ti81 ti82 ti83 ti84 ti85 ti86 ti87 ti88 ti89 ti90 ti91 ti92 ti93 ti94 ti95 ti96 ti97 ti98 ti99 ti100 ti101 ti102 ti103 ti105 ti106 ti107 ti108 ti109 ti110 ti111 ti112 ti113 ti114 ti117 ti118 ti119 ti120 ti121 ti122 ti123 ti124 ti125 ti126 ti127 ti130 ti131 ti132 ti133 ti134
attribute [local irreducible] AWp evOps evD
theorem addN_len (l : List Nm) (n : Nm) : (addN l n).length ≤ l.length + 1 := by
  unfold addN
  split
  · omega
  · simp only [List.length_append, List.length_cons, List.length_nil, List.length_take, List.length_drop]; omega
abbrev applyR (l : List Nm) (c : Ch) : List Nm := applyN l c.1 c.2.1 c.2.2
theorem applyR_len (l : List Nm) (c : Ch) : (applyR l c).length ≤ l.length + 1 := by
  unfold applyR applyN
  split
  · exact addN_len _ _
  · have := keepN_len c.2.1 l; omega
def foldR (l : List Ch) : List Nm := l.foldl applyR []
theorem foldR_snoc (l : List Ch) (c : Ch) : foldR (l ++ [c]) = applyR (foldR l) c := by simp [foldR]
theorem foldl_len {α β : Type} (f : List α → β → List α) (hf : ∀ t c, (f t c).length ≤ t.length + 1) : ∀ (l : List β) (t : List α), (l.foldl f t).length ≤ t.length + l.length
  | [], t => by simp
  | c :: l, t => by
    have h1 := foldl_len f hf l (f t c)
    have h2 := hf t c
    simp only [List.foldl_cons, List.length_cons]
    omega
theorem foldR_len (l : List Ch) : (foldR l).length ≤ l.length := by
  have h := foldl_len _ applyR_len l []
  simp only [List.length_nil, Nat.zero_add] at h
  exact h
theorem f15_spec (l : List Ch) (hb0 : l.length ≤ 16777215) : Spec Try.prog 15 [.d (chs l)] (.d (nms (foldR l))) := by
  refine spec_of_awp (fn := Try.f15) Try.func15 (by kernel_rfl) rfl ?_
  intro w0 C0
  simp only [Try.ntmps15, litI, litB, litS, List.length_cons, List.length_nil, Nat.reduceAdd, Nat.reduceSub, List.replicate_succ, List.replicate_zero, List.cons_append, List.nil_append]
  refine awp_len 0 rfl fun hl => ?_
  simp only [List.length_map] at hl
  repeat' first
    | refine awp_seq ?_
    | refine awp_block ?_
    | refine awp_skip ?_
    | (refine reg _ (by (simp only [List.map_cons, List.map_nil]; rfl)) rfl ?_; intro K hK)
    | (refine awp_cond _ (by rfl) ?_ ?_ <;> (intro hb; first | (cases hb; done) | (have ht : true = true := hb; clear ht hb) | (have ht : false = false := hb; clear ht hb) | (simp only [hb]) | skip))
    | (refine awp_exit ?_; simp only [thenA, blockA, reduceIte, RetQ, Nat.reduceEqDiff])
    | (refine awp_ret ?_; simp only [thenA, blockA, RetQ])
    | (refine ev_nil (hK _ ?_); clear hK K)
    | refine ev_step0 _ _ (by (simp only [go_sem]; rfl)) (by (first | trivial | decide | (simp only [inB, sliceOk, appendOk, rowsOk]; omega) | (simp [inB, sliceOk, appendOk, rowsOk]; omega))) _ (by (simp only [go_sem]; rfl)) ?_
    | (refine ev_step _ (by (simp only [go_sem]; rfl)) (by (first | trivial | decide | (simp only [inB, sliceOk, appendOk, rowsOk]; omega) | (simp [inB, sliceOk, appendOk, rowsOk]; omega))) _ (fun g u => by (simp only [go_sem]; rfl)) ?_; intro g u; (try clear u); (try clear g))
    | fail
  refine awp_loopI (fun i : Nat => i ≤ l.length) (fun i => l.length - i) (fun i => ⟨[.d (chs l), .any, .d (.lit (.slice none 0 0)), .d (nms (foldR (l.take i))), litI .i64 i, .any, .any, .any, .any, .any, .any, .any, .any, .any, .any, .any, .any, .any, .any], [.no, .no, .no, .no, .no, .no, .no, .no, .no, .no, .no, .no, .no, .no, .no, .no, .no, .no, .no]⟩) 0 (by simp) ?_ ?_
  · refine Wk.trans (Wk.close (by simp [clOkL, clOk, objD])) ?_
    simp only [clL, cl, objD, frzEff, idsOfL, idsOf, applyEff, List.append_nil, List.nil_append, go_sem]
    refine Wk.mk ?_ ?_
    all_goals (repeat' first | exact trivial | exact LeA.refl _ | exact LeA.any _ | exact LeO.refl _ | exact LeO.no _ | exact LeA.nil _ | (refine LeA.i ?_; (first | rfl | (push_cast; rfl) | (rw [wrap_id (by omega)]; push_cast; omega) | (simp [wrap_id]; omega))) | refine ⟨?_, ?_⟩)
  intro i hi
  simp only [litI, litB] at hi ⊢
  by_cases hlt : i < l.length
  rotate_left
  have hdec : decide ((i : Int) < (l.length : Int)) = false := by simp; omega
  · repeat' first
      | refine awp_seq ?_
      | refine awp_block ?_
      | refine awp_skip ?_
      | (refine reg _ (by (simp only [List.map_cons, List.map_nil]; rfl)) rfl ?_; intro K hK)
      | (refine awp_cond _ (by rfl) ?_ ?_ <;> (intro hb; first | (cases hb; done) | (have ht : true = true := hb; clear ht hb) | (have ht : false = false := hb; clear ht hb) | (simp only [hb]) | skip))
      | (refine awp_exit ?_; simp only [thenA, blockA, reduceIte, RetQ, Nat.reduceEqDiff])
      | (refine awp_ret ?_; simp only [thenA, blockA, RetQ])
      | (refine ev_nil (hK _ ?_); clear hK K)
      | refine ev_step0 _ _ (by (simp only [go_sem, hdec]; rfl)) (by (first | trivial | decide | (simp only [inB, sliceOk, appendOk, rowsOk]; omega) | (simp [inB, sliceOk, appendOk, rowsOk]; omega))) _ (by (simp only [go_sem, hdec]; rfl)) ?_
      | (refine ev_step _ (by (simp only [go_sem, hdec]; rfl)) (by (first | trivial | decide | (simp only [inB, sliceOk, appendOk, rowsOk]; omega) | (simp [inB, sliceOk, appendOk, rowsOk]; omega))) _ (fun g u => by (simp only [go_sem, hdec]; rfl)) ?_; intro g u; (try clear u); (try clear g))
      | fail
    all_goals (refine resR_one T_ok rfl _ (by (simp only [go_sem, resA]; rfl)) (by first | trivial | (simp only [go_sem, resA])) (by first | trivial | (simp only [go_sem])) ?_; simp only [go_sem])
    refine LeA.s ?_
    rw [List.take_of_length_le (by omega)]
  have hdec : decide ((i : Int) < (l.length : Int)) = true := by simp; omega
  have hx := chs_at l hlt
  have hab1 : l.take (i + 1) = l.take i ++ [l.getD i ch0] := by rw [List.take_succ_eq_append_getElem hlt]; simp [List.getD_eq_getElem?_getD, hlt]
  have hlen := foldR_len (l.take i)
  rw [List.length_take] at hlen
  have hsn := foldR_snoc (l.take i) (l.getD i ch0)
  rw [← hab1] at hsn
  generalize l.getD i ch0 = x at *
  generalize foldR (l.take i) = tl at *
  have h25 := f25_spec tl x.1 x.2.1 x.2.2 (by omega)
  repeat' first
    | refine awp_seq ?_
    | refine awp_block ?_
    | refine awp_skip ?_
    | (refine reg _ (by (simp only [List.map_cons, List.map_nil]; rfl)) rfl ?_; intro K hK)
    | (refine awp_cond _ (by rfl) ?_ ?_ <;> (intro hb; first | (cases hb; done) | (have ht : true = true := hb; clear ht hb) | (have ht : false = false := hb; clear ht hb) | (simp only [hb]) | skip))
    | (refine awp_exit ?_; simp only [thenA, blockA, reduceIte, RetQ, Nat.reduceEqDiff])
    | (refine awp_ret ?_; simp only [thenA, blockA, RetQ])
    | (refine ev_nil (hK _ ?_); clear hK K)
    | refine ev_call0 _ _ (by (simp only [go_sem, hdec, hx]; rfl)) (by first | exact h25 ..) (by (simp only [go_sem, hdec, hx])) _ (by (simp only [go_sem, hdec, hx]; rfl)) ?_
    | refine ev_callC _ _ _ _ (by (simp only [go_sem, hdec, hx]; rfl)) (by (simp only [go_sem, hdec, hx]; rfl)) (by first | exact h25 ..) (by (simp only [go_sem, hdec, hx])) _ (by (simp only [go_sem, hdec, hx]; rfl)) ?_
    | refine ev_step0 _ _ (by (simp only [go_sem, hdec, hx]; rfl)) (by (first | trivial | decide | (simp only [inB, sliceOk, appendOk, rowsOk]; omega) | (simp [inB, sliceOk, appendOk, rowsOk]; omega))) _ (by (simp only [go_sem, hdec, hx]; rfl)) ?_
    | (refine ev_step _ (by (simp only [go_sem, hdec, hx]; rfl)) (by (first | trivial | decide | (simp only [inB, sliceOk, appendOk, rowsOk]; omega) | (simp [inB, sliceOk, appendOk, rowsOk]; omega))) _ (fun g u => by (simp only [go_sem, hdec, hx]; rfl)) ?_; intro g u; (try clear u); (try clear g))
    | fail
  refine Exists.intro (i + 1) ⟨by omega, by omega, ?_⟩
  simp only [hsn]
  refine Wk.mk ?_ ?_
  all_goals (repeat' first | exact trivial | exact LeA.refl _ | exact LeA.any _ | exact LeO.refl _ | exact LeO.no _ | exact LeA.nil _ | (refine LeA.i ?_; (first | rfl | (push_cast; rfl) | (rw [wrap_id (by omega)]; push_cast; omega) | (simp [wrap_id]; omega))) | refine ⟨?_, ?_⟩)
end Go.Proofs.Ytalbfikfbejnfaa.A
