/- The plain model: keys, references, sums, broken constraints. To, SumIn: the walks. The order of values and of keys. The program: targets, keys, searching. The program: searching. The program: has, broken. SumIn: the walk. -/
import Derived.Test.YtlkfbhhopkoopaaY0
namespace Go.Proofs.Ytlkfbhhopkoopaa.A
attribute [local go_sem] Nat.reduceAdd Nat.reduceSub Nat.reduceMul Nat.reduceLT Nat.reduceLeDiff Nat.reduceEqDiff Nat.reduceBEq reduceIte reduceCtorEq e_step_none e_slotU e_slotB e_move e_assign e_pick e_unOp e_binOp e_alloc e_box e_build e_buildSlice e_load e_store e_fieldAddr e_field e_indexAddr e_index e_slice e_makeSlice e_makeFunc e_convert e_extract e_nilCheck e_len e_append e_max e_min e_call e_callV e_fn e_cap_ptr e_cap_lit e_cap_sl e_cap_fn e_fnOf_clo e_fnOf_fn e_flat_fn e_clo e_ev_tmp e_ev_int e_ev_bool e_ev_string e_ev_slice e_ev_nilFunc e_ev_nilIface e_ev_pointer e_ev_agg e_ev_func e_pickT e_pickF e_not e_neg e_add e_sub e_mul e_quo e_rem e_eql e_neq e_lss e_leq e_gtr e_geq e_shl e_shr e_and e_or e_xor e_andNot e_beq e_bne e_sadd e_seql e_sneq e_b2_d e_b2_nil e_b2_nnil e_b2_agg e_lits_nil e_lits_cons e_litC e_eqR e_eqO_e e_eqO_n e_eqV4 e_eqV3 e_eqV2 e_eqV1 e_eqFs_nil e_eqFs_cons e_and2 e_eq1 e_eqL_i e_eqL_s e_eqL_b e_allocR e_boxR e_box_agg e_box_d e_box_own e_box_clo e_one_nil e_one_d e_one_own e_one_clo e_one_ptr e_cells_agg e_cells_d e_cells_own e_cells_clo e_cells_ptr e_ob_own e_ob_ptr e_ob_elo e_ob_d e_ob_el e_ob_agg e_load_box e_load_fzb e_load_el e_load_elo e_storeX_ptr e_storeX_d e_storeX_own e_storeX_agg e_storeX_el e_storeC' e_notIn_nil e_notIn_cons e_store_box e_storeB e_store_elo e_store_elo_agg e_storeE e_fa_ptr e_fa_el e_fa_elo e_faR e_fd e_fdR e_ia_d e_ia_row e_ia_fz e_ia_ptr e_ia_el e_ix_s e_ix_a e_len_s e_len_nil e_len_d e_len_row e_len_fz e_conv_i e_conv_s e_extr e_maxR e_minR e_nil_ptr e_nil_el e_nil_elo e_rows_nil e_rows_d e_rows_row e_rows_fz e_rok_nil e_rok_d e_rok_row e_rok_fz e_app_row e_appR e_app_nil e_appN e_make e_bnd_none e_bnd_some e_optmap_none e_optmap_some e_slR e_slRe e_sl_s e_sl_d e_sl_nil e_sl_row e_sl_fz e_fill_nil e_fill_cons e_fill1 e_placeS e_plS e_placeE e_buildO e_build1 e_build2 e_build3 e_bindD e_bs e_bsR e_allD_nil e_allD_cons e_allD_el e_allD_clo e_allD2 e_allD1 e_chunk0 e_chunkS e_clP_nil e_clP_cons e_cl_d e_cl_any e_cl_el e_cl_agg e_cl_tup e_cl_clo e_cl_own e_clOwn_row e_clOwn_fz e_cl_ptr e_clPtr_box e_clBox e_clPtr_fzb e_clL_nil e_clL_cons e_ok_d e_ok_any e_ok_el e_ok_agg e_ok_tup e_ok_clo e_ok_own e_okOwn_row e_okOwn_fz e_ok_ptr e_okPtr_box e_okPtr_fzb e_okL_nil e_okL_cons e_ids_d e_ids_any e_ids_el e_ids_own e_ids_ptr e_ids_agg e_ids_tup e_ids_clo e_idsL_nil e_idsL_cons e_frz_nil e_frz_cons e_frz_row e_frz_fz e_frz_fzb e_frz_box e_frzB e_flat_lit e_flat_sl e_flat_agg e_flat_tup e_flat_any e_flat_clo e_flatL_nil e_flatL_cons e_new_lit e_new_agg e_new_tup e_new_own e_newOwn_row e_newL_nil e_newL_cons e_objD e_setMany e_takeA e_zerosA e_gdL e_idsG e_idsOp e_callV' e_callN' e_callF' e_o_move e_o_assign e_o_pick e_o_unOp e_o_binOp e_o_alloc e_o_box e_o_build e_o_buildSlice e_o_load e_o_store e_o_fieldAddr e_o_field e_o_indexAddr e_o_index e_o_slice0 e_o_slice1 e_o_slice2 e_o_slice3 e_o_makeSlice e_o_makeFunc e_o_convert e_o_extract e_o_nilCheck e_o_bcall e_o_vcall litI litB litS
attribute [local go_sem] List.map_cons List.map_nil List.getD_cons_zero List.getD_cons_succ List.getD_nil List.getElem?_cons_zero List.getElem?_cons_succ List.getElem?_nil Option.getD_some Option.getD_none Option.map_some Option.map_none List.length_cons List.length_nil List.all_cons List.all_nil Bool.and_true Bool.true_and and_true true_and and_self List.take_zero List.take_succ_cons List.drop_zero List.drop_succ_cons List.nil_append List.cons_append List.append_nil List.replicate_succ List.replicate_zero List.flatten_cons List.flatten_nil Nat.zero_add Nat.add_zero Nat.mul_one Nat.zero_mul Nat.one_mul Nat.mul_zero List.set_cons_zero List.set_cons_succ List.foldl_cons List.foldl_nil appendOk rowsOk inB sliceOk cutRows mtake mdrop List.length_append List.length_take List.length_drop if_true if_false or_false or_true true_or Bool.not_true Bool.not_false Bool.false_eq_true List.length_map Int.toNat_natCast Int.toNat_zero Int.toNat_one eq_self St.after St.put applyEff R0 T1 T2 T3 T4 T5 T9 T15 T22 T24 T25 T26 T28 T29 T30 T32 T34 T36 T39 T42 T44 T47 T49 T51 T52 T54 T55 T57 T58 T60 T64 T68 T70 T72 T74 T76 T81 T83 T87 T90 T94 T97 T102 T113 T116 T119 T131 T134 T143 T145 T149 T151 T154 ti1 ti2 ti3 ti4 ti5 ti9 ti15 ti22 ti24 ti25 ti26 ti28 ti29 ti30 ti32 ti34 ti36 ti39 ti42 ti44 ti47 ti49 ti51 ti52 ti54 ti55 ti57 ti58 ti60 ti64 ti68 ti70 ti72 ti74 ti76 ti81 ti83 ti87 ti90 ti94 ti97 ti102 ti113 ti116 ti119 ti131 ti134 ti143 ti145 ti149 ti151 ti154
section
set_option linter.unusedVariables false
set_option linter.unusedSimpArgs false
open Go.RowKit
abbrev Rw := List Cl
abbrev Stt := List (List Rw)
abbrev sttD (st : Stt) : Dat := .sl 1 (st.map fun t => [rwsD t])
abbrev stA (st : Stt) : List AV := [.d (sttD st)]
def tbN : Tb := ⟨⟨#[]⟩, [], 0, 0, false⟩
def rfN : Rf := ⟨0, 0, 0⟩
def ttN : Tt := ⟨0, 0, 0, 0⟩
def keyN (s : Sch) (t : Nat) : Nat := (s.tables.getD t tbN).key
def colN (s : Sch) (t : Nat) : Nat := (s.tables.getD t tbN).cols.length
theorem tbs_at (l : List Tb) {i : Nat} (h : i < l.length) : (l.map tbD).getD i [] = tbD (l.getD i tbN) := by
  simp [List.getD_eq_getElem?_getD, h]
theorem rfs_at (l : List Rf) {i : Nat} (h : i < l.length) : (l.map rfD).getD i [] = rfD (l.getD i rfN) := by
  simp [List.getD_eq_getElem?_getD, h]
theorem tts_at (l : List Tt) {i : Nat} (h : i < l.length) : (l.map ttD).getD i [] = ttD (l.getD i ttN) := by
  simp [List.getD_eq_getElem?_getD, h]
theorem stt_at (l : Stt) {i : Nat} (h : i < l.length) : (l.map fun t => [rwsD t]).getD i [] = [rwsD (l.getD i [])] := by
  simp [List.getD_eq_getElem?_getD, h]
structure SchOk (s : Sch) : Prop where
  tlen : 2 ≤ s.tables.length ∧ s.tables.length ≤ 3
  keys : ∀ t, t < s.tables.length → 1 ≤ keyN s t ∧ keyN s t ≤ 2 ∧ keyN s t ≤ colN s t ∧ colN s t ≤ 8
  types : ∀ t ∈ s.tables, ∀ c ∈ t.cols, 0 ≤ c.ty.scale ∧ c.ty.scale ≤ 6
  rlen : s.refs.length ≤ 2
  refs : ∀ r ∈ s.refs, r.table < s.tables.length ∧ r.to < r.table ∧ r.column + keyN s r.to ≤ colN s r.table
  totlen : s.totals.length ≤ 1
  tots : ∀ t ∈ s.totals, t.table < s.tables.length ∧ t.column < colN s t.table ∧ keyN s t.table ≤ t.column
def ClOk (c : Cl) : Prop := VlOk c.v ∧ -4000000000000000000 ≤ c.v.i ∧ c.v.i ≤ 4000000000000000000
def RowOk (n : Nat) (r : Rw) : Prop := r.length = n ∧ ∀ c ∈ r, ClOk c
structure StOk (s : Sch) (st : Stt) : Prop where
  len : st.length = s.tables.length
  few : ∀ t, t < s.tables.length → (st.getD t []).length ≤ 1000
  rows : ∀ t, t < s.tables.length → ∀ r ∈ st.getD t [], RowOk (colN s t) r
/-- What a row refers to. -/
def toV (s : Sch) (r : Rf) (l : Rw) : List Vl := keyR (l.drop r.column) (keyN s r.to)
def nothing (l : List Vl) : Bool := l.all fun v => vlEq v nullV
def brk (s : Sch) (st : Stt) (r : Rf) (l : Rw) : Bool := !nothing (toV s r l) && decide (findR (toV s r l) (st.getD r.to []) 0 < 0)
abbrev Bk := Int × Int × Int
def bkRows (p : Rw → Bool) (i : Nat) : List Rw → Nat → List Bk
  | [], _ => []
  | l :: ls, k => (if p l = true then [((i : Int), (k : Int), -1)] else []) ++ bkRows p i ls (k + 1)
def bkRefs (s : Sch) (st : Stt) : List Rf → Nat → List Bk
  | [], _ => []
  | r :: rs, i => bkRows (brk s st r) i (st.getD r.table []) 0 ++ bkRefs s st rs (i + 1)
def numV (v : Vl) : Int := if v.k = 2 then v.i else 0
def colSum (c : Nat) : List Rw → Int
  | [] => 0
  | l :: ls => numV (l.getD c nullC).v + colSum c ls
def sumOf (st : Stt) (t : Tt) : Int := colSum t.column (st.getD t.table [])
def maxSum : Int := 4000000000000000000
def small (n : Int) : Bool := decide (-maxSum ≤ n) && decide (n ≤ maxSum)
def over (st : Stt) (t : Tt) : Bool := !small (sumOf st t) || decide (sumOf st t < t.lo) || decide (sumOf st t > t.hi)
def bkTots (st : Stt) : List Tt → Nat → List Bk
  | [], _ => []
  | t :: ts, i => (if over st t = true then [(-1, -1, (i : Int))] else []) ++ bkTots st ts (i + 1)
def checkR (s : Sch) (st : Stt) : List Bk := bkRefs s st s.refs 0 ++ bkTots st s.totals 0
abbrev bkD (b : Bk) : List Dat := [.lit (.int .i64 b.1), .lit (.int .i64 b.2.1), .lit (.int .i64 b.2.2)]
abbrev bksD (l : List Bk) : Dat := .sl 3 (l.map bkD)
theorem bkRows_len (p : Rw → Bool) (i : Nat) : ∀ (l : List Rw) (k : Nat), (bkRows p i l k).length ≤ l.length
  | [], _ => by simp [bkRows]
  | r :: l, k => by
    have := bkRows_len p i l (k + 1)
    simp only [bkRows, List.length_append, List.length_cons]
    split <;> simp <;> omega
theorem keyR_len (l : Rw) (n : Nat) : (keyR l n).length = min n l.length := by simp [keyR]
theorem bkRefs_len {s : Sch} {st : Stt} (h : SchOk s) (hs : StOk s st) : ∀ (l : List Rf) (i : Nat), (∀ r ∈ l, r ∈ s.refs) → (bkRefs s st l i).length ≤ 1000 * l.length
  | [], _, _ => by simp [bkRefs]
  | r :: l, i, hm => by
    have h1 := bkRefs_len h hs l (i + 1) (fun x hx => hm x (List.mem_cons_of_mem _ hx))
    have h2 := bkRows_len (brk s st r) i (st.getD r.table []) 0
    have h3 := hs.few r.table (h.refs r (hm r (List.mem_cons_self ..))).1
    simp only [bkRefs, List.length_append, List.length_cons]
    omega
theorem bkTots_len (st : Stt) : ∀ (l : List Tt) (i : Nat), (bkTots st l i).length ≤ l.length
  | [], _ => by simp [bkTots]
  | r :: l, i => by
    have := bkTots_len st l (i + 1)
    simp only [bkTots, List.length_append, List.length_cons]
    split <;> simp <;> omega
theorem checkR_len {s : Sch} {st : Stt} (h : SchOk s) (hs : StOk s st) : (checkR s st).length ≤ 10000 := by
  have h1 := bkRefs_len h hs s.refs 0 (fun _ h => h)
  have h2 := bkTots_len st s.totals 0
  have := h.rlen; have := h.totlen
  simp only [checkR, List.length_append]; omega
theorem toV_ok {s : Sch} {r : Rf} {l : Rw} {n : Nat} (hl : RowOk n l) : ∀ v ∈ toV s r l, VlOk v := fun v hv => by
  simp only [toV, keyR, List.mem_map] at hv
  obtain ⟨c, hc, rfl⟩ := hv
  exact (hl.2 c (List.mem_of_mem_drop (List.mem_of_mem_take hc))).1
theorem RowOk.rw {n : Nat} {l : Rw} (h : RowOk n l) (hn : n ≤ 1000) : RwOk l := ⟨by have := h.1; omega, fun c hc => (h.2 c hc).1⟩
end
section
set_option linter.unusedVariables false
set_option linter.unusedSimpArgs false
open Go.RowKit
attribute [local irreducible] AWp evOps evD
/-- The facts of a reference of a valid schema. -/
theorem ref_at {s : Sch} (h : SchOk s) {i : Nat} (hi : i < s.refs.length) {st : Stt} (hs : StOk s st) : ∃ r, s.refs.getD i rfN = r ∧ r.table < s.tables.length ∧ r.to < s.tables.length ∧ r.column + keyN s r.to ≤ colN s r.table ∧ colN s r.table ≤ 8 ∧ r.table < st.length ∧ r.to < st.length := by
  have h1 := h.refs _ (getD_mem' hi rfN)
  have := hs.len
  have h2 := h.keys _ h1.1
  exact ⟨_, rfl, h1.1, by omega, h1.2.2, by omega, by omega, by omega⟩
theorem keyR_succ (l : Rw) {i : Nat} (h : i < l.length) : keyR l (i + 1) = keyR l i ++ [(l.getD i nullC).v] := by
  have hab : l.take (i + 1) = l.take i ++ [l.getD i nullC] := by rw [List.take_succ_eq_append_getElem h]; simp [List.getD_eq_getElem?_getD, h]
  simp only [keyR, hab, List.map_append, List.map_cons, List.map_nil]
theorem keyR_drop (l : Rw) (c : Nat) {i : Nat} (h : c + i < l.length) : keyR (l.drop c) (i + 1) = keyR (l.drop c) i ++ [(l.getD (c + i) nullC).v] := by
  rw [keyR_succ _ (by simp; omega)]
  simp [List.getD_eq_getElem?_getD, List.getElem?_drop]
set_option maxHeartbeats 4000000 in
theorem f39_spec (s : Sch) (i : Nat) (l : Rw) (hi : i < s.refs.length) (hto : (s.refs.getD i rfN).to < s.tables.length) (hc : (s.refs.getD i rfN).column + keyN s (s.refs.getD i rfN).to ≤ l.length) (hll : l.length ≤ 1000) : Spec Try.prog 39 [.agg (schA s), litI .i64 (i : Int), .agg (rwA l)] (.d (vls (toV s (s.refs.getD i rfN) l))) := by
  have hx := rfs_at s.refs hi
  have hy := tbs_at s.tables hto
  simp only [toV, keyN] at hc ⊢
  generalize s.refs.getD i rfN = r at *
  generalize s.tables.getD r.to tbN = t at *
  refine spec_of_awp (fn := Try.f39) Try.func39 (by kernel_rfl) rfl ?_
  intro w0 C0
  simp only [Try.ntmps39, litI, litB, litS, List.length_cons, List.length_nil, Nat.reduceAdd, Nat.reduceSub, List.replicate_succ, List.replicate_zero, List.cons_append, List.nil_append]
  repeat' first
    | refine awp_seq ?_
    | refine awp_block ?_
    | refine awp_skip ?_
    | (refine reg _ (by (simp only [List.map_cons, List.map_nil]; rfl)) rfl ?_; intro K hK)
    | (refine awp_cond _ (by rfl) ?_ ?_ <;> (intro hb; first | (cases hb; done) | (have ht : true = true := hb; clear ht hb) | (have ht : false = false := hb; clear ht hb) | (simp only [hb]) | skip))
    | (refine awp_exit ?_; simp only [thenA, blockA, scopeA, reduceIte, RetQ, Nat.reduceEqDiff])
    | (refine awp_ret ?_; simp only [thenA, blockA, scopeA, RetQ])
    | (refine ev_nil (hK _ ?_); clear hK K)
    | (apply ev_step0; (case hr | hσ => (simp only [go_sem, hx]; try rfl)); (case hc => (first | trivial | decide | (simp only [inB, sliceOk, appendOk, rowsOk]; omega) | (simp [inB, sliceOk, appendOk, rowsOk]; omega))))
    | (apply ev_step; (case hr => (simp only [go_sem, hx]; try rfl)); (case hσ => (intro g u; simp only [go_sem, hx]; try rfl)); (case hc => (first | trivial | decide | (simp only [inB, sliceOk, appendOk, rowsOk]; omega) | (simp [inB, sliceOk, appendOk, rowsOk]; omega))); intro g u; (try clear u); (try clear g))
    | fail
  rename_i g3 g5
  refine awp_loopI (fun j : Nat × Value => j.1 ≤ t.key) (fun j => t.key - j.1) (fun j => ⟨[.any, .any, .any, .ptr 3 g3 0, .any, .ptr 5 g5 0, .any, .own 10 j.2, .ptr 8 g 0, litI .i64 j.1, .any, .any, .any, .any, .any, .any, .any, .any, .any, .any, .any, .any, .any, .any, .any, .any, .any, .any, .any, .any, .any, .any, .any, .any, .any, .any, .any, .any, .any, .any], [.no, .no, .no, .box g3 (schA s), .no, .box g5 (rwA l), .no, .no, .box g [litI .i64 (r.table : Int), litI .i64 (r.column : Int), litI .i64 (r.to : Int)], .no, .row j.2 70 3 ((keyR (l.drop r.column) j.1).map vlD), .no, .no, .no, .no, .no, .no, .no, .no, .no, .no, .no, .no, .no, .no, .no, .no, .no, .no, .no, .no, .no, .no, .no, .no, .no, .no, .no, .no, .no]⟩) (0, u) (by simp) ?_ ?_
  · refine Wk.mk ?_ ?_
    all_goals (repeat' first | exact trivial | exact LeA.refl _ | exact LeA.any _ | exact LeO.refl _ | exact LeO.no _ | exact LeA.nil _ | exact LeA.nilOwn _ | exact LeO.nil _ _ _ | refine LeO.box ?_ | (refine LeA.i ?_; (first | rfl | (push_cast; rfl) | (rw [wrap_id (by omega)]; push_cast; omega) | (simp [keyR, wrap_id]; omega))) | refine ⟨?_, ?_⟩)
  rintro ⟨j, v⟩ hj
  simp only [litI, litB] at hj ⊢
  by_cases h1 : j < t.key
  · have d1 : decide ((j : Int) < (t.key : Int)) = true := decide_eq_true (by omega)
    have e1 : IntKind.i64.wrap ((r.column : Int) + (j : Int)) = ((r.column + j : Nat) : Int) := by rw [wrap_id (by omega)]; push_cast; rfl
    have h2 : r.column + j < l.length := by omega
    have hz := cls_at l h2
    have hs := keyR_drop l r.column h2
    have hkl : (keyR (l.drop r.column) j).length = j := by rw [keyR_len, List.length_drop]; omega
    generalize l.getD (r.column + j) nullC = x at *
    generalize keyR (l.drop r.column) j = kl at *
    repeat' first
      | refine awp_seq ?_
      | refine awp_block ?_
      | refine awp_skip ?_
      | (refine reg _ (by (simp only [List.map_cons, List.map_nil]; rfl)) rfl ?_; intro K hK)
      | (refine awp_cond _ (by rfl) ?_ ?_ <;> (intro hb; first | (cases hb; done) | (have ht : true = true := hb; clear ht hb) | (have ht : false = false := hb; clear ht hb) | (simp only [hb]) | skip))
      | (refine awp_exit ?_; simp only [thenA, blockA, scopeA, reduceIte, RetQ, Nat.reduceEqDiff])
      | (refine awp_ret ?_; simp only [thenA, blockA, scopeA, RetQ])
      | (refine ev_nil (hK _ ?_); clear hK K)
      | (apply ev_step0; (case hr | hσ => (simp only [go_sem, hy, d1, e1, hz, hkl]; try rfl)); (case hc => (first | trivial | decide | (simp only [inB, sliceOk, appendOk, rowsOk]; omega) | (simp [inB, sliceOk, appendOk, rowsOk]; omega))))
      | (apply ev_step; (case hr => (simp only [go_sem, hy, d1, e1, hz, hkl]; try rfl)); (case hσ => (intro g u; simp only [go_sem, hy, d1, e1, hz, hkl]; try rfl)); (case hc => (first | trivial | decide | (simp only [inB, sliceOk, appendOk, rowsOk]; omega) | (simp [inB, sliceOk, appendOk, rowsOk]; omega))); intro g u; (try clear u); (try clear g))
      | fail
    refine Exists.intro (j + 1, u) ⟨by show j + 1 ≤ t.key; omega, by show t.key - (j + 1) < t.key - j; omega, ?_⟩
    simp only [hs, List.map_append, List.map_cons, List.map_nil]
    refine Wk.mk ?_ ?_
    all_goals (repeat' first | exact trivial | exact LeA.refl _ | exact LeA.any _ | exact LeO.refl _ | exact LeO.no _ | exact LeA.nil _ | exact LeA.nilOwn _ | exact LeO.nil _ _ _ | refine LeO.box ?_ | (refine LeA.i ?_; (first | rfl | (push_cast; rfl) | (rw [wrap_id (by omega)]; push_cast; omega) | (simp [wrap_id]; omega))) | refine ⟨?_, ?_⟩)
  · have d1 : decide ((j : Int) < (t.key : Int)) = false := decide_eq_false (by omega)
    have : j = t.key := by omega
    subst this
    repeat' first
      | refine awp_seq ?_
      | refine awp_block ?_
      | refine awp_skip ?_
      | (refine reg _ (by (simp only [List.map_cons, List.map_nil]; rfl)) rfl ?_; intro K hK)
      | (refine awp_cond _ (by rfl) ?_ ?_ <;> (intro hb; first | (cases hb; done) | (have ht : true = true := hb; clear ht hb) | (have ht : false = false := hb; clear ht hb) | (simp only [hb]) | skip))
      | (refine awp_exit ?_; simp only [thenA, blockA, scopeA, reduceIte, RetQ, Nat.reduceEqDiff])
      | (refine awp_ret ?_; simp only [thenA, blockA, scopeA, RetQ])
      | (refine ev_nil (hK _ ?_); clear hK K)
      | (apply ev_step0; (case hr | hσ => (simp only [go_sem, hy, d1]; try rfl)); (case hc => (first | trivial | decide | (simp only [inB, sliceOk, appendOk, rowsOk]; omega) | (simp [inB, sliceOk, appendOk, rowsOk]; omega))))
      | (apply ev_step; (case hr => (simp only [go_sem, hy, d1]; try rfl)); (case hσ => (intro g u; simp only [go_sem, hy, d1]; try rfl)); (case hc => (first | trivial | decide | (simp only [inB, sliceOk, appendOk, rowsOk]; omega) | (simp [inB, sliceOk, appendOk, rowsOk]; omega))); intro g u; (try clear u); (try clear g))
      | fail
    all_goals (refine resR_one T_ok rfl _ (by (simp only [go_sem, resA]; rfl)) (by first | trivial | (simp only [go_sem, resA])) (by first | trivial | (simp only [go_sem])) ?_; simp only [go_sem])
    exact LeA.s rfl
end
section
set_option linter.unusedVariables false
set_option linter.unusedSimpArgs false
open Go.RowKit
/-- A comparison that is a linear order. -/
structure Cmp {α : Type} (c : α → α → Int) : Prop where
  eq : ∀ a b, c a b = 0 ↔ a = b
  anti : ∀ a b, c a b < 0 ↔ 0 < c b a
  trans : ∀ a b d, c a b < 0 → c b d < 0 → c a d < 0
theorem Cmp.gt {α : Type} {c : α → α → Int} (h : Cmp c) {a b : α} : 0 < c a b ↔ c b a < 0 := (h.anti b a).symm
theorem Cmp.self {α : Type} {c : α → α → Int} (h : Cmp c) (a : α) : c a a = 0 := (h.eq a a).2 rfl
theorem Cmp.irr {α : Type} {c : α → α → Int} (h : Cmp c) {a b : α} (hab : c a b < 0) : ¬ c b a < 0 := fun hba => by
  have := h.trans a b a hab hba
  rw [h.self] at this; omega
theorem cmpI_cmp : Cmp cmpI where
  eq a b := cmpI_zero
  anti a b := by unfold cmpI; constructor <;> intro h <;> (repeat' split at h) <;> (repeat' split) <;> omega
  trans a b d := by unfold cmpI; intro h k; (repeat' split at h) <;> (repeat' split at k) <;> (repeat' split) <;> omega
/-- The comparison of lists, the beginnings first. -/
def lexC {α : Type} (c : α → α → Int) : List α → List α → Int
  | [], [] => 0
  | [], _ :: _ => -1
  | _ :: _, [] => 1
  | a :: x, b :: y => if c a b ≠ 0 then c a b else lexC c x y
theorem lexC_cmp {α : Type} {c : α → α → Int} (h : Cmp c) : Cmp (lexC c) where
  eq := by
    intro a
    induction a with
    | nil => intro b; cases b <;> simp [lexC]
    | cons x a ih =>
      intro b
      cases b with
      | nil => simp [lexC]
      | cons y b =>
        simp only [lexC]
        by_cases hxy : c x y = 0
        · rw [if_neg (by simpa using hxy), ih b, (h.eq x y).1 hxy]; simp
        · rw [if_pos hxy]
          constructor
          · intro e; exact absurd e hxy
          · intro e; injection e with e1 _; exact absurd ((h.eq x y).2 e1) hxy
  anti := by
    intro a
    induction a with
    | nil => intro b; cases b <;> simp [lexC]
    | cons x a ih =>
      intro b
      cases b with
      | nil => simp [lexC]
      | cons y b =>
        simp only [lexC]
        by_cases hxy : c x y = 0
        · have hyx : c y x = 0 := by rw [h.eq] at hxy ⊢; exact hxy.symm
          rw [if_neg (by simpa using hxy), if_neg (by simpa using hyx)]; exact ih b
        · have hyx : ¬ c y x = 0 := by rw [h.eq] at hxy ⊢; exact fun e => hxy e.symm
          rw [if_pos hxy, if_pos hyx]; exact h.anti x y
  trans := by
    intro a
    induction a with
    | nil => intro b d; cases b <;> cases d <;> simp [lexC]
    | cons x a ih =>
      intro b d
      cases b with
      | nil => simp [lexC]
      | cons y b =>
        cases d with
        | nil =>
          intro _ h2
          simp [lexC] at h2
        | cons z d =>
          simp only [lexC]
          intro h1 h2
          by_cases hxy : c x y = 0
          · rw [if_neg (by simpa using hxy)] at h1
            have e := (h.eq x y).1 hxy
            subst e
            by_cases hyz : c x z = 0
            · rw [if_neg (by simpa using hyz)] at h2 ⊢; exact ih b d h1 h2
            · rw [if_pos hyz] at h2 ⊢; exact h2
          · rw [if_pos hxy] at h1
            by_cases hyz : c y z = 0
            · have e := (h.eq y z).1 hyz
              subst e
              rw [if_pos hxy]; exact h1
            · rw [if_pos hyz] at h2
              have h3 := h.trans x y z h1 h2
              rw [if_pos (by omega)]; exact h3
def cmpU (a b : UInt8) : Int := if a < b then -1 else if b < a then 1 else 0
theorem cmpU_cmp : Cmp cmpU where
  eq a b := by
    unfold cmpU
    simp only [UInt8.lt_iff_toNat_lt]
    constructor
    · intro h; apply UInt8.toNat_inj.1; (repeat' split at h) <;> omega
    · intro h; subst h; simp
  anti a b := by unfold cmpU; simp only [UInt8.lt_iff_toNat_lt]; constructor <;> intro h <;> (repeat' split at h) <;> (repeat' split) <;> omega
  trans a b d := by unfold cmpU; simp only [UInt8.lt_iff_toNat_lt]; intro h k; (repeat' split at h) <;> (repeat' split at k) <;> (repeat' split) <;> omega
theorem cmpL_lex : ∀ x y, cmpL x y = lexC cmpU x y
  | [], [] => rfl
  | [], _ :: _ => rfl
  | _ :: _, [] => rfl
  | a :: x, b :: y => by
    simp only [cmpL, lexC, cmpL_lex x y]
    by_cases h1 : a < b
    · have : cmpU a b = -1 := by unfold cmpU; rw [if_pos h1]
      rw [if_pos h1, this]; rfl
    · rw [if_neg h1]
      by_cases h2 : b < a
      · have : cmpU a b = 1 := by unfold cmpU; rw [if_neg h1, if_pos h2]
        rw [if_pos h2, this]; rfl
      · have : cmpU a b = 0 := by unfold cmpU; rw [if_neg h1, if_neg h2]
        rw [if_neg h2, this]; rfl
theorem cmpS_cmp : Cmp (fun a b : ByteArray => cmpL a.data.toList b.data.toList) where
  eq a b := by
    simp only [cmpL_lex, (lexC_cmp cmpU_cmp).eq]
    constructor
    · intro h
      obtain ⟨a⟩ := a; obtain ⟨b⟩ := b
      congr
      exact Array.toList_inj.1 h
    · intro h; rw [h]
  anti a b := by simp only [cmpL_lex]; exact (lexC_cmp cmpU_cmp).anti _ _
  trans a b d := by simp only [cmpL_lex]; exact (lexC_cmp cmpU_cmp).trans _ _ _
/-- One comparison behind another one. -/
theorem Cmp.pair {α β γ : Type} {c : α → α → Int} {d : β → β → Int} (hc : Cmp c) (hd : Cmp d) (f : γ → α) (g : γ → β) (hinj : ∀ x y, f x = f y → g x = g y → x = y) : Cmp (fun x y => if c (f x) (f y) ≠ 0 then c (f x) (f y) else d (g x) (g y)) where
  eq x y := by
    by_cases h : c (f x) (f y) = 0
    · simp only [if_neg (show ¬ (c (f x) (f y) ≠ 0) from by simpa using h), hd.eq]
      exact ⟨fun e => hinj x y ((hc.eq _ _).1 h) e, fun e => by rw [e]⟩
    · simp only [if_pos (show c (f x) (f y) ≠ 0 from h)]
      exact ⟨fun e => absurd e h, fun e => absurd ((hc.eq _ _).2 (by rw [e])) h⟩
  anti x y := by
    by_cases h : c (f x) (f y) = 0
    · have h' : c (f y) (f x) = 0 := by rw [hc.eq] at h ⊢; exact h.symm
      simp only [if_neg (show ¬ (c (f x) (f y) ≠ 0) from by simpa using h), if_neg (show ¬ (c (f y) (f x) ≠ 0) from by simpa using h')]
      exact hd.anti _ _
    · have h' : c (f y) (f x) ≠ 0 := fun e => h (by rw [hc.eq] at e ⊢; exact e.symm)
      simp only [if_pos (show c (f x) (f y) ≠ 0 from h), if_pos h']
      exact hc.anti _ _
  trans x y z := by
    intro h1 h2
    by_cases hxy : c (f x) (f y) = 0
    · rw [if_neg (by simpa using hxy)] at h1
      have e := (hc.eq _ _).1 hxy
      by_cases hyz : c (f y) (f z) = 0
      · rw [if_neg (by simpa using hyz)] at h2
        rw [if_neg (by rw [e]; simpa using hyz)]
        exact hd.trans _ _ _ h1 h2
      · rw [if_pos hyz] at h2
        rw [e, if_pos hyz]; exact h2
    · rw [if_pos hxy] at h1
      by_cases hyz : c (f y) (f z) = 0
      · have e := (hc.eq _ _).1 hyz
        rw [← e, if_pos hxy]; exact h1
      · rw [if_pos hyz] at h2
        have h3 := hc.trans _ _ _ h1 h2
        rw [if_pos (by omega)]; exact h3
theorem cmpW_cmp : Cmp cmpW :=
  Cmp.pair (γ := Vl) (f := fun v => v.k) (g := fun v => (v.i, v.s)) cmpI_cmp (d := fun a b : Int × ByteArray => if cmpI a.1 b.1 ≠ 0 then cmpI a.1 b.1 else cmpL a.2.data.toList b.2.data.toList)
    (Cmp.pair (γ := Int × ByteArray) (f := fun v => v.1) (g := fun v => v.2) cmpI_cmp cmpS_cmp (fun x y h1 h2 => Prod.ext h1 h2)) (fun x y h1 h2 => by
      cases x; cases y
      simp only [Prod.mk.injEq] at h1 h2
      obtain ⟨h2, h3⟩ := h2
      subst h1; subst h2; subst h3; rfl) |> fun h => by
  have e : cmpW = fun x y : Vl => if cmpI x.k y.k ≠ 0 then cmpI x.k y.k else if cmpI x.i y.i ≠ 0 then cmpI x.i y.i else cmpL x.s.data.toList y.s.data.toList := by
    funext x y
    unfold cmpW
    simp only [ne_eq, cmpI_zero]
  rw [e]; exact h
theorem cmpVs_lex : ∀ x y, cmpVs x y = lexC cmpW x y
  | [], [] => rfl
  | [], _ :: _ => rfl
  | _ :: _, [] => rfl
  | a :: x, b :: y => by simp only [cmpVs, lexC, cmpVs_lex x y]
theorem cmpVs_cmp : Cmp cmpVs := by
  have e : cmpVs = lexC cmpW := by funext x y; exact cmpVs_lex x y
  rw [e]; exact lexC_cmp cmpW_cmp
theorem vlEq_iff (a b : Vl) : vlEq a b = true ↔ a = b := by
  obtain ⟨ak, ai, a3⟩ := a
  obtain ⟨bk, bi, b3⟩ := b
  simp only [vlEq, Bool.and_eq_true, beq_iff_eq, Vl.mk.injEq, ByteArray.toList_eq]
  constructor
  · rintro ⟨h1, h2, h3⟩
    refine ⟨h1, h2, ?_⟩
    cases a3; cases b3
    congr
    exact Array.toList_inj.1 h3
  · rintro ⟨h1, h2, h3⟩; exact ⟨h1, h2, by rw [h3]⟩
/-- Rows with increasing keys. -/
def Srt (n : Nat) (l : List Rw) : Prop := l.Pairwise fun a b => cmpVs (keyR a n) (keyR b n) < 0
theorem findR_neg (key : List Vl) : ∀ (l : List Rw) (k : Nat), findR key l k < 0 ↔ ∀ r ∈ l, keyR r key.length ≠ key
  | [], _ => by simp [findR]
  | r :: l, k => by
    simp only [findR, List.mem_cons, forall_eq_or_imp]
    by_cases h : cmpVs (keyR r key.length) key = 0
    · rw [if_pos (by simpa using h)]
      have := (cmpVs_cmp.eq _ _).1 h
      constructor
      · intro h1; omega
      · intro h1; exact absurd this h1.1
    · rw [if_neg (by simpa using h), findR_neg key l (k + 1)]
      have := fun e => h ((cmpVs_cmp.eq _ _).2 e)
      exact ⟨fun h1 => ⟨this, h1⟩, fun h1 => h1.2⟩
end
section
set_option linter.unusedVariables false
set_option linter.unusedSimpArgs false
open Go.RowKit
attribute [local irreducible] AWp evOps evD
theorem take_succ3 {α : Type} (l : List α) (d : α) {i : Nat} (h : i < l.length) : l.take (i + 1) = l.take i ++ [l.getD i d] := by
  rw [List.take_succ_eq_append_getElem h]; simp [List.getD_eq_getElem?_getD, h]
/-- The values of cells. -/
def vsOf (l : Rw) : List Vl := l.map (·.v)
theorem keyR_vs (l : Rw) (n : Nat) : keyR l n = vsOf (l.take n) := rfl
set_option maxHeartbeats 4000000 in
theorem f44_spec (s : Sch) (r : Rf) (l : Rw) (hto : r.to < s.tables.length) (hc : r.column + keyN s r.to ≤ l.length) (hll : l.length ≤ 1000) : Spec Try.prog 44 [.agg (schA s), .agg [litI .i64 (r.table : Int), litI .i64 (r.column : Int), litI .i64 (r.to : Int)], .agg (rwA l)] (.tup [.d (vls (toV s r l)), litB (!nothing (toV s r l))]) := by
  have hy := tbs_at s.tables hto
  simp only [toV, keyN] at hc ⊢
  generalize s.tables.getD r.to tbN = t at *
  have hcut : List.drop r.column (List.take (r.column + t.key) l) = (l.drop r.column).take t.key := by rw [List.drop_take]; congr 1; omega
  obtain ⟨kk, hkk⟩ : ∃ kk, (l.drop r.column).take t.key = kk := ⟨_, rfl⟩
  have hkl : kk.length = t.key := by rw [← hkk]; simp; omega
  rw [hkk] at hcut
  rw [keyR_vs, hkk]
  have w1 : IntKind.i64.wrap ((r.column : Int) + (t.key : Int)) = ((r.column + t.key : Nat) : Int) := by rw [wrap_id (by omega)]; push_cast; rfl
  refine spec_of_awp (fn := Try.f44) Try.func44 (by kernel_rfl) rfl ?_
  intro w0 C0
  simp only [Try.ntmps44, litI, litB, litS, List.length_cons, List.length_nil, Nat.reduceAdd, Nat.reduceSub, List.replicate_succ, List.replicate_zero, List.cons_append, List.nil_append]
  repeat' first
    | refine awp_seq ?_
    | refine awp_block ?_
    | refine awp_skip ?_
    | (refine reg _ (by (simp only [List.map_cons, List.map_nil]; rfl)) rfl ?_; intro K hK)
    | (refine awp_cond _ (by rfl) ?_ ?_ <;> (intro hb; first | (cases hb; done) | (have ht : true = true := hb; clear ht hb) | (have ht : false = false := hb; clear ht hb) | (simp only [hb]) | skip))
    | (refine awp_exit ?_; simp only [thenA, blockA, scopeA, reduceIte, RetQ, Nat.reduceEqDiff])
    | (refine awp_ret ?_; simp only [thenA, blockA, scopeA, RetQ])
    | (refine ev_nil (hK _ ?_); clear hK K)
    | (apply ev_guardU; (case hj | hu | hσ => (simp only [go_sem, hy, w1, hcut]; try rfl)))
    | (refine ev_guardT _ _ (by (simp only [go_sem, hy, w1, hcut]; rfl)) (by (simp only [go_sem, hy, w1, hcut]; rfl)) ?_ ?_ <;> (intro hb; first | (cases hb; done) | (have ht : true = true := hb; clear ht hb) | (have ht : false = false := hb; clear ht hb) | (simp only [hb]) | skip))
    | (refine ev_guardF _ _ (by (simp only [go_sem, hy, w1, hcut]; rfl)) (by (simp only [go_sem, hy, w1, hcut]; rfl)) ?_ ?_ <;> (intro hb; first | (cases hb; done) | (have ht : true = true := hb; clear ht hb) | (have ht : false = false := hb; clear ht hb) | (simp only [hb]) | skip))
    | (apply regD; (case hd => (simp only [List.map_cons, List.map_nil]; rfl)); (case hok => rfl); (case' h => (intro K hK; (repeat' first
        | (apply evd_nil; refine (hK _ ?_); clear hK K)
        | (apply evd_step0; (case hr | hi | hσ => (simp only [go_sem, hy, w1, hcut]; try rfl)); (case hc => (first | trivial | decide | (simp only [inB, sliceOk, appendOk, rowsOk]; omega) | (simp [inB, sliceOk, appendOk, rowsOk]; omega))))
        | (apply evd_step; (case hr | hi => (simp only [go_sem, hy, w1, hcut]; try rfl)); (case hc => (first | trivial | decide | (simp only [inB, sliceOk, appendOk, rowsOk]; omega) | (simp [inB, sliceOk, appendOk, rowsOk]; omega))); (case hw | hσ => (intro g u; simp only [go_sem, hy, w1, hcut]; try rfl)); (case' hk => (intro g u; (try clear u); (try clear g))))
        | fail))); (case hB => kernel_rfl))
    | (apply ev_step0; (case hr | hσ => (simp only [go_sem, hy, w1, hcut]; try rfl)); (case hc => (first | trivial | decide | (simp only [inB, sliceOk, appendOk, rowsOk]; omega) | (simp [inB, sliceOk, appendOk, rowsOk]; omega))))
    | (apply ev_step; (case hr => (simp only [go_sem, hy, w1, hcut]; try rfl)); (case hσ => (intro g u; simp only [go_sem, hy, w1, hcut]; try rfl)); (case hc => (first | trivial | decide | (simp only [inB, sliceOk, appendOk, rowsOk]; omega) | (simp [inB, sliceOk, appendOk, rowsOk]; omega))); intro g u; (try clear u); (try clear g))
    | fail
  rename_i g3 g4
  refine awp_loopI (fun j : Nat × Value => j.1 ≤ kk.length) (fun j => kk.length - j.1) (fun j => ⟨[.any, .any, .any, .ptr 3 g3 0, .ptr 4 g4 0, .ptr 5 g 0, .any, .any, .own 36 j.2, litB (!nothing (vsOf (kk.take j.1))), .any, .any, .any, .any, .any, .any, .any, .any, .any, .any, .any, .any, .any, .any, .any, .any, .d (clsD kk), litI .i64 kk.length, litI .i64 j.1, .any, .any, .any, .any, .any, .any, .any, .any, .any, .any, .any, .any, .any, .any, .any, .any, .any, .any], [.no, .no, .no, .box g3 (schA s), .box g4 [litI .i64 (r.table : Int), litI .i64 (r.column : Int), litI .i64 (r.to : Int)], .box g (rwA l), .no, .no, .no, .no, .no, .no, .no, .no, .no, .no, .no, .no, .no, .no, .no, .no, .no, .no, .no, .no, .no, .no, .no, .no, .no, .no, .no, .no, .no, .no, .row j.2 70 3 ((vsOf (kk.take j.1)).map vlD), .no, .no, .no, .no, .no, .no, .no, .no, .no, .no]⟩) (0, .slice none 0 0) (by simp) ?_ ?_
  · refine Wk.mk ?_ ?_
    all_goals (repeat' first | exact trivial | exact LeA.refl _ | exact LeA.any _ | exact LeO.refl _ | exact LeO.no _ | exact LeA.nil _ | exact LeA.nilOwn _ | exact LeO.nil _ _ _ | refine LeO.box ?_ | (refine LeA.i ?_; (first | rfl | (push_cast; rfl) | (rw [wrap_id (by omega)]; push_cast; omega) | (simp [wrap_id]; omega))) | refine ⟨?_, ?_⟩)
  rintro ⟨j, v⟩ hj
  simp only [litI, litB] at hj ⊢
  by_cases h1 : j < kk.length
  · have d1 : decide ((j : Int) < (kk.length : Int)) = true := decide_eq_true (by omega)
    have hz := cls_at kk h1
    have hs := take_succ3 kk nullC h1
    have htl : (kk.take j).length = j := by simp; omega
    have hn : nothing (vsOf (kk.take (j + 1))) = (nothing (vsOf (kk.take j)) && vlEq (kk.getD j nullC).v nullV) := by
      rw [hs]; simp [nothing, vsOf]
    have hm : (vsOf (kk.take (j + 1))).map vlD = (vsOf (kk.take j)).map vlD ++ [vlD (kk.getD j nullC).v] := by
      rw [hs]; simp [vsOf]
    have hll' : (vsOf (kk.take j)).length = j := by simp [vsOf]; omega
    generalize kk.getD j nullC = x at *
    generalize vsOf (kk.take j) = q at *
    generalize hq' : vsOf (kk.take (j + 1)) = q' at *
    have hv : (x.v.k == 0 && (x.v.i == 0 && x.v.s.toList == ByteArray.toList ⟨#[]⟩)) = vlEq x.v nullV := rfl
    cases hb : nothing q with
    | true =>
      rw [hb, Bool.true_and] at hn
      repeat' first
        | refine awp_seq ?_
        | refine awp_block ?_
        | refine awp_skip ?_
        | (refine reg _ (by (simp only [List.map_cons, List.map_nil]; rfl)) rfl ?_; intro K hK)
        | (refine awp_cond _ (by rfl) ?_ ?_ <;> (intro hb; first | (cases hb; done) | (have ht : true = true := hb; clear ht hb) | (have ht : false = false := hb; clear ht hb) | (simp only [hb]) | skip))
        | (refine awp_exit ?_; simp only [thenA, blockA, scopeA, reduceIte, RetQ, Nat.reduceEqDiff])
        | (refine awp_ret ?_; simp only [thenA, blockA, scopeA, RetQ])
        | (refine ev_nil (hK _ ?_); clear hK K)
        | (apply ev_guardU; (case hj | hu | hσ => (simp only [go_sem, d1, hz, hll', hb, hv]; try rfl)))
        | (refine ev_guardT _ _ (by (simp only [go_sem, d1, hz, hll', hb, hv]; rfl)) (by (simp only [go_sem, d1, hz, hll', hb, hv]; rfl)) ?_ ?_ <;> (intro hb; first | (cases hb; done) | (have ht : true = true := hb; clear ht hb) | (have ht : false = false := hb; clear ht hb) | (simp only [hb]) | skip))
        | (refine ev_guardF _ _ (by (simp only [go_sem, d1, hz, hll', hb, hv]; rfl)) (by (simp only [go_sem, d1, hz, hll', hb, hv]; rfl)) ?_ ?_ <;> (intro hb; first | (cases hb; done) | (have ht : true = true := hb; clear ht hb) | (have ht : false = false := hb; clear ht hb) | (simp only [hb]) | skip))
        | (apply regD; (case hd => (simp only [List.map_cons, List.map_nil]; rfl)); (case hok => rfl); (case' h => (intro K hK; (repeat' first
        | (apply evd_nil; refine (hK _ ?_); clear hK K)
        | (apply evd_step0; (case hr | hi | hσ => (simp only [go_sem, d1, hz, hll', hb, hv]; try rfl)); (case hc => (first | trivial | decide | (simp only [inB, sliceOk, appendOk, rowsOk]; omega) | (simp [inB, sliceOk, appendOk, rowsOk]; omega))))
        | (apply evd_step; (case hr | hi => (simp only [go_sem, d1, hz, hll', hb, hv]; try rfl)); (case hc => (first | trivial | decide | (simp only [inB, sliceOk, appendOk, rowsOk]; omega) | (simp [inB, sliceOk, appendOk, rowsOk]; omega))); (case hw | hσ => (intro g u; simp only [go_sem, d1, hz, hll', hb, hv]; try rfl)); (case' hk => (intro g u; (try clear u); (try clear g))))
        | fail))); (case hB => kernel_rfl))
        | (apply ev_step0; (case hr | hσ => (simp only [go_sem, d1, hz, hll', hb, hv]; try rfl)); (case hc => (first | trivial | decide | (simp only [inB, sliceOk, appendOk, rowsOk]; omega) | (simp [inB, sliceOk, appendOk, rowsOk]; omega))))
        | (apply ev_step; (case hr => (simp only [go_sem, d1, hz, hll', hb, hv]; try rfl)); (case hσ => (intro g u; simp only [go_sem, d1, hz, hll', hb, hv]; try rfl)); (case hc => (first | trivial | decide | (simp only [inB, sliceOk, appendOk, rowsOk]; omega) | (simp [inB, sliceOk, appendOk, rowsOk]; omega))); intro g u; (try clear u); (try clear g))
        | fail
      refine Exists.intro (j + 1, u) ⟨by show j + 1 ≤ kk.length; omega, by show kk.length - (j + 1) < kk.length - j; omega, ?_⟩
      simp only [hq', hm, hn]
      refine Wk.mk ?_ ?_
      all_goals (repeat' first | exact trivial | exact LeA.refl _ | exact LeA.any _ | exact LeO.refl _ | exact LeO.no _ | exact LeA.nil _ | exact LeA.nilOwn _ | exact LeO.nil _ _ _ | refine LeO.box ?_ | (refine LeA.i ?_; (first | rfl | (push_cast; rfl) | (rw [wrap_id (by omega)]; push_cast; omega) | (simp [wrap_id]; omega))) | refine ⟨?_, ?_⟩)
    | false =>
      rw [hb, Bool.false_and] at hn
      repeat' first
        | refine awp_seq ?_
        | refine awp_block ?_
        | refine awp_skip ?_
        | (refine reg _ (by (simp only [List.map_cons, List.map_nil]; rfl)) rfl ?_; intro K hK)
        | (refine awp_cond _ (by rfl) ?_ ?_ <;> (intro hb; first | (cases hb; done) | (have ht : true = true := hb; clear ht hb) | (have ht : false = false := hb; clear ht hb) | (simp only [hb]) | skip))
        | (refine awp_exit ?_; simp only [thenA, blockA, scopeA, reduceIte, RetQ, Nat.reduceEqDiff])
        | (refine awp_ret ?_; simp only [thenA, blockA, scopeA, RetQ])
        | (refine ev_nil (hK _ ?_); clear hK K)
        | (apply ev_guardU; (case hj | hu | hσ => (simp only [go_sem, d1, hz, hll', hb]; try rfl)))
        | (refine ev_guardT _ _ (by (simp only [go_sem, d1, hz, hll', hb]; rfl)) (by (simp only [go_sem, d1, hz, hll', hb]; rfl)) ?_ ?_ <;> (intro hb; first | (cases hb; done) | (have ht : true = true := hb; clear ht hb) | (have ht : false = false := hb; clear ht hb) | (simp only [hb]) | skip))
        | (refine ev_guardF _ _ (by (simp only [go_sem, d1, hz, hll', hb]; rfl)) (by (simp only [go_sem, d1, hz, hll', hb]; rfl)) ?_ ?_ <;> (intro hb; first | (cases hb; done) | (have ht : true = true := hb; clear ht hb) | (have ht : false = false := hb; clear ht hb) | (simp only [hb]) | skip))
        | (apply regD; (case hd => (simp only [List.map_cons, List.map_nil]; rfl)); (case hok => rfl); (case' h => (intro K hK; (repeat' first
        | (apply evd_nil; refine (hK _ ?_); clear hK K)
        | (apply evd_step0; (case hr | hi | hσ => (simp only [go_sem, d1, hz, hll', hb]; try rfl)); (case hc => (first | trivial | decide | (simp only [inB, sliceOk, appendOk, rowsOk]; omega) | (simp [inB, sliceOk, appendOk, rowsOk]; omega))))
        | (apply evd_step; (case hr | hi => (simp only [go_sem, d1, hz, hll', hb]; try rfl)); (case hc => (first | trivial | decide | (simp only [inB, sliceOk, appendOk, rowsOk]; omega) | (simp [inB, sliceOk, appendOk, rowsOk]; omega))); (case hw | hσ => (intro g u; simp only [go_sem, d1, hz, hll', hb]; try rfl)); (case' hk => (intro g u; (try clear u); (try clear g))))
        | fail))); (case hB => kernel_rfl))
        | (apply ev_step0; (case hr | hσ => (simp only [go_sem, d1, hz, hll', hb]; try rfl)); (case hc => (first | trivial | decide | (simp only [inB, sliceOk, appendOk, rowsOk]; omega) | (simp [inB, sliceOk, appendOk, rowsOk]; omega))))
        | (apply ev_step; (case hr => (simp only [go_sem, d1, hz, hll', hb]; try rfl)); (case hσ => (intro g u; simp only [go_sem, d1, hz, hll', hb]; try rfl)); (case hc => (first | trivial | decide | (simp only [inB, sliceOk, appendOk, rowsOk]; omega) | (simp [inB, sliceOk, appendOk, rowsOk]; omega))); intro g u; (try clear u); (try clear g))
        | fail
      refine Exists.intro (j + 1, u) ⟨by show j + 1 ≤ kk.length; omega, by show kk.length - (j + 1) < kk.length - j; omega, ?_⟩
      simp only [hq', hm, hn]
      refine Wk.mk ?_ ?_
      all_goals (repeat' first | exact trivial | exact LeA.refl _ | exact LeA.any _ | exact LeO.refl _ | exact LeO.no _ | exact LeA.nil _ | exact LeA.nilOwn _ | exact LeO.nil _ _ _ | refine LeO.box ?_ | (refine LeA.i ?_; (first | rfl | (push_cast; rfl) | (rw [wrap_id (by omega)]; push_cast; omega) | (simp [wrap_id]; omega))) | refine ⟨?_, ?_⟩)
  · have d1 : decide ((j : Int) < (kk.length : Int)) = false := decide_eq_false (by omega)
    have : j = kk.length := by omega
    subst this
    rw [List.take_length]
    repeat' first
      | refine awp_seq ?_
      | refine awp_block ?_
      | refine awp_skip ?_
      | (refine reg _ (by (simp only [List.map_cons, List.map_nil]; rfl)) rfl ?_; intro K hK)
      | (refine awp_cond _ (by rfl) ?_ ?_ <;> (intro hb; first | (cases hb; done) | (have ht : true = true := hb; clear ht hb) | (have ht : false = false := hb; clear ht hb) | (simp only [hb]) | skip))
      | (refine awp_exit ?_; simp only [thenA, blockA, scopeA, reduceIte, RetQ, Nat.reduceEqDiff])
      | (refine awp_ret ?_; simp only [thenA, blockA, scopeA, RetQ])
      | (refine ev_nil (hK _ ?_); clear hK K)
      | (apply ev_guardU; (case hj | hu | hσ => (simp only [go_sem, d1]; try rfl)))
      | (refine ev_guardT _ _ (by (simp only [go_sem, d1]; rfl)) (by (simp only [go_sem, d1]; rfl)) ?_ ?_ <;> (intro hb; first | (cases hb; done) | (have ht : true = true := hb; clear ht hb) | (have ht : false = false := hb; clear ht hb) | (simp only [hb]) | skip))
      | (refine ev_guardF _ _ (by (simp only [go_sem, d1]; rfl)) (by (simp only [go_sem, d1]; rfl)) ?_ ?_ <;> (intro hb; first | (cases hb; done) | (have ht : true = true := hb; clear ht hb) | (have ht : false = false := hb; clear ht hb) | (simp only [hb]) | skip))
      | (apply regD; (case hd => (simp only [List.map_cons, List.map_nil]; rfl)); (case hok => rfl); (case' h => (intro K hK; (repeat' first
        | (apply evd_nil; refine (hK _ ?_); clear hK K)
        | (apply evd_step0; (case hr | hi | hσ => (simp only [go_sem, d1]; try rfl)); (case hc => (first | trivial | decide | (simp only [inB, sliceOk, appendOk, rowsOk]; omega) | (simp [inB, sliceOk, appendOk, rowsOk]; omega))))
        | (apply evd_step; (case hr | hi => (simp only [go_sem, d1]; try rfl)); (case hc => (first | trivial | decide | (simp only [inB, sliceOk, appendOk, rowsOk]; omega) | (simp [inB, sliceOk, appendOk, rowsOk]; omega))); (case hw | hσ => (intro g u; simp only [go_sem, d1]; try rfl)); (case' hk => (intro g u; (try clear u); (try clear g))))
        | fail))); (case hB => kernel_rfl))
      | (apply ev_step0; (case hr | hσ => (simp only [go_sem, d1]; try rfl)); (case hc => (first | trivial | decide | (simp only [inB, sliceOk, appendOk, rowsOk]; omega) | (simp [inB, sliceOk, appendOk, rowsOk]; omega))))
      | (apply ev_step; (case hr => (simp only [go_sem, d1]; try rfl)); (case hσ => (intro g u; simp only [go_sem, d1]; try rfl)); (case hc => (first | trivial | decide | (simp only [inB, sliceOk, appendOk, rowsOk]; omega) | (simp [inB, sliceOk, appendOk, rowsOk]; omega))); intro g u; (try clear u); (try clear g))
      | fail
    all_goals (refine resR_more T_ok rfl (by decide) _ (by (simp only [go_sem, resA]; rfl)) (by (intro rv hrv; simp only [List.mem_cons, List.not_mem_nil, or_false] at hrv; rcases hrv with rfl | rfl <;> first | trivial | simp only [go_sem, resA])) (by first | trivial | (simp only [go_sem])) ?_; simp only [go_sem])
    exact ⟨LeA.s rfl, LeA.refl _, trivial⟩
/-- The program's comparison of a row's key. -/
def cmpK (key : List Vl) (r : Rw) : Int := cmpVs (keyR r key.length) key
set_option maxHeartbeats 4000000 in
theorem f69_spec (r : Rw) (key : List Vl) (hl : key.length ≤ r.length) (hll : r.length ≤ 1000) : Spec Try.prog 69 [.agg (rwA r), .d (vls key)] (litI .i64 (cmpK key r)) := by
  have hkl : (keyR r key.length).length = key.length := by rw [keyR_len]; omega
  refine spec_of_awp (fn := Try.f69) Try.func69 (by kernel_rfl) rfl ?_
  intro w0 C0
  simp only [Try.ntmps69, litI, litB, litS, List.length_cons, List.length_nil, Nat.reduceAdd, Nat.reduceSub, List.replicate_succ, List.replicate_zero, List.cons_append, List.nil_append]
  refine awp_len 1 rfl fun hll2 => ?_
  simp only [List.length_map] at hll2
  repeat' first
    | refine awp_seq ?_
    | refine awp_block ?_
    | refine awp_skip ?_
    | (refine reg _ (by (simp only [List.map_cons, List.map_nil]; rfl)) rfl ?_; intro K hK)
    | (refine awp_cond _ (by rfl) ?_ ?_ <;> (intro hb; first | (cases hb; done) | (have ht : true = true := hb; clear ht hb) | (have ht : false = false := hb; clear ht hb) | (simp only [hb]) | skip))
    | (refine awp_exit ?_; simp only [thenA, blockA, scopeA, reduceIte, RetQ, Nat.reduceEqDiff])
    | (refine awp_ret ?_; simp only [thenA, blockA, scopeA, RetQ])
    | (refine ev_nil (hK _ ?_); clear hK K)
    | (apply ev_step0; (case hr | hσ => (simp only [go_sem]; try rfl)); (case hc => (first | trivial | decide | (simp only [inB, sliceOk, appendOk, rowsOk]; omega) | (simp [inB, sliceOk, appendOk, rowsOk]; omega))))
    | (apply ev_step; (case hr => (simp only [go_sem]; try rfl)); (case hσ => (intro g u; simp only [go_sem]; try rfl)); (case hc => (first | trivial | decide | (simp only [inB, sliceOk, appendOk, rowsOk]; omega) | (simp [inB, sliceOk, appendOk, rowsOk]; omega))); intro g u; (try clear u); (try clear g))
    | fail
  refine awp_loopI (fun i : Nat => i ≤ key.length ∧ cmpK key r = cmpVs ((keyR r key.length).drop i) (key.drop i)) (fun i => key.length - i) (fun i => ⟨[.any, .any, .ptr 2 g 0, .any, .any, .any, .any, .any, .d (vls key), litI .i64 key.length, litI .i64 i, .any, .any, .any, .any, .any, .any, .any, .any, .any, .any, .any, .any, .any, .any, .any, .any], [.no, .no, .box g (rwA r), .no, .no, .no, .no, .no, .no, .no, .no, .no, .no, .no, .no, .no, .no, .no, .no, .no, .no, .no, .no, .no, .no, .no, .no]⟩) 0 ⟨by omega, rfl⟩ ?_ ?_
  · refine Wk.mk ?_ ?_
    all_goals (repeat' first | exact trivial | exact LeA.refl _ | exact LeA.any _ | exact LeO.refl _ | exact LeO.no _ | exact LeA.nil _ | exact LeA.nilOwn _ | exact LeO.nil _ _ _ | refine LeO.box ?_ | (refine LeA.i ?_; (first | rfl | (push_cast; rfl) | (rw [wrap_id (by omega)]; push_cast; omega) | (simp [wrap_id]; omega))) | refine ⟨?_, ?_⟩)
  rintro i ⟨hi, hc⟩
  simp only [litI, litB] at hi hc ⊢
  by_cases h1 : i < key.length
  · have d1 : decide ((i : Int) < (key.length : Int)) = true := decide_eq_true (by omega)
    have hx := vls_at key h1
    have hy := cls_at r (i := i) (by omega)
    have hv : (keyR r key.length).getD i nullV = (r.getD i nullC).v := by
      have : i < r.length := by omega
      simp [keyR, List.getD_eq_getElem?_getD, List.getElem?_take, h1, this]
    rw [drop_at _ nullV (by omega), drop_at key nullV h1, hv] at hc
    simp only [cmpVs] at hc
    generalize key.getD i nullV = k at *
    generalize r.getD i nullC = x at *
    have h83 := f83_spec x.v k
    rw [cmp_same] at h83
    by_cases hq : cmpW x.v k = 0
    · have d2 : (cmpW x.v k != 0) = false := by simpa using hq
      rw [if_neg (by simpa using hq)] at hc
      repeat' first
        | refine awp_seq ?_
        | refine awp_block ?_
        | refine awp_skip ?_
        | (refine reg _ (by (simp only [List.map_cons, List.map_nil]; rfl)) rfl ?_; intro K hK)
        | (refine awp_cond _ (by rfl) ?_ ?_ <;> (intro hb; first | (cases hb; done) | (have ht : true = true := hb; clear ht hb) | (have ht : false = false := hb; clear ht hb) | (simp only [hb]) | skip))
        | (refine awp_exit ?_; simp only [thenA, blockA, scopeA, reduceIte, RetQ, Nat.reduceEqDiff])
        | (refine awp_ret ?_; simp only [thenA, blockA, scopeA, RetQ])
        | (refine ev_nil (hK _ ?_); clear hK K)
        | (apply regD; (case hd => (simp only [List.map_cons, List.map_nil]; rfl)); (case hok => rfl); (case' h => (intro K hK; (repeat' first
        | (apply evd_nil; refine (hK _ ?_); clear hK K)
        | (apply evd_call0; (case hi | hys => (simp only [go_sem, d1, hx, hy, d2]; try rfl)); (case hs => first | exact h83 ..); (case hok | hw | hσ => (simp only [go_sem, d1, hx, hy, d2]; try rfl)))
        | (apply evd_step0; (case hr | hi | hσ => (simp only [go_sem, d1, hx, hy, d2]; try rfl)); (case hc => (first | trivial | decide | (simp only [inB, sliceOk, appendOk, rowsOk]; omega) | (simp [inB, sliceOk, appendOk, rowsOk]; omega))))
        | (apply evd_step; (case hr | hi => (simp only [go_sem, d1, hx, hy, d2]; try rfl)); (case hc => (first | trivial | decide | (simp only [inB, sliceOk, appendOk, rowsOk]; omega) | (simp [inB, sliceOk, appendOk, rowsOk]; omega))); (case hw | hσ => (intro g u; simp only [go_sem, d1, hx, hy, d2]; try rfl)); (case' hk => (intro g u; (try clear u); (try clear g))))
        | fail))); (case hB => kernel_rfl))
        | (apply ev_step0; (case hr | hσ => (simp only [go_sem, d1, hx, hy, d2]; try rfl)); (case hc => (first | trivial | decide | (simp only [inB, sliceOk, appendOk, rowsOk]; omega) | (simp [inB, sliceOk, appendOk, rowsOk]; omega))))
        | (apply ev_step; (case hr => (simp only [go_sem, d1, hx, hy, d2]; try rfl)); (case hσ => (intro g u; simp only [go_sem, d1, hx, hy, d2]; try rfl)); (case hc => (first | trivial | decide | (simp only [inB, sliceOk, appendOk, rowsOk]; omega) | (simp [inB, sliceOk, appendOk, rowsOk]; omega))); intro g u; (try clear u); (try clear g))
        | fail
      refine Exists.intro (i + 1) ⟨⟨by omega, hc⟩, by omega, ?_⟩
      refine Wk.mk ?_ ?_
      all_goals (repeat' first | exact trivial | exact LeA.refl _ | exact LeA.any _ | exact LeO.refl _ | exact LeO.no _ | exact LeA.nil _ | exact LeA.nilOwn _ | exact LeO.nil _ _ _ | refine LeO.box ?_ | (refine LeA.i ?_; (first | rfl | (push_cast; rfl) | (rw [wrap_id (by omega)]; push_cast; omega) | (simp [wrap_id]; omega))) | refine ⟨?_, ?_⟩)
    · have d2 : (cmpW x.v k != 0) = true := by simpa using hq
      rw [if_pos hq] at hc
      repeat' first
        | refine awp_seq ?_
        | refine awp_block ?_
        | refine awp_skip ?_
        | (refine reg _ (by (simp only [List.map_cons, List.map_nil]; rfl)) rfl ?_; intro K hK)
        | (refine awp_cond _ (by rfl) ?_ ?_ <;> (intro hb; first | (cases hb; done) | (have ht : true = true := hb; clear ht hb) | (have ht : false = false := hb; clear ht hb) | (simp only [hb]) | skip))
        | (refine awp_exit ?_; simp only [thenA, blockA, scopeA, reduceIte, RetQ, Nat.reduceEqDiff])
        | (refine awp_ret ?_; simp only [thenA, blockA, scopeA, RetQ])
        | (refine ev_nil (hK _ ?_); clear hK K)
        | (apply regD; (case hd => (simp only [List.map_cons, List.map_nil]; rfl)); (case hok => rfl); (case' h => (intro K hK; (repeat' first
        | (apply evd_nil; refine (hK _ ?_); clear hK K)
        | (apply evd_call0; (case hi | hys => (simp only [go_sem, d1, hx, hy, d2]; try rfl)); (case hs => first | exact h83 ..); (case hok | hw | hσ => (simp only [go_sem, d1, hx, hy, d2]; try rfl)))
        | (apply evd_step0; (case hr | hi | hσ => (simp only [go_sem, d1, hx, hy, d2]; try rfl)); (case hc => (first | trivial | decide | (simp only [inB, sliceOk, appendOk, rowsOk]; omega) | (simp [inB, sliceOk, appendOk, rowsOk]; omega))))
        | (apply evd_step; (case hr | hi => (simp only [go_sem, d1, hx, hy, d2]; try rfl)); (case hc => (first | trivial | decide | (simp only [inB, sliceOk, appendOk, rowsOk]; omega) | (simp [inB, sliceOk, appendOk, rowsOk]; omega))); (case hw | hσ => (intro g u; simp only [go_sem, d1, hx, hy, d2]; try rfl)); (case' hk => (intro g u; (try clear u); (try clear g))))
        | fail))); (case hB => kernel_rfl))
        | (apply ev_step0; (case hr | hσ => (simp only [go_sem, d1, hx, hy, d2]; try rfl)); (case hc => (first | trivial | decide | (simp only [inB, sliceOk, appendOk, rowsOk]; omega) | (simp [inB, sliceOk, appendOk, rowsOk]; omega))))
        | (apply ev_step; (case hr => (simp only [go_sem, d1, hx, hy, d2]; try rfl)); (case hσ => (intro g u; simp only [go_sem, d1, hx, hy, d2]; try rfl)); (case hc => (first | trivial | decide | (simp only [inB, sliceOk, appendOk, rowsOk]; omega) | (simp [inB, sliceOk, appendOk, rowsOk]; omega))); intro g u; (try clear u); (try clear g))
        | fail
      all_goals (refine resR_one T_ok rfl _ (by (simp only [go_sem, resA]; rfl)) (by first | trivial | (simp only [go_sem, resA])) (by first | trivial | (simp only [go_sem])) ?_; simp only [go_sem])
      exact LeA.i hc.symm
  · have d1 : decide ((i : Int) < (key.length : Int)) = false := decide_eq_false (by omega)
    rw [List.drop_eq_nil_of_le (by omega), List.drop_eq_nil_of_le (by omega)] at hc
    repeat' first
      | refine awp_seq ?_
      | refine awp_block ?_
      | refine awp_skip ?_
      | (refine reg _ (by (simp only [List.map_cons, List.map_nil]; rfl)) rfl ?_; intro K hK)
      | (refine awp_cond _ (by rfl) ?_ ?_ <;> (intro hb; first | (cases hb; done) | (have ht : true = true := hb; clear ht hb) | (have ht : false = false := hb; clear ht hb) | (simp only [hb]) | skip))
      | (refine awp_exit ?_; simp only [thenA, blockA, scopeA, reduceIte, RetQ, Nat.reduceEqDiff])
      | (refine awp_ret ?_; simp only [thenA, blockA, scopeA, RetQ])
      | (refine ev_nil (hK _ ?_); clear hK K)
      | (apply regD; (case hd => (simp only [List.map_cons, List.map_nil]; rfl)); (case hok => rfl); (case' h => (intro K hK; (repeat' first
        | (apply evd_nil; refine (hK _ ?_); clear hK K)
        | (apply evd_step0; (case hr | hi | hσ => (simp only [go_sem, d1]; try rfl)); (case hc => (first | trivial | decide | (simp only [inB, sliceOk, appendOk, rowsOk]; omega) | (simp [inB, sliceOk, appendOk, rowsOk]; omega))))
        | (apply evd_step; (case hr | hi => (simp only [go_sem, d1]; try rfl)); (case hc => (first | trivial | decide | (simp only [inB, sliceOk, appendOk, rowsOk]; omega) | (simp [inB, sliceOk, appendOk, rowsOk]; omega))); (case hw | hσ => (intro g u; simp only [go_sem, d1]; try rfl)); (case' hk => (intro g u; (try clear u); (try clear g))))
        | fail))); (case hB => kernel_rfl))
      | (apply ev_step0; (case hr | hσ => (simp only [go_sem, d1]; try rfl)); (case hc => (first | trivial | decide | (simp only [inB, sliceOk, appendOk, rowsOk]; omega) | (simp [inB, sliceOk, appendOk, rowsOk]; omega))))
      | (apply ev_step; (case hr => (simp only [go_sem, d1]; try rfl)); (case hσ => (intro g u; simp only [go_sem, d1]; try rfl)); (case hc => (first | trivial | decide | (simp only [inB, sliceOk, appendOk, rowsOk]; omega) | (simp [inB, sliceOk, appendOk, rowsOk]; omega))); intro g u; (try clear u); (try clear g))
      | fail
    all_goals (refine resR_one T_ok rfl _ (by (simp only [go_sem, resA]; rfl)) (by first | trivial | (simp only [go_sem, resA])) (by first | trivial | (simp only [go_sem])) ?_; simp only [go_sem])
    exact LeA.i hc.symm
theorem f78_spec (r : Rw) (key : List Vl) (hl : key.length ≤ r.length) (hll : r.length ≤ 1000) : Spec Try.prog 78 [.agg (rwA r), .el [vls key] 0] (litI .i64 (cmpK key r)) := by
  have h69 := f69_spec r key hl hll
  refine spec_of_awp (fn := Try.f78) Try.func78 (by kernel_rfl) rfl ?_
  intro w0 C0
  simp only [Try.ntmps78, litI, litB, litS, List.length_cons, List.length_nil, Nat.reduceAdd, Nat.reduceSub, List.replicate_succ, List.replicate_zero, List.cons_append, List.nil_append]
  repeat' first
    | refine awp_seq ?_
    | refine awp_block ?_
    | refine awp_skip ?_
    | (refine reg _ (by (simp only [List.map_cons, List.map_nil]; rfl)) rfl ?_; intro K hK)
    | (refine awp_cond _ (by rfl) ?_ ?_ <;> (intro hb; first | (cases hb; done) | (have ht : true = true := hb; clear ht hb) | (have ht : false = false := hb; clear ht hb) | (simp only [hb]) | skip))
    | (refine awp_exit ?_; simp only [thenA, blockA, scopeA, reduceIte, RetQ, Nat.reduceEqDiff])
    | (refine awp_ret ?_; simp only [thenA, blockA, scopeA, RetQ])
    | (refine ev_nil (hK _ ?_); clear hK K)
    | (apply ev_call0; (case hys => (simp only [go_sem]; try rfl)); (case hs => first | exact h69 ..); (case hok | hσ => (simp only [go_sem]; try rfl)))
    | (apply ev_step0; (case hr | hσ => (simp only [go_sem]; try rfl)); (case hc => (first | trivial | decide | (simp only [inB, sliceOk, appendOk, rowsOk]; omega) | (simp [inB, sliceOk, appendOk, rowsOk]; omega))))
    | (apply ev_step; (case hr => (simp only [go_sem]; try rfl)); (case hσ => (intro g u; simp only [go_sem]; try rfl)); (case hc => (first | trivial | decide | (simp only [inB, sliceOk, appendOk, rowsOk]; omega) | (simp [inB, sliceOk, appendOk, rowsOk]; omega))); intro g u; (try clear u); (try clear g))
    | fail
  all_goals (refine resR_one T_ok rfl _ (by (simp only [go_sem, resA]; rfl)) (by first | trivial | (simp only [go_sem, resA])) (by first | trivial | (simp only [go_sem])) ?_; simp only [go_sem])
  exact LeA.refl _
theorem f82_spec (r : Rw) (f : Nat) (ds : List Dat) (c : Int) (hp : Spec Try.prog f ([.agg (rwA r)] ++ ds.map capA) (litI .i64 c)) : Spec Try.prog 82 [.agg (rwA r), litI .i64 0, .el [.fn (.func f) ds] 0] (litI .i64 c) := by
  have hcl := fun o => cap_cl o ds
  have hok := fun o => cap_ok o ds
  have hids := cap_ids ds
  refine spec_of_awp (fn := Try.f82) Try.func82 (by kernel_rfl) rfl ?_
  intro w0 C0
  simp only [Try.ntmps82, litI, litB, litS, List.length_cons, List.length_nil, Nat.reduceAdd, Nat.reduceSub, List.replicate_succ, List.replicate_zero, List.cons_append, List.nil_append]
  repeat' first
    | refine awp_seq ?_
    | refine awp_block ?_
    | refine awp_skip ?_
    | (refine reg _ (by (simp only [List.map_cons, List.map_nil]; rfl)) rfl ?_; intro K hK)
    | (refine awp_cond _ (by rfl) ?_ ?_ <;> (intro hb; first | (cases hb; done) | (have ht : true = true := hb; clear ht hb) | (have ht : false = false := hb; clear ht hb) | (simp only [hb]) | skip))
    | (refine awp_exit ?_; simp only [thenA, blockA, scopeA, reduceIte, RetQ, Nat.reduceEqDiff])
    | (refine awp_ret ?_; simp only [thenA, blockA, scopeA, RetQ])
    | (refine ev_nil (hK _ ?_); clear hK K)
    | (apply ev_callC; (case hf | hys => (simp only [go_sem, hcl, hok, hids]; try rfl)); (case hs => first | exact hp ..); (case hok | hσ => (simp only [go_sem, hcl, hok, hids]; try rfl)))
    | (apply ev_step0; (case hr | hσ => (simp only [go_sem, hcl, hok, hids]; try rfl)); (case hc => (first | trivial | decide | (simp only [inB, sliceOk, appendOk, rowsOk]; omega) | (simp [inB, sliceOk, appendOk, rowsOk]; omega))))
    | (apply ev_step; (case hr => (simp only [go_sem, hcl, hok, hids]; try rfl)); (case hσ => (intro g u; simp only [go_sem, hcl, hok, hids]; try rfl)); (case hc => (first | trivial | decide | (simp only [inB, sliceOk, appendOk, rowsOk]; omega) | (simp [inB, sliceOk, appendOk, rowsOk]; omega))); intro g u; (try clear u); (try clear g))
    | fail
  all_goals (refine resR_one T_ok rfl _ (by (simp only [go_sem, resA]; rfl)) (by first | trivial | (simp only [go_sem, resA])) (by first | trivial | (simp only [go_sem])) ?_; simp only [go_sem])
  exact LeA.refl _
end
section
set_option linter.unusedVariables false
set_option linter.unusedSimpArgs false
open Go.RowKit
attribute [local irreducible] AWp evOps evD
/-- The rows below come first. -/
def Mono (c : Rw → Int) (l : List Rw) : Prop := ∀ i j, i ≤ j → j < l.length → c (l.getD j []) < 0 → c (l.getD i []) < 0
def lowR (c : Rw → Int) (l : List Rw) : Nat := l.findIdx fun r => !decide (c r < 0)
def hitR (c : Rw → Int) (l : List Rw) : Bool := decide (lowR c l < l.length) && (c (l.getD (lowR c l) []) == 0)
theorem lowR_eq {c : Rw → Int} {l : List Rw} {n : Nat} (hn : n ≤ l.length) (h1 : ∀ i, i < n → c (l.getD i []) < 0) (h2 : ∀ i, n ≤ i → i < l.length → ¬ c (l.getD i []) < 0) : lowR c l = n := by
  have hg : ∀ i (h : i < l.length), l.getD i [] = l[i] := fun i h => by simp [List.getD_eq_getElem?_getD, h]
  unfold lowR
  rcases Nat.lt_trichotomy (l.findIdx fun r => !decide (c r < 0)) n with h | h | h
  · have hl : (l.findIdx fun r => !decide (c r < 0)) < l.length := by omega
    have h3 := List.findIdx_getElem (w := hl)
    have h4 := h1 _ h
    rw [hg _ hl] at h4
    simp [h4] at h3
  · exact h
  · have hl : n < l.length := Nat.lt_of_lt_of_le h List.findIdx_le_length
    have h3 := List.not_of_lt_findIdx h
    have h4 := h2 n (Nat.le_refl _) hl
    rw [hg _ hl] at h4
    simp [h4] at h3
theorem shr1 {n : Nat} (h : n ≤ 1000000) : shrI .u64 (n : Int) 1 = ((n / 2 : Nat) : Int) := by
  unfold shrI
  show (n : Int).fdiv (2 ^ 1) = _
  rw [Int.fdiv_eq_ediv_of_nonneg _ (by decide)]
  push_cast
  rfl
set_option maxHeartbeats 8000000 in
set_option maxRecDepth 10000 in
theorem f81_spec {fv : AV} {f : Nat} {caps : List AV} (hfn : IsFn fv f caps) (l : List Rw) (c : Rw → Int) (hp : ∀ r ∈ l, Spec Try.prog f ([.agg (rwA r), litI .i64 0] ++ caps) (litI .i64 (c r))) (hm : Mono c l) (hll : l.length ≤ 1000) : Spec Try.prog 81 [.d (rwsD l), litI .i64 0, fv] (.tup [litI .i64 (lowR c l : Int), litB (hitR c l)]) := by
  have hcl := hfn.cl
  have hok := hfn.ok
  have hids := hfn.ids
  refine spec_of_awp (fn := Try.f81) Try.func81 (by kernel_rfl) rfl ?_
  intro w0 C0
  simp only [Try.ntmps81, litI, litB, litS, List.length_cons, List.length_nil, Nat.reduceAdd, Nat.reduceSub, List.replicate_succ, List.replicate_zero, List.cons_append, List.nil_append]
  repeat' first
    | refine awp_seq ?_
    | refine awp_block ?_
    | refine awp_skip ?_
    | (refine reg _ (by (simp only [List.map_cons, List.map_nil]; rfl)) rfl ?_; intro K hK)
    | (refine awp_cond _ (by rfl) ?_ ?_ <;> (intro hb; first | (cases hb; done) | (have ht : true = true := hb; clear ht hb) | (have ht : false = false := hb; clear ht hb) | (simp only [hb]) | skip))
    | (refine awp_exit ?_; simp only [thenA, blockA, scopeA, reduceIte, RetQ, Nat.reduceEqDiff])
    | (refine awp_ret ?_; simp only [thenA, blockA, scopeA, RetQ])
    | (refine ev_nil (hK _ ?_); clear hK K)
    | (apply ev_guardU; (case hj | hu | hσ => (simp only [go_sem, hcl, hok, hids]; try rfl)))
    | (refine ev_guardT _ _ (by (simp only [go_sem, hcl, hok, hids]; rfl)) (by (simp only [go_sem, hcl, hok, hids]; rfl)) ?_ ?_ <;> (intro hb; first | (cases hb; done) | (have ht : true = true := hb; clear ht hb) | (have ht : false = false := hb; clear ht hb) | (simp only [hb]) | skip))
    | (refine ev_guardF _ _ (by (simp only [go_sem, hcl, hok, hids]; rfl)) (by (simp only [go_sem, hcl, hok, hids]; rfl)) ?_ ?_ <;> (intro hb; first | (cases hb; done) | (have ht : true = true := hb; clear ht hb) | (have ht : false = false := hb; clear ht hb) | (simp only [hb]) | skip))
    | (apply ev_step0; (case hr | hσ => (simp only [go_sem, hcl, hok, hids]; try rfl)); (case hc => (first | trivial | decide | (simp only [inB, sliceOk, appendOk, rowsOk]; omega) | (simp [inB, sliceOk, appendOk, rowsOk]; omega))))
    | (apply ev_step; (case hr => (simp only [go_sem, hcl, hok, hids]; try rfl)); (case hσ => (intro g u; simp only [go_sem, hcl, hok, hids]; try rfl)); (case hc => (first | trivial | decide | (simp only [inB, sliceOk, appendOk, rowsOk]; omega) | (simp [inB, sliceOk, appendOk, rowsOk]; omega))); intro g u; (try clear u); (try clear g))
    | fail
  refine awp_loopI (fun j : Nat × Nat => j.1 ≤ j.2 ∧ j.2 ≤ l.length ∧ (∀ i, i < j.1 → c (l.getD i []) < 0) ∧ (∀ i, j.2 ≤ i → i < l.length → ¬ c (l.getD i []) < 0)) (fun j => j.2 - j.1) (fun j => ⟨[.d (rwsD l), litI .i64 0, fv, .any, .any, .any, litI .i64 0, litB false, litI .i64 l.length, litI .i64 j.1, litI .i64 j.2, .any, .any, .any, .any, .any, .any, .any, .any, .any, .any, .any, .any, .any, .any, .any, .any, .any, .any, .any, .any, .any, .any, .any, .any, .any, .any, .any, .any, .any, .any, .any, .any, .any, .any, .any, .any, .any, .any], [.no, .no, .no, .no, .no, .no, .no, .no, .no, .no, .no, .no, .no, .no, .no, .no, .no, .no, .no, .no, .no, .no, .no, .no, .no, .no, .no, .no, .no, .no, .no, .no, .no, .no, .no, .no, .no, .no, .no, .no, .no, .no, .no, .no, .no, .no, .no, .no, .no]⟩) (0, l.length) ⟨by simp, by simp, fun i h => by simp at h, fun i h1 h2 => by simp only at h1; omega⟩ ?_ ?_
  · refine Wk.mk ?_ ?_
    all_goals (repeat' first | exact trivial | exact LeA.refl _ | exact LeA.any _ | exact LeO.refl _ | exact LeO.no _ | exact LeA.nil _ | exact LeA.nilOwn _ | exact LeO.nil _ _ _ | refine LeO.box ?_ | (refine LeA.i ?_; (first | rfl | (push_cast; rfl) | (rw [wrap_id (by omega)]; push_cast; omega) | (simp [wrap_id]; omega))) | refine ⟨?_, ?_⟩)
  rintro ⟨a, b⟩ ⟨hab, hb, hlo, hhi⟩
  simp only [litI, litB] at hab hb hlo hhi ⊢
  by_cases h1 : a < b
  · have d1 : decide ((a : Int) < (b : Int)) = true := decide_eq_true (by omega)
    have w1 : IntKind.i64.wrap ((a : Int) + (b : Int)) = ((a + b : Nat) : Int) := by rw [wrap_id (by omega)]; push_cast; rfl
    have w2 : IntKind.u64.wrap ((a + b : Nat) : Int) = ((a + b : Nat) : Int) := by simp [IntKind.wrap, IntKind.bits, IntKind.signed]; omega
    have w3 := shr1 (n := a + b) (by omega)
    have hk : (a + b) / 2 < b := by omega
    have hk2 : a ≤ (a + b) / 2 := by omega
    obtain ⟨k, hkk⟩ : ∃ k, (a + b) / 2 = k := ⟨_, rfl⟩
    rw [hkk] at w3 hk hk2
    have w4 : IntKind.i64.wrap ((k : Nat) : Int) = k := wrap_id (by omega)
    have w5 : IntKind.i64.wrap ((k : Int) + 1) = ((k + 1 : Nat) : Int) := by rw [wrap_id (by omega)]; push_cast; rfl
    have hx := rws_at l (i := k) (by omega)
    have hpk := hp _ (getD_mem' (l := l) (i := k) (by omega) [])
    have hmk := hm
    by_cases hc : c (l.getD k []) < 0
    · have d2 : decide (c (l.getD k []) < 0) = true := decide_eq_true hc
      have hlo' : ∀ i, i < k + 1 → c (l.getD i []) < 0 := fun i hi => hm i k (by omega) (by omega) hc
      generalize l.getD k [] = x at *
      repeat' first
        | refine awp_seq ?_
        | refine awp_block ?_
        | refine awp_skip ?_
        | (refine reg _ (by (simp only [List.map_cons, List.map_nil]; rfl)) rfl ?_; intro K hK)
        | (refine awp_cond _ (by rfl) ?_ ?_ <;> (intro hb; first | (cases hb; done) | (have ht : true = true := hb; clear ht hb) | (have ht : false = false := hb; clear ht hb) | (simp only [hb]) | skip))
        | (refine awp_exit ?_; simp only [thenA, blockA, scopeA, reduceIte, RetQ, Nat.reduceEqDiff])
        | (refine awp_ret ?_; simp only [thenA, blockA, scopeA, RetQ])
        | (refine ev_nil (hK _ ?_); clear hK K)
        | (apply ev_guardU; (case hj | hu | hσ => (simp only [go_sem, d1, w1, w2, w3, w4, w5, hx, hcl, hok, hids, d2]; try rfl)))
        | (refine ev_guardT _ _ (by (simp only [go_sem, d1, w1, w2, w3, w4, w5, hx, hcl, hok, hids, d2]; rfl)) (by (simp only [go_sem, d1, w1, w2, w3, w4, w5, hx, hcl, hok, hids, d2]; rfl)) ?_ ?_ <;> (intro hb; first | (cases hb; done) | (have ht : true = true := hb; clear ht hb) | (have ht : false = false := hb; clear ht hb) | (simp only [hb]) | skip))
        | (refine ev_guardF _ _ (by (simp only [go_sem, d1, w1, w2, w3, w4, w5, hx, hcl, hok, hids, d2]; rfl)) (by (simp only [go_sem, d1, w1, w2, w3, w4, w5, hx, hcl, hok, hids, d2]; rfl)) ?_ ?_ <;> (intro hb; first | (cases hb; done) | (have ht : true = true := hb; clear ht hb) | (have ht : false = false := hb; clear ht hb) | (simp only [hb]) | skip))
        | refine ev_callFn hfn _ _ (by (simp only [go_sem, d1, w1, w2, w3, w4, w5, hx, hcl, hok, hids, d2])) (by (simp only [go_sem, d1, w1, w2, w3, w4, w5, hx, hcl, hok, hids, d2]; try rfl)) (hpk) (by (simp only [go_sem, d1, w1, w2, w3, w4, w5, hx, hcl, hok, hids, d2])) _ (by (simp only [go_sem, d1, w1, w2, w3, w4, w5, hx, hcl, hok, hids, d2]; rfl)) ?_
        | (apply ev_step0; (case hr | hσ => (simp only [go_sem, d1, w1, w2, w3, w4, w5, hx, hcl, hok, hids, d2]; try rfl)); (case hc => (first | trivial | decide | (simp only [inB, sliceOk, appendOk, rowsOk]; omega) | (simp [inB, sliceOk, appendOk, rowsOk]; omega))))
        | (apply ev_step; (case hr => (simp only [go_sem, d1, w1, w2, w3, w4, w5, hx, hcl, hok, hids, d2]; try rfl)); (case hσ => (intro g u; simp only [go_sem, d1, w1, w2, w3, w4, w5, hx, hcl, hok, hids, d2]; try rfl)); (case hc => (first | trivial | decide | (simp only [inB, sliceOk, appendOk, rowsOk]; omega) | (simp [inB, sliceOk, appendOk, rowsOk]; omega))); intro g u; (try clear u); (try clear g))
        | fail
      refine Exists.intro (k + 1, b) ⟨⟨by show k + 1 ≤ b; omega, hb, hlo', hhi⟩, by show b - (k + 1) < b - a; omega, ?_⟩
      refine Wk.mk ?_ ?_
      all_goals (repeat' first | exact trivial | exact LeA.refl _ | exact LeA.any _ | exact LeO.refl _ | exact LeO.no _ | exact LeA.nil _ | exact LeA.nilOwn _ | exact LeO.nil _ _ _ | refine LeO.box ?_ | (refine LeA.i ?_; (first | rfl | (push_cast; rfl) | (rw [wrap_id (by omega)]; push_cast; omega) | (simp [wrap_id]; omega))) | refine ⟨?_, ?_⟩)
    · have d2 : decide (c (l.getD k []) < 0) = false := decide_eq_false hc
      have hhi' : ∀ i, k ≤ i → i < l.length → ¬ c (l.getD i []) < 0 := fun i h1 h2 h3 => hc (hm k i h1 h2 h3)
      generalize l.getD k [] = x at *
      repeat' first
        | refine awp_seq ?_
        | refine awp_block ?_
        | refine awp_skip ?_
        | (refine reg _ (by (simp only [List.map_cons, List.map_nil]; rfl)) rfl ?_; intro K hK)
        | (refine awp_cond _ (by rfl) ?_ ?_ <;> (intro hb; first | (cases hb; done) | (have ht : true = true := hb; clear ht hb) | (have ht : false = false := hb; clear ht hb) | (simp only [hb]) | skip))
        | (refine awp_exit ?_; simp only [thenA, blockA, scopeA, reduceIte, RetQ, Nat.reduceEqDiff])
        | (refine awp_ret ?_; simp only [thenA, blockA, scopeA, RetQ])
        | (refine ev_nil (hK _ ?_); clear hK K)
        | (apply ev_guardU; (case hj | hu | hσ => (simp only [go_sem, d1, w1, w2, w3, w4, w5, hx, hcl, hok, hids, d2]; try rfl)))
        | (refine ev_guardT _ _ (by (simp only [go_sem, d1, w1, w2, w3, w4, w5, hx, hcl, hok, hids, d2]; rfl)) (by (simp only [go_sem, d1, w1, w2, w3, w4, w5, hx, hcl, hok, hids, d2]; rfl)) ?_ ?_ <;> (intro hb; first | (cases hb; done) | (have ht : true = true := hb; clear ht hb) | (have ht : false = false := hb; clear ht hb) | (simp only [hb]) | skip))
        | (refine ev_guardF _ _ (by (simp only [go_sem, d1, w1, w2, w3, w4, w5, hx, hcl, hok, hids, d2]; rfl)) (by (simp only [go_sem, d1, w1, w2, w3, w4, w5, hx, hcl, hok, hids, d2]; rfl)) ?_ ?_ <;> (intro hb; first | (cases hb; done) | (have ht : true = true := hb; clear ht hb) | (have ht : false = false := hb; clear ht hb) | (simp only [hb]) | skip))
        | refine ev_callFn hfn _ _ (by (simp only [go_sem, d1, w1, w2, w3, w4, w5, hx, hcl, hok, hids, d2])) (by (simp only [go_sem, d1, w1, w2, w3, w4, w5, hx, hcl, hok, hids, d2]; try rfl)) (hpk) (by (simp only [go_sem, d1, w1, w2, w3, w4, w5, hx, hcl, hok, hids, d2])) _ (by (simp only [go_sem, d1, w1, w2, w3, w4, w5, hx, hcl, hok, hids, d2]; rfl)) ?_
        | (apply ev_step0; (case hr | hσ => (simp only [go_sem, d1, w1, w2, w3, w4, w5, hx, hcl, hok, hids, d2]; try rfl)); (case hc => (first | trivial | decide | (simp only [inB, sliceOk, appendOk, rowsOk]; omega) | (simp [inB, sliceOk, appendOk, rowsOk]; omega))))
        | (apply ev_step; (case hr => (simp only [go_sem, d1, w1, w2, w3, w4, w5, hx, hcl, hok, hids, d2]; try rfl)); (case hσ => (intro g u; simp only [go_sem, d1, w1, w2, w3, w4, w5, hx, hcl, hok, hids, d2]; try rfl)); (case hc => (first | trivial | decide | (simp only [inB, sliceOk, appendOk, rowsOk]; omega) | (simp [inB, sliceOk, appendOk, rowsOk]; omega))); intro g u; (try clear u); (try clear g))
        | fail
      refine Exists.intro (a, k) ⟨⟨by show a ≤ k; omega, by show k ≤ l.length; omega, hlo, hhi'⟩, by show k - a < b - a; omega, ?_⟩
      refine Wk.mk ?_ ?_
      all_goals (repeat' first | exact trivial | exact LeA.refl _ | exact LeA.any _ | exact LeO.refl _ | exact LeO.no _ | exact LeA.nil _ | exact LeA.nilOwn _ | exact LeO.nil _ _ _ | refine LeO.box ?_ | (refine LeA.i ?_; (first | rfl | (push_cast; rfl) | (rw [wrap_id (by omega)]; push_cast; omega) | (simp [wrap_id]; omega))) | refine ⟨?_, ?_⟩)
  · have d1 : decide ((a : Int) < (b : Int)) = false := decide_eq_false (by omega)
    have hab' : a = b := by omega
    subst hab'
    have hlow := lowR_eq hb hlo hhi
    rw [hitR, hlow]
    by_cases h2 : a < l.length
    · have d2 : decide ((a : Int) < (l.length : Int)) = true := decide_eq_true (by omega)
      have hx := rws_at l h2
      have hpk := hp _ (getD_mem' h2 [])
      rw [decide_eq_true h2, Bool.true_and]
      generalize l.getD a [] = x at *
      repeat' first
        | refine awp_seq ?_
        | refine awp_block ?_
        | refine awp_skip ?_
        | (refine reg _ (by (simp only [List.map_cons, List.map_nil]; rfl)) rfl ?_; intro K hK)
        | (refine awp_cond _ (by rfl) ?_ ?_ <;> (intro hb; first | (cases hb; done) | (have ht : true = true := hb; clear ht hb) | (have ht : false = false := hb; clear ht hb) | (simp only [hb]) | skip))
        | (refine awp_exit ?_; simp only [thenA, blockA, scopeA, reduceIte, RetQ, Nat.reduceEqDiff])
        | (refine awp_ret ?_; simp only [thenA, blockA, scopeA, RetQ])
        | (refine ev_nil (hK _ ?_); clear hK K)
        | (apply ev_guardU; (case hj | hu | hσ => (simp only [go_sem, d1, d2, hx, hcl, hok, hids]; try rfl)))
        | (refine ev_guardT _ _ (by (simp only [go_sem, d1, d2, hx, hcl, hok, hids]; rfl)) (by (simp only [go_sem, d1, d2, hx, hcl, hok, hids]; rfl)) ?_ ?_ <;> (intro hb; first | (cases hb; done) | (have ht : true = true := hb; clear ht hb) | (have ht : false = false := hb; clear ht hb) | (simp only [hb]) | skip))
        | (refine ev_guardF _ _ (by (simp only [go_sem, d1, d2, hx, hcl, hok, hids]; rfl)) (by (simp only [go_sem, d1, d2, hx, hcl, hok, hids]; rfl)) ?_ ?_ <;> (intro hb; first | (cases hb; done) | (have ht : true = true := hb; clear ht hb) | (have ht : false = false := hb; clear ht hb) | (simp only [hb]) | skip))
        | refine ev_callFn hfn _ _ (by (simp only [go_sem, d1, d2, hx, hcl, hok, hids])) (by (simp only [go_sem, d1, d2, hx, hcl, hok, hids]; try rfl)) (hpk) (by (simp only [go_sem, d1, d2, hx, hcl, hok, hids])) _ (by (simp only [go_sem, d1, d2, hx, hcl, hok, hids]; rfl)) ?_
        | (apply ev_step0; (case hr | hσ => (simp only [go_sem, d1, d2, hx, hcl, hok, hids]; try rfl)); (case hc => (first | trivial | decide | (simp only [inB, sliceOk, appendOk, rowsOk]; omega) | (simp [inB, sliceOk, appendOk, rowsOk]; omega))))
        | (apply ev_step; (case hr => (simp only [go_sem, d1, d2, hx, hcl, hok, hids]; try rfl)); (case hσ => (intro g u; simp only [go_sem, d1, d2, hx, hcl, hok, hids]; try rfl)); (case hc => (first | trivial | decide | (simp only [inB, sliceOk, appendOk, rowsOk]; omega) | (simp [inB, sliceOk, appendOk, rowsOk]; omega))); intro g u; (try clear u); (try clear g))
        | fail
      all_goals (refine resR_more T_ok rfl (by decide) _ (by (simp only [go_sem, resA]; rfl)) (by (intro rv hrv; simp only [List.mem_cons, List.not_mem_nil, or_false] at hrv; rcases hrv with rfl | rfl <;> first | trivial | simp only [go_sem, resA])) (by first | trivial | (simp only [go_sem])) ?_; simp only [go_sem])
      exact ⟨LeA.refl _, LeA.refl _, trivial⟩
    · have d2 : decide ((a : Int) < (l.length : Int)) = false := decide_eq_false (by omega)
      rw [decide_eq_false h2, Bool.false_and]
      repeat' first
        | refine awp_seq ?_
        | refine awp_block ?_
        | refine awp_skip ?_
        | (refine reg _ (by (simp only [List.map_cons, List.map_nil]; rfl)) rfl ?_; intro K hK)
        | (refine awp_cond _ (by rfl) ?_ ?_ <;> (intro hb; first | (cases hb; done) | (have ht : true = true := hb; clear ht hb) | (have ht : false = false := hb; clear ht hb) | (simp only [hb]) | skip))
        | (refine awp_exit ?_; simp only [thenA, blockA, scopeA, reduceIte, RetQ, Nat.reduceEqDiff])
        | (refine awp_ret ?_; simp only [thenA, blockA, scopeA, RetQ])
        | (refine ev_nil (hK _ ?_); clear hK K)
        | (apply ev_guardU; (case hj | hu | hσ => (simp only [go_sem, d1, d2, hcl, hok, hids]; try rfl)))
        | (refine ev_guardT _ _ (by (simp only [go_sem, d1, d2, hcl, hok, hids]; rfl)) (by (simp only [go_sem, d1, d2, hcl, hok, hids]; rfl)) ?_ ?_ <;> (intro hb; first | (cases hb; done) | (have ht : true = true := hb; clear ht hb) | (have ht : false = false := hb; clear ht hb) | (simp only [hb]) | skip))
        | (refine ev_guardF _ _ (by (simp only [go_sem, d1, d2, hcl, hok, hids]; rfl)) (by (simp only [go_sem, d1, d2, hcl, hok, hids]; rfl)) ?_ ?_ <;> (intro hb; first | (cases hb; done) | (have ht : true = true := hb; clear ht hb) | (have ht : false = false := hb; clear ht hb) | (simp only [hb]) | skip))
        | (apply ev_step0; (case hr | hσ => (simp only [go_sem, d1, d2, hcl, hok, hids]; try rfl)); (case hc => (first | trivial | decide | (simp only [inB, sliceOk, appendOk, rowsOk]; omega) | (simp [inB, sliceOk, appendOk, rowsOk]; omega))))
        | (apply ev_step; (case hr => (simp only [go_sem, d1, d2, hcl, hok, hids]; try rfl)); (case hσ => (intro g u; simp only [go_sem, d1, d2, hcl, hok, hids]; try rfl)); (case hc => (first | trivial | decide | (simp only [inB, sliceOk, appendOk, rowsOk]; omega) | (simp [inB, sliceOk, appendOk, rowsOk]; omega))); intro g u; (try clear u); (try clear g))
        | fail
      all_goals (refine resR_more T_ok rfl (by decide) _ (by (simp only [go_sem, resA]; rfl)) (by (intro rv hrv; simp only [List.mem_cons, List.not_mem_nil, or_false] at hrv; rcases hrv with rfl | rfl <;> first | trivial | simp only [go_sem, resA])) (by first | trivial | (simp only [go_sem])) ?_; simp only [go_sem])
      exact ⟨LeA.refl _, LeA.refl _, trivial⟩
theorem f67_spec (l : List Rw) (c : Rw → Int) (f : Nat) (caps : List AV) (ds : List Dat) (hcd : ds.map capA = caps) (had : allD caps = some ds) (h1 : ∀ o, clL o caps = caps) (h2 : ∀ o, clOkL o caps = True) (h3 : idsOfL caps = [])
    (hp : ∀ r ∈ l, Spec Try.prog f ([.agg (rwA r)] ++ caps) (litI .i64 (c r))) (hm : Mono c l) (hll : l.length ≤ 1000) : Spec Try.prog 67 [.d (rwsD l), .clo (.func f) caps] (.tup [litI .i64 (lowR c l : Int), litB (hitR c l)]) := by
  have h81 := f81_spec (IsFn.clo 82 [.el [.fn (.func f) ds] 0] (fun _ => rfl) (fun _ => by simp [clOkL, clOk]) rfl) l c (fun r hr => f82_spec r f ds (c r) (by rw [hcd]; exact hp r hr)) hm hll
  refine spec_of_awp (fn := Try.f67) Try.func67 (by kernel_rfl) rfl ?_
  intro w0 C0
  simp only [Try.ntmps67, litI, litB, litS, List.length_cons, List.length_nil, Nat.reduceAdd, Nat.reduceSub, List.replicate_succ, List.replicate_zero, List.cons_append, List.nil_append]
  repeat' first
    | refine awp_seq ?_
    | refine awp_block ?_
    | refine awp_skip ?_
    | (refine reg _ (by (simp only [List.map_cons, List.map_nil]; rfl)) rfl ?_; intro K hK)
    | (refine awp_cond _ (by rfl) ?_ ?_ <;> (intro hb; first | (cases hb; done) | (have ht : true = true := hb; clear ht hb) | (have ht : false = false := hb; clear ht hb) | (simp only [hb]) | skip))
    | (refine awp_exit ?_; simp only [thenA, blockA, scopeA, reduceIte, RetQ, Nat.reduceEqDiff])
    | (refine awp_ret ?_; simp only [thenA, blockA, scopeA, RetQ])
    | (refine ev_nil (hK _ ?_); clear hK K)
    | (apply ev_call0; (case hys => (simp only [go_sem, h1, h2, h3, had]; try rfl)); (case hs => first | exact h81 ..); (case hok | hσ => (simp only [go_sem, h1, h2, h3, had]; try rfl)))
    | (apply ev_step0; (case hr | hσ => (simp only [go_sem, h1, h2, h3, had]; try rfl)); (case hc => (first | trivial | decide | (simp only [inB, sliceOk, appendOk, rowsOk]; omega) | (simp [inB, sliceOk, appendOk, rowsOk]; omega))))
    | (apply ev_step; (case hr => (simp only [go_sem, h1, h2, h3, had]; try rfl)); (case hσ => (intro g u; simp only [go_sem, h1, h2, h3, had]; try rfl)); (case hc => (first | trivial | decide | (simp only [inB, sliceOk, appendOk, rowsOk]; omega) | (simp [inB, sliceOk, appendOk, rowsOk]; omega))); intro g u; (try clear u); (try clear g))
    | fail
  all_goals (refine resR_more T_ok rfl (by decide) _ (by (simp only [go_sem, resA]; rfl)) (by (intro rv hrv; simp only [List.mem_cons, List.not_mem_nil, or_false] at hrv; rcases hrv with rfl | rfl <;> first | trivial | simp only [go_sem, resA])) (by first | trivial | (simp only [go_sem])) ?_; simp only [go_sem])
  exact ⟨LeA.refl _, LeA.refl _, trivial⟩
end
section
set_option linter.unusedVariables false
set_option linter.unusedSimpArgs false
open Go.RowKit
attribute [local irreducible] AWp evOps evD
theorem getD_get {α : Type} {l : List α} {i : Nat} (h : i < l.length) (d : α) : l.getD i d = l[i] := by simp [List.getD_eq_getElem?_getD, h]
theorem mono_of_srt {key : List Vl} {l : List Rw} (h : Srt key.length l) : Mono (cmpK key) l := fun i j hij hj hc => by
  rcases Nat.lt_or_ge i j with hlt | hge
  · have h1 := (List.pairwise_iff_getElem.1 h) i j (by omega) hj hlt
    rw [getD_get (by omega)]
    rw [getD_get hj] at hc
    exact cmpVs_cmp.trans _ _ _ h1 hc
  · have : i = j := by omega
    subst this; exact hc
theorem hit_iff {key : List Vl} {l : List Rw} (h : Srt key.length l) : hitR (cmpK key) l = !decide (findR key l 0 < 0) := by
  have hm := mono_of_srt h
  by_cases he : ∃ r ∈ l, keyR r key.length = key
  · obtain ⟨r, hr, hk⟩ := he
    have h1 : ¬ findR key l 0 < 0 := fun hn => ((findR_neg key l 0).1 hn) r hr hk
    rw [decide_eq_false h1]
    obtain ⟨i, hi, rfl⟩ := List.getElem_of_mem hr
    have hc : ∀ j (hj : j < l.length), j < i → cmpK key (l.getD j []) < 0 := fun j hj hji => by
      have h2 := (List.pairwise_iff_getElem.1 h) j i hj hi hji
      rw [getD_get hj]
      rw [hk] at h2; exact h2
    have hz : cmpK key (l.getD i []) = 0 := by rw [getD_get hi, cmpK, hk]; exact cmpVs_cmp.self key
    have hl : lowR (cmpK key) l = i := lowR_eq (by omega) (fun j hj => hc j (by omega) hj) (fun j h1 h2 h3 => by
      have := hm i j h1 h2 h3
      omega)
    rw [hitR, hl, decide_eq_true hi, hz]; rfl
  · have h1 : findR key l 0 < 0 := (findR_neg key l 0).2 fun r hr hk => he ⟨r, hr, hk⟩
    rw [decide_eq_true h1, hitR]
    by_cases hlt : lowR (cmpK key) l < l.length
    · rw [decide_eq_true hlt, Bool.true_and]
      have : cmpK key (l.getD (lowR (cmpK key) l) []) ≠ 0 := fun e => he ⟨_, getD_mem' hlt [], (cmpVs_cmp.eq _ _).1 e⟩
      simpa using this
    · rw [decide_eq_false hlt]; rfl
theorem f62_spec (l : List Rw) (key : List Vl) (h : Srt key.length l) (hl : ∀ r ∈ l, key.length ≤ r.length ∧ r.length ≤ 1000) (hll : l.length ≤ 1000) : Spec Try.prog 62 [.d (rwsD l), .d (vls key)] (litB (!decide (findR key l 0 < 0))) := by
  have h67 := f67_spec l (cmpK key) 78 [.el [vls key] 0] [.ptr [vls key] 0] rfl rfl (fun _ => rfl) (fun _ => by simp [clOkL, clOk]) rfl (fun r hr => f78_spec r key (hl r hr).1 (hl r hr).2) (mono_of_srt h) hll
  rw [hit_iff h] at h67
  refine spec_of_awp (fn := Try.f62) Try.func62 (by kernel_rfl) rfl ?_
  intro w0 C0
  simp only [Try.ntmps62, litI, litB, litS, List.length_cons, List.length_nil, Nat.reduceAdd, Nat.reduceSub, List.replicate_succ, List.replicate_zero, List.cons_append, List.nil_append]
  repeat' first
    | refine awp_seq ?_
    | refine awp_block ?_
    | refine awp_skip ?_
    | (refine reg _ (by (simp only [List.map_cons, List.map_nil]; rfl)) rfl ?_; intro K hK)
    | (refine awp_cond _ (by rfl) ?_ ?_ <;> (intro hb; first | (cases hb; done) | (have ht : true = true := hb; clear ht hb) | (have ht : false = false := hb; clear ht hb) | (simp only [hb]) | skip))
    | (refine awp_exit ?_; simp only [thenA, blockA, scopeA, reduceIte, RetQ, Nat.reduceEqDiff])
    | (refine awp_ret ?_; simp only [thenA, blockA, scopeA, RetQ])
    | (refine ev_nil (hK _ ?_); clear hK K)
    | (apply ev_call0; (case hys => (simp only [go_sem]; try rfl)); (case hs => first | exact h67 ..); (case hok | hσ => (simp only [go_sem]; try rfl)))
    | (apply ev_step0; (case hr | hσ => (simp only [go_sem]; try rfl)); (case hc => (first | trivial | decide | (simp only [inB, sliceOk, appendOk, rowsOk]; omega) | (simp [inB, sliceOk, appendOk, rowsOk]; omega))))
    | (apply ev_step; (case hr => (simp only [go_sem]; try rfl)); (case hσ => (intro g u; simp only [go_sem]; try rfl)); (case hc => (first | trivial | decide | (simp only [inB, sliceOk, appendOk, rowsOk]; omega) | (simp [inB, sliceOk, appendOk, rowsOk]; omega))); intro g u; (try clear u); (try clear g))
    | fail
  all_goals (refine resR_one T_ok rfl _ (by (simp only [go_sem, resA]; rfl)) (by first | trivial | (simp only [go_sem, resA])) (by first | trivial | (simp only [go_sem])) ?_; simp only [go_sem])
  exact LeA.refl _
/-- States that fit and are sorted. -/
structure StS (s : Sch) (st : Stt) : Prop extends StOk s st where
  srt : ∀ t, t < s.tables.length → Srt (keyN s t) (st.getD t [])
abbrev rfA (r : Rf) : List AV := [litI .i64 (r.table : Int), litI .i64 (r.column : Int), litI .i64 (r.to : Int)]
theorem toV_len {s : Sch} {r : Rf} {l : Rw} (h : r.column + keyN s r.to ≤ l.length) : (toV s r l).length = keyN s r.to := by
  rw [toV, keyR_len, List.length_drop]; omega
theorem f37_spec (s : Sch) (st : Stt) (r : Rf) (l : Rw) (h : SchOk s) (hs : StS s st) (hr : r ∈ s.refs) (hl : RowOk (colN s r.table) l) : Spec Try.prog 37 [.agg (schA s), .agg (stA st), .agg (rfA r), .agg (rwA l)] (litB (brk s st r l)) := by
  have hrr := h.refs r hr
  have h1 : r.to < s.tables.length := by omega
  have hk := h.keys _ hrr.1
  have hk2 := h.keys _ h1
  have hln := hl.1
  have h44 := f44_spec s r l h1 (by omega) (by omega)
  have htl := toV_len (s := s) (r := r) (l := l) (by omega)
  have hx := stt_at st (i := r.to) (by have := hs.len; omega)
  have h62 := f62_spec (st.getD r.to []) (toV s r l) (by rw [htl]; exact hs.srt _ h1) (fun x hx => by have := (hs.rows _ h1 x hx).1; omega) (hs.few _ h1)
  have hsl := hs.len
  have hb : brk s st r l = (!nothing (toV s r l) && decide (findR (toV s r l) (st.getD r.to []) 0 < 0)) := rfl
  rw [hb]
  generalize toV s r l = key at *
  cases hn : nothing key with
  | true =>
    rw [hn] at h44
    simp only [Bool.not_true, Bool.not_false] at h44
    refine spec_of_awp (fn := Try.f37) Try.func37 (by kernel_rfl) rfl ?_
    intro w0 C0
    simp only [Try.ntmps37, litI, litB, litS, List.length_cons, List.length_nil, Nat.reduceAdd, Nat.reduceSub, List.replicate_succ, List.replicate_zero, List.cons_append, List.nil_append]
    repeat' first
      | refine awp_seq ?_
      | refine awp_block ?_
      | refine awp_skip ?_
      | (refine reg _ (by (simp only [List.map_cons, List.map_nil]; rfl)) rfl ?_; intro K hK)
      | (refine awp_cond _ (by rfl) ?_ ?_ <;> (intro hb; first | (cases hb; done) | (have ht : true = true := hb; clear ht hb) | (have ht : false = false := hb; clear ht hb) | (simp only [hb]) | skip))
      | (refine awp_exit ?_; simp only [thenA, blockA, scopeA, reduceIte, RetQ, Nat.reduceEqDiff])
      | (refine awp_ret ?_; simp only [thenA, blockA, scopeA, RetQ])
      | (refine ev_nil (hK _ ?_); clear hK K)
      | (apply ev_guardU; (case hj | hu | hσ => (simp only [go_sem, hx]; try rfl)))
      | (refine ev_guardT _ _ (by (simp only [go_sem, hx]; rfl)) (by (simp only [go_sem, hx]; rfl)) ?_ ?_ <;> (intro hb; first | (cases hb; done) | (have ht : true = true := hb; clear ht hb) | (have ht : false = false := hb; clear ht hb) | (simp only [hb]) | skip))
      | (refine ev_guardF _ _ (by (simp only [go_sem, hx]; rfl)) (by (simp only [go_sem, hx]; rfl)) ?_ ?_ <;> (intro hb; first | (cases hb; done) | (have ht : true = true := hb; clear ht hb) | (have ht : false = false := hb; clear ht hb) | (simp only [hb]) | skip))
      | (apply ev_call0; (case hys => (simp only [go_sem, hx]; try rfl)); (case hs => first | exact h44 ..); (case hok | hσ => (simp only [go_sem, hx]; try rfl)))
      | (apply ev_step0; (case hr | hσ => (simp only [go_sem, hx]; try rfl)); (case hc => (first | trivial | decide | (simp only [inB, sliceOk, appendOk, rowsOk]; omega) | (simp [inB, sliceOk, appendOk, rowsOk]; omega))))
      | (apply ev_step; (case hr => (simp only [go_sem, hx]; try rfl)); (case hσ => (intro g u; simp only [go_sem, hx]; try rfl)); (case hc => (first | trivial | decide | (simp only [inB, sliceOk, appendOk, rowsOk]; omega) | (simp [inB, sliceOk, appendOk, rowsOk]; omega))); intro g u; (try clear u); (try clear g))
      | fail
    all_goals (refine resR_one T_ok rfl _ (by (simp only [go_sem, resA]; rfl)) (by first | trivial | (simp only [go_sem, resA])) (by first | trivial | (simp only [go_sem])) ?_; simp only [go_sem])
    exact LeA.refl _
  | false =>
    rw [hn] at h44
    simp only [Bool.not_true, Bool.not_false] at h44
    refine spec_of_awp (fn := Try.f37) Try.func37 (by kernel_rfl) rfl ?_
    intro w0 C0
    simp only [Try.ntmps37, litI, litB, litS, List.length_cons, List.length_nil, Nat.reduceAdd, Nat.reduceSub, List.replicate_succ, List.replicate_zero, List.cons_append, List.nil_append]
    repeat' first
      | refine awp_seq ?_
      | refine awp_block ?_
      | refine awp_skip ?_
      | (refine reg _ (by (simp only [List.map_cons, List.map_nil]; rfl)) rfl ?_; intro K hK)
      | (refine awp_cond _ (by rfl) ?_ ?_ <;> (intro hb; first | (cases hb; done) | (have ht : true = true := hb; clear ht hb) | (have ht : false = false := hb; clear ht hb) | (simp only [hb]) | skip))
      | (refine awp_exit ?_; simp only [thenA, blockA, scopeA, reduceIte, RetQ, Nat.reduceEqDiff])
      | (refine awp_ret ?_; simp only [thenA, blockA, scopeA, RetQ])
      | (refine ev_nil (hK _ ?_); clear hK K)
      | (apply ev_guardU; (case hj | hu | hσ => (simp only [go_sem, hx]; try rfl)))
      | (refine ev_guardT _ _ (by (simp only [go_sem, hx]; rfl)) (by (simp only [go_sem, hx]; rfl)) ?_ ?_ <;> (intro hb; first | (cases hb; done) | (have ht : true = true := hb; clear ht hb) | (have ht : false = false := hb; clear ht hb) | (simp only [hb]) | skip))
      | (refine ev_guardF _ _ (by (simp only [go_sem, hx]; rfl)) (by (simp only [go_sem, hx]; rfl)) ?_ ?_ <;> (intro hb; first | (cases hb; done) | (have ht : true = true := hb; clear ht hb) | (have ht : false = false := hb; clear ht hb) | (simp only [hb]) | skip))
      | (apply ev_call0; (case hys => (simp only [go_sem, hx]; try rfl)); (case hs => first | exact h44 .. | exact h62 ..); (case hok | hσ => (simp only [go_sem, hx]; try rfl)))
      | (apply ev_step0; (case hr | hσ => (simp only [go_sem, hx]; try rfl)); (case hc => (first | trivial | decide | (simp only [inB, sliceOk, appendOk, rowsOk]; omega) | (simp [inB, sliceOk, appendOk, rowsOk]; omega))))
      | (apply ev_step; (case hr => (simp only [go_sem, hx]; try rfl)); (case hσ => (intro g u; simp only [go_sem, hx]; try rfl)); (case hc => (first | trivial | decide | (simp only [inB, sliceOk, appendOk, rowsOk]; omega) | (simp [inB, sliceOk, appendOk, rowsOk]; omega))); intro g u; (try clear u); (try clear g))
      | fail
    all_goals (refine resR_one T_ok rfl _ (by (simp only [go_sem, resA]; rfl)) (by first | trivial | (simp only [go_sem, resA])) (by first | trivial | (simp only [go_sem])) ?_; simp only [go_sem])
    exact LeA.b (by simp)
end
section
set_option linter.unusedVariables false
set_option linter.unusedSimpArgs false
open Go.RowKit
attribute [local irreducible] AWp evOps evD
theorem colSum_snoc (c : Nat) (x : Rw) : ∀ l : List Rw, colSum c (l ++ [x]) = colSum c l + numV (x.getD c nullC).v
  | [] => by simp [colSum]
  | y :: l => by simp only [List.cons_append, colSum, colSum_snoc c x l]; omega
theorem colSum_take (c : Nat) (l : List Rw) {i : Nat} (h : i < l.length) : colSum c (l.take (i + 1)) = colSum c (l.take i) + numV ((l.getD i []).getD c nullC).v := by
  have hab : l.take (i + 1) = l.take i ++ [l.getD i []] := by rw [List.take_succ_eq_append_getElem h]; simp [List.getD_eq_getElem?_getD, h]
  rw [hab, colSum_snoc]
theorem tq (a : Int) : a.tdiv 1000000000 * 1000000000 + a.tmod 1000000000 = a ∧ -1000000000 < a.tmod 1000000000 ∧ a.tmod 1000000000 < 1000000000 := by
  have h1 := Int.mul_tdiv_add_tmod a 1000000000
  have h2 := Int.tmod_lt_of_pos a (b := 1000000000) (by decide)
  have h3 := Int.lt_tmod_of_pos a (b := 1000000000) (by decide)
  omega
theorem small_f {n : Int} (h : n < -4000000000000000000 ∨ 4000000000000000000 < n) : small n = false := by
  unfold small maxSum
  rcases h with h | h
  · rw [decide_eq_false (by omega)]; rfl
  · rw [decide_eq_false (p := n ≤ _) (by omega), Bool.and_false]
theorem small_t {n : Int} (h : -4000000000000000000 ≤ n ∧ n ≤ 4000000000000000000) : small n = true := by
  unfold small maxSum
  rw [decide_eq_true (by omega), decide_eq_true (by omega)]; rfl
/-- What SumIn answers: a number, and an error. -/
def sumIn (s : Sch) (st : Stt) (i : Int) : Int × Int := if i < 0 ∨ (s.totals.length : Int) ≤ i then (0, 1) else if small (sumOf st (s.totals.getD i.toNat ttN)) = true then (sumOf st (s.totals.getD i.toNat ttN), 0) else (0, 2)
theorem f20_bad (s : Sch) (st : Stt) (i : Int) (hi : i < 0 ∨ (s.totals.length : Int) ≤ i) : Spec Try.prog 20 [.agg (schA s), .agg (stA st), litI .i64 i] (.agg [litI .i64 (sumIn s st i).1, litI .i64 (sumIn s st i).2]) := by
  rw [sumIn, if_pos hi]
  by_cases h0 : i < 0
  · have d0 : decide (i < 0) = true := decide_eq_true h0
    refine spec_of_awp (fn := Try.f20) Try.func20 (by kernel_rfl) rfl ?_
    intro w0 C0
    simp only [Try.ntmps20, litI, litB, litS, List.length_cons, List.length_nil, Nat.reduceAdd, Nat.reduceSub, List.replicate_succ, List.replicate_zero, List.cons_append, List.nil_append]
    repeat' first
      | refine awp_seq ?_
      | refine awp_block ?_
      | refine awp_skip ?_
      | (refine reg _ (by (simp only [List.map_cons, List.map_nil]; rfl)) rfl ?_; intro K hK)
      | (refine awp_cond _ (by rfl) ?_ ?_ <;> (intro hb; first | (cases hb; done) | (have ht : true = true := hb; clear ht hb) | (have ht : false = false := hb; clear ht hb) | (simp only [hb]) | skip))
      | (refine awp_exit ?_; simp only [thenA, blockA, scopeA, reduceIte, RetQ, Nat.reduceEqDiff])
      | (refine awp_ret ?_; simp only [thenA, blockA, scopeA, RetQ])
      | (refine ev_nil (hK _ ?_); clear hK K)
      | (apply ev_guardU; (case hj | hu | hσ => (simp only [go_sem, d0]; try rfl)))
      | (refine ev_guardT _ _ (by (simp only [go_sem, d0]; rfl)) (by (simp only [go_sem, d0]; rfl)) ?_ ?_ <;> (intro hb; first | (cases hb; done) | (have ht : true = true := hb; clear ht hb) | (have ht : false = false := hb; clear ht hb) | (simp only [hb]) | skip))
      | (refine ev_guardF _ _ (by (simp only [go_sem, d0]; rfl)) (by (simp only [go_sem, d0]; rfl)) ?_ ?_ <;> (intro hb; first | (cases hb; done) | (have ht : true = true := hb; clear ht hb) | (have ht : false = false := hb; clear ht hb) | (simp only [hb]) | skip))
      | (apply regD; (case hd => (simp only [List.map_cons, List.map_nil]; rfl)); (case hok => rfl); (case' h => (intro K hK; (repeat' first
        | (apply evd_nil; refine (hK _ ?_); clear hK K)
        | (apply evd_step0; (case hr | hi | hσ => (simp only [go_sem, d0]; try rfl)); (case hc => (first | trivial | decide | (simp only [inB, sliceOk, appendOk, rowsOk]; omega) | (simp [inB, sliceOk, appendOk, rowsOk]; omega))))
        | (apply evd_step; (case hr | hi => (simp only [go_sem, d0]; try rfl)); (case hc => (first | trivial | decide | (simp only [inB, sliceOk, appendOk, rowsOk]; omega) | (simp [inB, sliceOk, appendOk, rowsOk]; omega))); (case hw | hσ => (intro g u; simp only [go_sem, d0]; try rfl)); (case' hk => (intro g u; (try clear u); (try clear g))))
        | fail))); (case hB => kernel_rfl))
      | (apply ev_step0; (case hr | hσ => (simp only [go_sem, d0]; try rfl)); (case hc => (first | trivial | decide | (simp only [inB, sliceOk, appendOk, rowsOk]; omega) | (simp [inB, sliceOk, appendOk, rowsOk]; omega))))
      | (apply ev_step; (case hr => (simp only [go_sem, d0]; try rfl)); (case hσ => (intro g u; simp only [go_sem, d0]; try rfl)); (case hc => (first | trivial | decide | (simp only [inB, sliceOk, appendOk, rowsOk]; omega) | (simp [inB, sliceOk, appendOk, rowsOk]; omega))); intro g u; (try clear u); (try clear g))
      | fail
    all_goals (refine resR_one T_ok rfl _ (by (simp only [go_sem, resA]; rfl)) (by first | trivial | (simp only [go_sem, resA])) (by first | trivial | (simp only [go_sem])) ?_; simp only [go_sem])
    exact LeA.refl _
  · have d0 : decide (i < 0) = false := decide_eq_false h0
    have d1 : decide (i ≥ (s.totals.length : Int)) = true := decide_eq_true (by omega)
    refine spec_of_awp (fn := Try.f20) Try.func20 (by kernel_rfl) rfl ?_
    intro w0 C0
    simp only [Try.ntmps20, litI, litB, litS, List.length_cons, List.length_nil, Nat.reduceAdd, Nat.reduceSub, List.replicate_succ, List.replicate_zero, List.cons_append, List.nil_append]
    repeat' first
      | refine awp_seq ?_
      | refine awp_block ?_
      | refine awp_skip ?_
      | (refine reg _ (by (simp only [List.map_cons, List.map_nil]; rfl)) rfl ?_; intro K hK)
      | (refine awp_cond _ (by rfl) ?_ ?_ <;> (intro hb; first | (cases hb; done) | (have ht : true = true := hb; clear ht hb) | (have ht : false = false := hb; clear ht hb) | (simp only [hb]) | skip))
      | (refine awp_exit ?_; simp only [thenA, blockA, scopeA, reduceIte, RetQ, Nat.reduceEqDiff])
      | (refine awp_ret ?_; simp only [thenA, blockA, scopeA, RetQ])
      | (refine ev_nil (hK _ ?_); clear hK K)
      | (apply ev_guardU; (case hj | hu | hσ => (simp only [go_sem, d0, d1]; try rfl)))
      | (refine ev_guardT _ _ (by (simp only [go_sem, d0, d1]; rfl)) (by (simp only [go_sem, d0, d1]; rfl)) ?_ ?_ <;> (intro hb; first | (cases hb; done) | (have ht : true = true := hb; clear ht hb) | (have ht : false = false := hb; clear ht hb) | (simp only [hb]) | skip))
      | (refine ev_guardF _ _ (by (simp only [go_sem, d0, d1]; rfl)) (by (simp only [go_sem, d0, d1]; rfl)) ?_ ?_ <;> (intro hb; first | (cases hb; done) | (have ht : true = true := hb; clear ht hb) | (have ht : false = false := hb; clear ht hb) | (simp only [hb]) | skip))
      | (apply regD; (case hd => (simp only [List.map_cons, List.map_nil]; rfl)); (case hok => rfl); (case' h => (intro K hK; (repeat' first
        | (apply evd_nil; refine (hK _ ?_); clear hK K)
        | (apply evd_step0; (case hr | hi | hσ => (simp only [go_sem, d0, d1]; try rfl)); (case hc => (first | trivial | decide | (simp only [inB, sliceOk, appendOk, rowsOk]; omega) | (simp [inB, sliceOk, appendOk, rowsOk]; omega))))
        | (apply evd_step; (case hr | hi => (simp only [go_sem, d0, d1]; try rfl)); (case hc => (first | trivial | decide | (simp only [inB, sliceOk, appendOk, rowsOk]; omega) | (simp [inB, sliceOk, appendOk, rowsOk]; omega))); (case hw | hσ => (intro g u; simp only [go_sem, d0, d1]; try rfl)); (case' hk => (intro g u; (try clear u); (try clear g))))
        | fail))); (case hB => kernel_rfl))
      | (apply ev_step0; (case hr | hσ => (simp only [go_sem, d0, d1]; try rfl)); (case hc => (first | trivial | decide | (simp only [inB, sliceOk, appendOk, rowsOk]; omega) | (simp [inB, sliceOk, appendOk, rowsOk]; omega))))
      | (apply ev_step; (case hr => (simp only [go_sem, d0, d1]; try rfl)); (case hσ => (intro g u; simp only [go_sem, d0, d1]; try rfl)); (case hc => (first | trivial | decide | (simp only [inB, sliceOk, appendOk, rowsOk]; omega) | (simp [inB, sliceOk, appendOk, rowsOk]; omega))); intro g u; (try clear u); (try clear g))
      | fail
    all_goals (refine resR_one T_ok rfl _ (by (simp only [go_sem, resA]; rfl)) (by first | trivial | (simp only [go_sem, resA])) (by first | trivial | (simp only [go_sem])) ?_; simp only [go_sem])
    exact LeA.refl _
set_option maxHeartbeats 4000000 in
theorem f20_spec (s : Sch) (st : Stt) (i : Nat) (h : SchOk s) (hs : StOk s st) (hi : i < s.totals.length) : Spec Try.prog 20 [.agg (schA s), .agg (stA st), litI .i64 (i : Int)] (.agg [litI .i64 (sumIn s st (i : Int)).1, litI .i64 (sumIn s st (i : Int)).2]) := by
  have hm : s.totals.getD i ttN ∈ s.totals := getD_mem' hi _
  obtain ⟨ht1, ht2, -⟩ := h.tots _ hm
  have hfew := hs.few _ ht1
  have hrows := hs.rows _ ht1
  have hx := tts_at s.totals hi
  rw [sumIn, if_neg (by omega), Int.toNat_natCast, sumOf]
  have hlen : (s.totals.getD i ttN).table < st.length := by rw [hs.len]; exact ht1
  have hy := stt_at st hlen
  generalize s.totals.getD i ttN = t at *
  generalize hn : colN s t.table = n at *
  generalize st.getD t.table [] = l at *
  clear hm ht1 hn
  have d0 : decide ((i : Int) < 0) = false := decide_eq_false (by omega)
  have d1 : decide ((i : Int) ≥ (s.totals.length : Int)) = false := decide_eq_false (by omega)
  refine spec_of_awp (fn := Try.f20) Try.func20 (by kernel_rfl) rfl ?_
  intro w0 C0
  simp only [Try.ntmps20, litI, litB, litS, List.length_cons, List.length_nil, Nat.reduceAdd, Nat.reduceSub, List.replicate_succ, List.replicate_zero, List.cons_append, List.nil_append]
  repeat' first
    | refine awp_seq ?_
    | refine awp_block ?_
    | refine awp_skip ?_
    | (refine reg _ (by (simp only [List.map_cons, List.map_nil]; rfl)) rfl ?_; intro K hK)
    | (refine awp_cond _ (by rfl) ?_ ?_ <;> (intro hb; first | (cases hb; done) | (have ht : true = true := hb; clear ht hb) | (have ht : false = false := hb; clear ht hb) | (simp only [hb]) | skip))
    | (refine awp_exit ?_; simp only [thenA, blockA, scopeA, reduceIte, RetQ, Nat.reduceEqDiff])
    | (refine awp_ret ?_; simp only [thenA, blockA, scopeA, RetQ])
    | (refine ev_nil (hK _ ?_); clear hK K)
    | (apply ev_guardU; (case hj | hu | hσ => (simp only [go_sem, d0, d1, hx]; try rfl)))
    | (refine ev_guardT _ _ (by (simp only [go_sem, d0, d1, hx]; rfl)) (by (simp only [go_sem, d0, d1, hx]; rfl)) ?_ ?_ <;> (intro hb; first | (cases hb; done) | (have ht : true = true := hb; clear ht hb) | (have ht : false = false := hb; clear ht hb) | (simp only [hb]) | skip))
    | (refine ev_guardF _ _ (by (simp only [go_sem, d0, d1, hx]; rfl)) (by (simp only [go_sem, d0, d1, hx]; rfl)) ?_ ?_ <;> (intro hb; first | (cases hb; done) | (have ht : true = true := hb; clear ht hb) | (have ht : false = false := hb; clear ht hb) | (simp only [hb]) | skip))
    | (apply regD; (case hd => (simp only [List.map_cons, List.map_nil]; rfl)); (case hok => rfl); (case' h => (intro K hK; (repeat' first
        | (apply evd_nil; refine (hK _ ?_); clear hK K)
        | (apply evd_step0; (case hr | hi | hσ => (simp only [go_sem, d0, d1, hx]; try rfl)); (case hc => (first | trivial | decide | (simp only [inB, sliceOk, appendOk, rowsOk]; omega) | (simp [inB, sliceOk, appendOk, rowsOk]; omega))))
        | (apply evd_step; (case hr | hi => (simp only [go_sem, d0, d1, hx]; try rfl)); (case hc => (first | trivial | decide | (simp only [inB, sliceOk, appendOk, rowsOk]; omega) | (simp [inB, sliceOk, appendOk, rowsOk]; omega))); (case hw | hσ => (intro g u; simp only [go_sem, d0, d1, hx]; try rfl)); (case' hk => (intro g u; (try clear u); (try clear g))))
        | fail))); (case hB => kernel_rfl))
    | (apply ev_step0; (case hr | hσ => (simp only [go_sem, d0, d1, hx]; try rfl)); (case hc => (first | trivial | decide | (simp only [inB, sliceOk, appendOk, rowsOk]; omega) | (simp [inB, sliceOk, appendOk, rowsOk]; omega))))
    | (apply ev_step; (case hr => (simp only [go_sem, d0, d1, hx]; try rfl)); (case hσ => (intro g u; simp only [go_sem, d0, d1, hx]; try rfl)); (case hc => (first | trivial | decide | (simp only [inB, sliceOk, appendOk, rowsOk]; omega) | (simp [inB, sliceOk, appendOk, rowsOk]; omega))); intro g u; (try clear u); (try clear g))
    | fail
  rename_i g3 g4 g6
  refine awp_loopI (fun j : Nat × Int × Int => j.1 ≤ l.length ∧ j.2.1 * 1000000000 + j.2.2 = colSum t.column (l.take j.1) ∧ -(5000000000 * (j.1 : Int)) ≤ j.2.1 ∧ j.2.1 ≤ 5000000000 * (j.1 : Int) ∧ -(1000000000 * (j.1 : Int)) ≤ j.2.2 ∧ j.2.2 ≤ 1000000000 * (j.1 : Int)) (fun j => l.length - j.1) (fun j => ⟨[.any, .any, litI .i64 i, .ptr 3 g3 0, .ptr 4 g4 0, .any, .ptr 6 g6 0, .ptr 7 g 0, litI .i64 j.2.1, litI .i64 j.2.2, litI .i64 j.1, .any, .any, .any, .any, .any, .any, .any, .any, .any, .any, .any, .any, .any, .any, .any, .any, .any, .any, .any, .any, .any, .any, .any, .any, .any, .any, .any, .any, .any, .any, .any, .any, .any, .any, .any, .any, .any, .any, .any, .any, .any, .any, .any, .any, .any, .any, .any, .any, .any, .any, .any, .any, .any, .any, .any, .any, .any, .any, .any, .any, .any, .any, .any, .any, .any, .any, .any, .any, .any, .any, .any, .any, .any, .any, .any, .any, .any, .any, .any, .any, .any, .any], [.no, .no, .no, .box g3 (schA s), .box g4 (stA st), .no, .box g6 [litI .i64 0, litI .i64 0], .box g [litI .i64 (t.table : Int), litI .i64 (t.column : Int), litI .i64 t.lo, litI .i64 t.hi], .no, .no, .no, .no, .no, .no, .no, .no, .no, .no, .no, .no, .no, .no, .no, .no, .no, .no, .no, .no, .no, .no, .no, .no, .no, .no, .no, .no, .no, .no, .no, .no, .no, .no, .no, .no, .no, .no, .no, .no, .no, .no, .no, .no, .no, .no, .no, .no, .no, .no, .no, .no, .no, .no, .no, .no, .no, .no, .no, .no, .no, .no, .no, .no, .no, .no, .no, .no, .no, .no, .no, .no, .no, .no, .no, .no, .no, .no, .no, .no, .no, .no, .no, .no, .no]⟩) (0, 0, 0) (by simp [colSum]) ?_ ?_
  · refine Wk.mk ?_ ?_
    all_goals (repeat' first | exact trivial | exact LeA.refl _ | exact LeA.any _ | exact LeO.refl _ | exact LeO.no _ | exact LeA.nil _ | exact LeA.nilOwn _ | exact LeO.nil _ _ _ | refine LeO.box ?_ | (refine LeA.i ?_; (first | rfl | (push_cast; rfl) | (rw [wrap_id (by omega)]; push_cast; omega) | (simp [wrap_id]; omega))) | refine ⟨?_, ?_⟩)
  rintro ⟨j, a, b⟩ ⟨hj, hab, ha1, ha2, hb1, hb2⟩
  simp only [litI, litB] at hj hab ha1 ha2 hb1 hb2 ⊢
  by_cases h1 : j < l.length
  · have d2 : decide ((j : Int) < (l.length : Int)) = true := decide_eq_true (by omega)
    have hz := rws_at l h1
    have hro := hrows _ (getD_mem' h1 [])
    have hS := colSum_take t.column l h1
    generalize l.getD j [] = r at *
    have hcl : t.column < r.length := by rw [hro.1]; exact ht2
    have hw := cls_at r hcl
    have hv := hro.2 _ (getD_mem' hcl nullC)
    generalize r.getD t.column nullC = c at *
    obtain ⟨-, hv1, hv2⟩ := hv
    obtain ⟨q1, q2, q3⟩ := tq c.v.i
    have w1 : IntKind.i64.wrap (c.v.i.tdiv 1000000000) = c.v.i.tdiv 1000000000 := wrap_id (by omega)
    have w2 : IntKind.i64.wrap (a + c.v.i.tdiv 1000000000) = a + c.v.i.tdiv 1000000000 := wrap_id (by omega)
    have w3 : IntKind.i64.wrap (b + c.v.i.tmod 1000000000) = b + c.v.i.tmod 1000000000 := wrap_id (by omega)
    by_cases hk : c.v.k = 2
    · have d3 : (c.v.k == 2) = true := by simpa using hk
      rw [numV, if_pos hk] at hS
      repeat' first
        | refine awp_seq ?_
        | refine awp_block ?_
        | refine awp_skip ?_
        | (refine reg _ (by (simp only [List.map_cons, List.map_nil]; rfl)) rfl ?_; intro K hK)
        | (refine awp_cond _ (by rfl) ?_ ?_ <;> (intro hb; first | (cases hb; done) | (have ht : true = true := hb; clear ht hb) | (have ht : false = false := hb; clear ht hb) | (simp only [hb]) | skip))
        | (refine awp_exit ?_; simp only [thenA, blockA, scopeA, reduceIte, RetQ, Nat.reduceEqDiff])
        | (refine awp_ret ?_; simp only [thenA, blockA, scopeA, RetQ])
        | (refine ev_nil (hK _ ?_); clear hK K)
        | (apply ev_guardU; (case hj | hu | hσ => (simp only [go_sem, hy, d2, hz, hw, d3, w1, w2, w3]; try rfl)))
        | (refine ev_guardT _ _ (by (simp only [go_sem, hy, d2, hz, hw, d3, w1, w2, w3]; rfl)) (by (simp only [go_sem, hy, d2, hz, hw, d3, w1, w2, w3]; rfl)) ?_ ?_ <;> (intro hb; first | (cases hb; done) | (have ht : true = true := hb; clear ht hb) | (have ht : false = false := hb; clear ht hb) | (simp only [hb]) | skip))
        | (refine ev_guardF _ _ (by (simp only [go_sem, hy, d2, hz, hw, d3, w1, w2, w3]; rfl)) (by (simp only [go_sem, hy, d2, hz, hw, d3, w1, w2, w3]; rfl)) ?_ ?_ <;> (intro hb; first | (cases hb; done) | (have ht : true = true := hb; clear ht hb) | (have ht : false = false := hb; clear ht hb) | (simp only [hb]) | skip))
        | (apply regD; (case hd => (simp only [List.map_cons, List.map_nil]; rfl)); (case hok => rfl); (case' h => (intro K hK; (repeat' first
        | (apply evd_nil; refine (hK _ ?_); clear hK K)
        | (apply evd_step0; (case hr | hi | hσ => (simp only [go_sem, hy, d2, hz, hw, d3, w1, w2, w3]; try rfl)); (case hc => (first | trivial | decide | (simp only [inB, sliceOk, appendOk, rowsOk]; omega) | (simp [inB, sliceOk, appendOk, rowsOk]; omega))))
        | (apply evd_step; (case hr | hi => (simp only [go_sem, hy, d2, hz, hw, d3, w1, w2, w3]; try rfl)); (case hc => (first | trivial | decide | (simp only [inB, sliceOk, appendOk, rowsOk]; omega) | (simp [inB, sliceOk, appendOk, rowsOk]; omega))); (case hw | hσ => (intro g u; simp only [go_sem, hy, d2, hz, hw, d3, w1, w2, w3]; try rfl)); (case' hk => (intro g u; (try clear u); (try clear g))))
        | fail))); (case hB => kernel_rfl))
        | (apply ev_step0; (case hr | hσ => (simp only [go_sem, hy, d2, hz, hw, d3, w1, w2, w3]; try rfl)); (case hc => (first | trivial | decide | (simp only [inB, sliceOk, appendOk, rowsOk]; omega) | (simp [inB, sliceOk, appendOk, rowsOk]; omega))))
        | (apply ev_step; (case hr => (simp only [go_sem, hy, d2, hz, hw, d3, w1, w2, w3]; try rfl)); (case hσ => (intro g u; simp only [go_sem, hy, d2, hz, hw, d3, w1, w2, w3]; try rfl)); (case hc => (first | trivial | decide | (simp only [inB, sliceOk, appendOk, rowsOk]; omega) | (simp [inB, sliceOk, appendOk, rowsOk]; omega))); intro g u; (try clear u); (try clear g))
        | fail
      refine Exists.intro (j + 1, a + c.v.i.tdiv 1000000000, b + c.v.i.tmod 1000000000) ⟨⟨by show j + 1 ≤ _; omega, by show _ = colSum _ (l.take (j + 1)); rw [hS]; show (a + c.v.i.tdiv 1000000000) * 1000000000 + (b + c.v.i.tmod 1000000000) = _; omega, by show _ ≤ a + c.v.i.tdiv 1000000000; push_cast; omega, by show a + c.v.i.tdiv 1000000000 ≤ _; push_cast; omega, by show _ ≤ b + c.v.i.tmod 1000000000; push_cast; omega, by show b + c.v.i.tmod 1000000000 ≤ _; push_cast; omega⟩, by show l.length - (j + 1) < l.length - j; omega, ?_⟩
      refine Wk.mk ?_ ?_
      all_goals (repeat' first | exact trivial | exact LeA.refl _ | exact LeA.any _ | exact LeO.refl _ | exact LeO.no _ | exact LeA.nil _ | exact LeA.nilOwn _ | exact LeO.nil _ _ _ | refine LeO.box ?_ | (refine LeA.i ?_; (first | rfl | (push_cast; rfl) | (rw [wrap_id (by omega)]; push_cast; omega) | (simp [wrap_id]; omega))) | refine ⟨?_, ?_⟩)
    · have d3 : (c.v.k == 2) = false := by simpa using hk
      rw [numV, if_neg hk] at hS
      repeat' first
        | refine awp_seq ?_
        | refine awp_block ?_
        | refine awp_skip ?_
        | (refine reg _ (by (simp only [List.map_cons, List.map_nil]; rfl)) rfl ?_; intro K hK)
        | (refine awp_cond _ (by rfl) ?_ ?_ <;> (intro hb; first | (cases hb; done) | (have ht : true = true := hb; clear ht hb) | (have ht : false = false := hb; clear ht hb) | (simp only [hb]) | skip))
        | (refine awp_exit ?_; simp only [thenA, blockA, scopeA, reduceIte, RetQ, Nat.reduceEqDiff])
        | (refine awp_ret ?_; simp only [thenA, blockA, scopeA, RetQ])
        | (refine ev_nil (hK _ ?_); clear hK K)
        | (apply ev_guardU; (case hj | hu | hσ => (simp only [go_sem, hy, d2, hz, hw, d3, w1, w2, w3]; try rfl)))
        | (refine ev_guardT _ _ (by (simp only [go_sem, hy, d2, hz, hw, d3, w1, w2, w3]; rfl)) (by (simp only [go_sem, hy, d2, hz, hw, d3, w1, w2, w3]; rfl)) ?_ ?_ <;> (intro hb; first | (cases hb; done) | (have ht : true = true := hb; clear ht hb) | (have ht : false = false := hb; clear ht hb) | (simp only [hb]) | skip))
        | (refine ev_guardF _ _ (by (simp only [go_sem, hy, d2, hz, hw, d3, w1, w2, w3]; rfl)) (by (simp only [go_sem, hy, d2, hz, hw, d3, w1, w2, w3]; rfl)) ?_ ?_ <;> (intro hb; first | (cases hb; done) | (have ht : true = true := hb; clear ht hb) | (have ht : false = false := hb; clear ht hb) | (simp only [hb]) | skip))
        | (apply regD; (case hd => (simp only [List.map_cons, List.map_nil]; rfl)); (case hok => rfl); (case' h => (intro K hK; (repeat' first
        | (apply evd_nil; refine (hK _ ?_); clear hK K)
        | (apply evd_step0; (case hr | hi | hσ => (simp only [go_sem, hy, d2, hz, hw, d3, w1, w2, w3]; try rfl)); (case hc => (first | trivial | decide | (simp only [inB, sliceOk, appendOk, rowsOk]; omega) | (simp [inB, sliceOk, appendOk, rowsOk]; omega))))
        | (apply evd_step; (case hr | hi => (simp only [go_sem, hy, d2, hz, hw, d3, w1, w2, w3]; try rfl)); (case hc => (first | trivial | decide | (simp only [inB, sliceOk, appendOk, rowsOk]; omega) | (simp [inB, sliceOk, appendOk, rowsOk]; omega))); (case hw | hσ => (intro g u; simp only [go_sem, hy, d2, hz, hw, d3, w1, w2, w3]; try rfl)); (case' hk => (intro g u; (try clear u); (try clear g))))
        | fail))); (case hB => kernel_rfl))
        | (apply ev_step0; (case hr | hσ => (simp only [go_sem, hy, d2, hz, hw, d3, w1, w2, w3]; try rfl)); (case hc => (first | trivial | decide | (simp only [inB, sliceOk, appendOk, rowsOk]; omega) | (simp [inB, sliceOk, appendOk, rowsOk]; omega))))
        | (apply ev_step; (case hr => (simp only [go_sem, hy, d2, hz, hw, d3, w1, w2, w3]; try rfl)); (case hσ => (intro g u; simp only [go_sem, hy, d2, hz, hw, d3, w1, w2, w3]; try rfl)); (case hc => (first | trivial | decide | (simp only [inB, sliceOk, appendOk, rowsOk]; omega) | (simp [inB, sliceOk, appendOk, rowsOk]; omega))); intro g u; (try clear u); (try clear g))
        | fail
      refine Exists.intro (j + 1, a, b) ⟨⟨by show j + 1 ≤ _; omega, by show _ = colSum _ (l.take (j + 1)); rw [hS]; show a * 1000000000 + b = _; omega, by show _ ≤ a; push_cast; omega, by show a ≤ _; push_cast; omega, by show _ ≤ b; push_cast; omega, by show b ≤ _; push_cast; omega⟩, by show l.length - (j + 1) < l.length - j; omega, ?_⟩
      refine Wk.mk ?_ ?_
      all_goals (repeat' first | exact trivial | exact LeA.refl _ | exact LeA.any _ | exact LeO.refl _ | exact LeO.no _ | exact LeA.nil _ | exact LeA.nilOwn _ | exact LeO.nil _ _ _ | refine LeO.box ?_ | (refine LeA.i ?_; (first | rfl | (push_cast; rfl) | (rw [wrap_id (by omega)]; push_cast; omega) | (simp [wrap_id]; omega))) | refine ⟨?_, ?_⟩)
  · have d2 : decide ((j : Int) < (l.length : Int)) = false := decide_eq_false (by omega)
    have hjl : j = l.length := by omega
    subst hjl
    rw [List.take_length] at hab
    obtain ⟨q1, q2, q3⟩ := tq b
    generalize colSum t.column l = sm at *
    have w1 : IntKind.i64.wrap (b.tdiv 1000000000) = b.tdiv 1000000000 := wrap_id (by omega)
    obtain ⟨A, hA⟩ : ∃ A, a + b.tdiv 1000000000 = A := ⟨_, rfl⟩
    have w2 : IntKind.i64.wrap (a + b.tdiv 1000000000) = A := by rw [hA]; exact wrap_id (by omega)
    have hsum : A * 1000000000 + b.tmod 1000000000 = sm := by rw [← hab, ← hA]; omega
    by_cases h3 : A > 8000000000
    · have d3 : decide (A > 8000000000) = true := decide_eq_true h3
      have hsm : small sm = false := small_f (by omega)
      repeat' first
        | refine awp_seq ?_
        | refine awp_block ?_
        | refine awp_skip ?_
        | (refine reg _ (by (simp only [List.map_cons, List.map_nil]; rfl)) rfl ?_; intro K hK)
        | (refine awp_cond _ (by rfl) ?_ ?_ <;> (intro hb; first | (cases hb; done) | (have ht : true = true := hb; clear ht hb) | (have ht : false = false := hb; clear ht hb) | (simp only [hb]) | skip))
        | (refine awp_exit ?_; simp only [thenA, blockA, scopeA, reduceIte, RetQ, Nat.reduceEqDiff])
        | (refine awp_ret ?_; simp only [thenA, blockA, scopeA, RetQ])
        | (refine ev_nil (hK _ ?_); clear hK K)
        | (apply ev_guardU; (case hj | hu | hσ => (simp only [go_sem, hy, d2, w1, w2, d3]; try rfl)))
        | (refine ev_guardT _ _ (by (simp only [go_sem, hy, d2, w1, w2, d3]; rfl)) (by (simp only [go_sem, hy, d2, w1, w2, d3]; rfl)) ?_ ?_ <;> (intro hb; first | (cases hb; done) | (have ht : true = true := hb; clear ht hb) | (have ht : false = false := hb; clear ht hb) | (simp only [hb]) | skip))
        | (refine ev_guardF _ _ (by (simp only [go_sem, hy, d2, w1, w2, d3]; rfl)) (by (simp only [go_sem, hy, d2, w1, w2, d3]; rfl)) ?_ ?_ <;> (intro hb; first | (cases hb; done) | (have ht : true = true := hb; clear ht hb) | (have ht : false = false := hb; clear ht hb) | (simp only [hb]) | skip))
        | (apply regD; (case hd => (simp only [List.map_cons, List.map_nil]; rfl)); (case hok => rfl); (case' h => (intro K hK; (repeat' first
        | (apply evd_nil; refine (hK _ ?_); clear hK K)
        | (apply evd_step0; (case hr | hi | hσ => (simp only [go_sem, hy, d2, w1, w2, d3]; try rfl)); (case hc => (first | trivial | decide | (simp only [inB, sliceOk, appendOk, rowsOk]; omega) | (simp [inB, sliceOk, appendOk, rowsOk]; omega))))
        | (apply evd_step; (case hr | hi => (simp only [go_sem, hy, d2, w1, w2, d3]; try rfl)); (case hc => (first | trivial | decide | (simp only [inB, sliceOk, appendOk, rowsOk]; omega) | (simp [inB, sliceOk, appendOk, rowsOk]; omega))); (case hw | hσ => (intro g u; simp only [go_sem, hy, d2, w1, w2, d3]; try rfl)); (case' hk => (intro g u; (try clear u); (try clear g))))
        | fail))); (case hB => kernel_rfl))
        | (apply ev_step0; (case hr | hσ => (simp only [go_sem, hy, d2, w1, w2, d3]; try rfl)); (case hc => (first | trivial | decide | (simp only [inB, sliceOk, appendOk, rowsOk]; omega) | (simp [inB, sliceOk, appendOk, rowsOk]; omega))))
        | (apply ev_step; (case hr => (simp only [go_sem, hy, d2, w1, w2, d3]; try rfl)); (case hσ => (intro g u; simp only [go_sem, hy, d2, w1, w2, d3]; try rfl)); (case hc => (first | trivial | decide | (simp only [inB, sliceOk, appendOk, rowsOk]; omega) | (simp [inB, sliceOk, appendOk, rowsOk]; omega))); intro g u; (try clear u); (try clear g))
        | fail
      all_goals (refine resR_one T_ok rfl _ (by (simp only [go_sem, resA]; rfl)) (by first | trivial | (simp only [go_sem, resA])) (by first | trivial | (simp only [go_sem])) ?_; simp only [go_sem])
      rw [hsm]; exact LeA.refl _
    have d3 : decide (A > 8000000000) = false := decide_eq_false h3
    by_cases h4 : A < -8000000000
    · have d4 : decide (A < -8000000000) = true := decide_eq_true h4
      have hsm : small sm = false := small_f (by omega)
      repeat' first
        | refine awp_seq ?_
        | refine awp_block ?_
        | refine awp_skip ?_
        | (refine reg _ (by (simp only [List.map_cons, List.map_nil]; rfl)) rfl ?_; intro K hK)
        | (refine awp_cond _ (by rfl) ?_ ?_ <;> (intro hb; first | (cases hb; done) | (have ht : true = true := hb; clear ht hb) | (have ht : false = false := hb; clear ht hb) | (simp only [hb]) | skip))
        | (refine awp_exit ?_; simp only [thenA, blockA, scopeA, reduceIte, RetQ, Nat.reduceEqDiff])
        | (refine awp_ret ?_; simp only [thenA, blockA, scopeA, RetQ])
        | (refine ev_nil (hK _ ?_); clear hK K)
        | (apply ev_guardU; (case hj | hu | hσ => (simp only [go_sem, hy, d2, w1, w2, d3, d4]; try rfl)))
        | (refine ev_guardT _ _ (by (simp only [go_sem, hy, d2, w1, w2, d3, d4]; rfl)) (by (simp only [go_sem, hy, d2, w1, w2, d3, d4]; rfl)) ?_ ?_ <;> (intro hb; first | (cases hb; done) | (have ht : true = true := hb; clear ht hb) | (have ht : false = false := hb; clear ht hb) | (simp only [hb]) | skip))
        | (refine ev_guardF _ _ (by (simp only [go_sem, hy, d2, w1, w2, d3, d4]; rfl)) (by (simp only [go_sem, hy, d2, w1, w2, d3, d4]; rfl)) ?_ ?_ <;> (intro hb; first | (cases hb; done) | (have ht : true = true := hb; clear ht hb) | (have ht : false = false := hb; clear ht hb) | (simp only [hb]) | skip))
        | (apply regD; (case hd => (simp only [List.map_cons, List.map_nil]; rfl)); (case hok => rfl); (case' h => (intro K hK; (repeat' first
        | (apply evd_nil; refine (hK _ ?_); clear hK K)
        | (apply evd_step0; (case hr | hi | hσ => (simp only [go_sem, hy, d2, w1, w2, d3, d4]; try rfl)); (case hc => (first | trivial | decide | (simp only [inB, sliceOk, appendOk, rowsOk]; omega) | (simp [inB, sliceOk, appendOk, rowsOk]; omega))))
        | (apply evd_step; (case hr | hi => (simp only [go_sem, hy, d2, w1, w2, d3, d4]; try rfl)); (case hc => (first | trivial | decide | (simp only [inB, sliceOk, appendOk, rowsOk]; omega) | (simp [inB, sliceOk, appendOk, rowsOk]; omega))); (case hw | hσ => (intro g u; simp only [go_sem, hy, d2, w1, w2, d3, d4]; try rfl)); (case' hk => (intro g u; (try clear u); (try clear g))))
        | fail))); (case hB => kernel_rfl))
        | (apply ev_step0; (case hr | hσ => (simp only [go_sem, hy, d2, w1, w2, d3, d4]; try rfl)); (case hc => (first | trivial | decide | (simp only [inB, sliceOk, appendOk, rowsOk]; omega) | (simp [inB, sliceOk, appendOk, rowsOk]; omega))))
        | (apply ev_step; (case hr => (simp only [go_sem, hy, d2, w1, w2, d3, d4]; try rfl)); (case hσ => (intro g u; simp only [go_sem, hy, d2, w1, w2, d3, d4]; try rfl)); (case hc => (first | trivial | decide | (simp only [inB, sliceOk, appendOk, rowsOk]; omega) | (simp [inB, sliceOk, appendOk, rowsOk]; omega))); intro g u; (try clear u); (try clear g))
        | fail
      all_goals (refine resR_one T_ok rfl _ (by (simp only [go_sem, resA]; rfl)) (by first | trivial | (simp only [go_sem, resA])) (by first | trivial | (simp only [go_sem])) ?_; simp only [go_sem])
      rw [hsm]; exact LeA.refl _
    have d4 : decide (A < -8000000000) = false := decide_eq_false h4
    have w4 : IntKind.i64.wrap (A * 1000000000) = A * 1000000000 := wrap_id (by omega)
    have w5 : IntKind.i64.wrap (A * 1000000000 + b.tmod 1000000000) = sm := by rw [hsum]; exact wrap_id (by omega)
    by_cases h5 : sm > 4000000000000000000
    · have d5 : decide (sm > 4000000000000000000) = true := decide_eq_true h5
      have hsm : small sm = false := small_f (by omega)
      repeat' first
        | refine awp_seq ?_
        | refine awp_block ?_
        | refine awp_skip ?_
        | (refine reg _ (by (simp only [List.map_cons, List.map_nil]; rfl)) rfl ?_; intro K hK)
        | (refine awp_cond _ (by rfl) ?_ ?_ <;> (intro hb; first | (cases hb; done) | (have ht : true = true := hb; clear ht hb) | (have ht : false = false := hb; clear ht hb) | (simp only [hb]) | skip))
        | (refine awp_exit ?_; simp only [thenA, blockA, scopeA, reduceIte, RetQ, Nat.reduceEqDiff])
        | (refine awp_ret ?_; simp only [thenA, blockA, scopeA, RetQ])
        | (refine ev_nil (hK _ ?_); clear hK K)
        | (apply ev_guardU; (case hj | hu | hσ => (simp only [go_sem, hy, d2, w1, w2, d3, d4, w4, w5, d5]; try rfl)))
        | (refine ev_guardT _ _ (by (simp only [go_sem, hy, d2, w1, w2, d3, d4, w4, w5, d5]; rfl)) (by (simp only [go_sem, hy, d2, w1, w2, d3, d4, w4, w5, d5]; rfl)) ?_ ?_ <;> (intro hb; first | (cases hb; done) | (have ht : true = true := hb; clear ht hb) | (have ht : false = false := hb; clear ht hb) | (simp only [hb]) | skip))
        | (refine ev_guardF _ _ (by (simp only [go_sem, hy, d2, w1, w2, d3, d4, w4, w5, d5]; rfl)) (by (simp only [go_sem, hy, d2, w1, w2, d3, d4, w4, w5, d5]; rfl)) ?_ ?_ <;> (intro hb; first | (cases hb; done) | (have ht : true = true := hb; clear ht hb) | (have ht : false = false := hb; clear ht hb) | (simp only [hb]) | skip))
        | (apply regD; (case hd => (simp only [List.map_cons, List.map_nil]; rfl)); (case hok => rfl); (case' h => (intro K hK; (repeat' first
        | (apply evd_nil; refine (hK _ ?_); clear hK K)
        | (apply evd_step0; (case hr | hi | hσ => (simp only [go_sem, hy, d2, w1, w2, d3, d4, w4, w5, d5]; try rfl)); (case hc => (first | trivial | decide | (simp only [inB, sliceOk, appendOk, rowsOk]; omega) | (simp [inB, sliceOk, appendOk, rowsOk]; omega))))
        | (apply evd_step; (case hr | hi => (simp only [go_sem, hy, d2, w1, w2, d3, d4, w4, w5, d5]; try rfl)); (case hc => (first | trivial | decide | (simp only [inB, sliceOk, appendOk, rowsOk]; omega) | (simp [inB, sliceOk, appendOk, rowsOk]; omega))); (case hw | hσ => (intro g u; simp only [go_sem, hy, d2, w1, w2, d3, d4, w4, w5, d5]; try rfl)); (case' hk => (intro g u; (try clear u); (try clear g))))
        | fail))); (case hB => kernel_rfl))
        | (apply ev_step0; (case hr | hσ => (simp only [go_sem, hy, d2, w1, w2, d3, d4, w4, w5, d5]; try rfl)); (case hc => (first | trivial | decide | (simp only [inB, sliceOk, appendOk, rowsOk]; omega) | (simp [inB, sliceOk, appendOk, rowsOk]; omega))))
        | (apply ev_step; (case hr => (simp only [go_sem, hy, d2, w1, w2, d3, d4, w4, w5, d5]; try rfl)); (case hσ => (intro g u; simp only [go_sem, hy, d2, w1, w2, d3, d4, w4, w5, d5]; try rfl)); (case hc => (first | trivial | decide | (simp only [inB, sliceOk, appendOk, rowsOk]; omega) | (simp [inB, sliceOk, appendOk, rowsOk]; omega))); intro g u; (try clear u); (try clear g))
        | fail
      all_goals (refine resR_one T_ok rfl _ (by (simp only [go_sem, resA]; rfl)) (by first | trivial | (simp only [go_sem, resA])) (by first | trivial | (simp only [go_sem])) ?_; simp only [go_sem])
      rw [hsm]; exact LeA.refl _
    have d5 : decide (sm > 4000000000000000000) = false := decide_eq_false h5
    by_cases h6 : sm < -4000000000000000000
    · have d6 : decide (sm < -4000000000000000000) = true := decide_eq_true h6
      have hsm : small sm = false := small_f (by omega)
      repeat' first
        | refine awp_seq ?_
        | refine awp_block ?_
        | refine awp_skip ?_
        | (refine reg _ (by (simp only [List.map_cons, List.map_nil]; rfl)) rfl ?_; intro K hK)
        | (refine awp_cond _ (by rfl) ?_ ?_ <;> (intro hb; first | (cases hb; done) | (have ht : true = true := hb; clear ht hb) | (have ht : false = false := hb; clear ht hb) | (simp only [hb]) | skip))
        | (refine awp_exit ?_; simp only [thenA, blockA, scopeA, reduceIte, RetQ, Nat.reduceEqDiff])
        | (refine awp_ret ?_; simp only [thenA, blockA, scopeA, RetQ])
        | (refine ev_nil (hK _ ?_); clear hK K)
        | (apply ev_guardU; (case hj | hu | hσ => (simp only [go_sem, hy, d2, w1, w2, d3, d4, w4, w5, d5, d6]; try rfl)))
        | (refine ev_guardT _ _ (by (simp only [go_sem, hy, d2, w1, w2, d3, d4, w4, w5, d5, d6]; rfl)) (by (simp only [go_sem, hy, d2, w1, w2, d3, d4, w4, w5, d5, d6]; rfl)) ?_ ?_ <;> (intro hb; first | (cases hb; done) | (have ht : true = true := hb; clear ht hb) | (have ht : false = false := hb; clear ht hb) | (simp only [hb]) | skip))
        | (refine ev_guardF _ _ (by (simp only [go_sem, hy, d2, w1, w2, d3, d4, w4, w5, d5, d6]; rfl)) (by (simp only [go_sem, hy, d2, w1, w2, d3, d4, w4, w5, d5, d6]; rfl)) ?_ ?_ <;> (intro hb; first | (cases hb; done) | (have ht : true = true := hb; clear ht hb) | (have ht : false = false := hb; clear ht hb) | (simp only [hb]) | skip))
        | (apply regD; (case hd => (simp only [List.map_cons, List.map_nil]; rfl)); (case hok => rfl); (case' h => (intro K hK; (repeat' first
        | (apply evd_nil; refine (hK _ ?_); clear hK K)
        | (apply evd_step0; (case hr | hi | hσ => (simp only [go_sem, hy, d2, w1, w2, d3, d4, w4, w5, d5, d6]; try rfl)); (case hc => (first | trivial | decide | (simp only [inB, sliceOk, appendOk, rowsOk]; omega) | (simp [inB, sliceOk, appendOk, rowsOk]; omega))))
        | (apply evd_step; (case hr | hi => (simp only [go_sem, hy, d2, w1, w2, d3, d4, w4, w5, d5, d6]; try rfl)); (case hc => (first | trivial | decide | (simp only [inB, sliceOk, appendOk, rowsOk]; omega) | (simp [inB, sliceOk, appendOk, rowsOk]; omega))); (case hw | hσ => (intro g u; simp only [go_sem, hy, d2, w1, w2, d3, d4, w4, w5, d5, d6]; try rfl)); (case' hk => (intro g u; (try clear u); (try clear g))))
        | fail))); (case hB => kernel_rfl))
        | (apply ev_step0; (case hr | hσ => (simp only [go_sem, hy, d2, w1, w2, d3, d4, w4, w5, d5, d6]; try rfl)); (case hc => (first | trivial | decide | (simp only [inB, sliceOk, appendOk, rowsOk]; omega) | (simp [inB, sliceOk, appendOk, rowsOk]; omega))))
        | (apply ev_step; (case hr => (simp only [go_sem, hy, d2, w1, w2, d3, d4, w4, w5, d5, d6]; try rfl)); (case hσ => (intro g u; simp only [go_sem, hy, d2, w1, w2, d3, d4, w4, w5, d5, d6]; try rfl)); (case hc => (first | trivial | decide | (simp only [inB, sliceOk, appendOk, rowsOk]; omega) | (simp [inB, sliceOk, appendOk, rowsOk]; omega))); intro g u; (try clear u); (try clear g))
        | fail
      all_goals (refine resR_one T_ok rfl _ (by (simp only [go_sem, resA]; rfl)) (by first | trivial | (simp only [go_sem, resA])) (by first | trivial | (simp only [go_sem])) ?_; simp only [go_sem])
      rw [hsm]; exact LeA.refl _
    have d6 : decide (sm < -4000000000000000000) = false := decide_eq_false h6
    have hsm : small sm = true := small_t (by omega)
    repeat' first
      | refine awp_seq ?_
      | refine awp_block ?_
      | refine awp_skip ?_
      | (refine reg _ (by (simp only [List.map_cons, List.map_nil]; rfl)) rfl ?_; intro K hK)
      | (refine awp_cond _ (by rfl) ?_ ?_ <;> (intro hb; first | (cases hb; done) | (have ht : true = true := hb; clear ht hb) | (have ht : false = false := hb; clear ht hb) | (simp only [hb]) | skip))
      | (refine awp_exit ?_; simp only [thenA, blockA, scopeA, reduceIte, RetQ, Nat.reduceEqDiff])
      | (refine awp_ret ?_; simp only [thenA, blockA, scopeA, RetQ])
      | (refine ev_nil (hK _ ?_); clear hK K)
      | (apply ev_guardU; (case hj | hu | hσ => (simp only [go_sem, hy, d2, w1, w2, d3, d4, w4, w5, d5, d6]; try rfl)))
      | (refine ev_guardT _ _ (by (simp only [go_sem, hy, d2, w1, w2, d3, d4, w4, w5, d5, d6]; rfl)) (by (simp only [go_sem, hy, d2, w1, w2, d3, d4, w4, w5, d5, d6]; rfl)) ?_ ?_ <;> (intro hb; first | (cases hb; done) | (have ht : true = true := hb; clear ht hb) | (have ht : false = false := hb; clear ht hb) | (simp only [hb]) | skip))
      | (refine ev_guardF _ _ (by (simp only [go_sem, hy, d2, w1, w2, d3, d4, w4, w5, d5, d6]; rfl)) (by (simp only [go_sem, hy, d2, w1, w2, d3, d4, w4, w5, d5, d6]; rfl)) ?_ ?_ <;> (intro hb; first | (cases hb; done) | (have ht : true = true := hb; clear ht hb) | (have ht : false = false := hb; clear ht hb) | (simp only [hb]) | skip))
      | (apply regD; (case hd => (simp only [List.map_cons, List.map_nil]; rfl)); (case hok => rfl); (case' h => (intro K hK; (repeat' first
        | (apply evd_nil; refine (hK _ ?_); clear hK K)
        | (apply evd_step0; (case hr | hi | hσ => (simp only [go_sem, hy, d2, w1, w2, d3, d4, w4, w5, d5, d6]; try rfl)); (case hc => (first | trivial | decide | (simp only [inB, sliceOk, appendOk, rowsOk]; omega) | (simp [inB, sliceOk, appendOk, rowsOk]; omega))))
        | (apply evd_step; (case hr | hi => (simp only [go_sem, hy, d2, w1, w2, d3, d4, w4, w5, d5, d6]; try rfl)); (case hc => (first | trivial | decide | (simp only [inB, sliceOk, appendOk, rowsOk]; omega) | (simp [inB, sliceOk, appendOk, rowsOk]; omega))); (case hw | hσ => (intro g u; simp only [go_sem, hy, d2, w1, w2, d3, d4, w4, w5, d5, d6]; try rfl)); (case' hk => (intro g u; (try clear u); (try clear g))))
        | fail))); (case hB => kernel_rfl))
      | (apply ev_step0; (case hr | hσ => (simp only [go_sem, hy, d2, w1, w2, d3, d4, w4, w5, d5, d6]; try rfl)); (case hc => (first | trivial | decide | (simp only [inB, sliceOk, appendOk, rowsOk]; omega) | (simp [inB, sliceOk, appendOk, rowsOk]; omega))))
      | (apply ev_step; (case hr => (simp only [go_sem, hy, d2, w1, w2, d3, d4, w4, w5, d5, d6]; try rfl)); (case hσ => (intro g u; simp only [go_sem, hy, d2, w1, w2, d3, d4, w4, w5, d5, d6]; try rfl)); (case hc => (first | trivial | decide | (simp only [inB, sliceOk, appendOk, rowsOk]; omega) | (simp [inB, sliceOk, appendOk, rowsOk]; omega))); intro g u; (try clear u); (try clear g))
      | fail
    all_goals (refine resR_one T_ok rfl _ (by (simp only [go_sem, resA]; rfl)) (by first | trivial | (simp only [go_sem, resA])) (by first | trivial | (simp only [go_sem])) ?_; simp only [go_sem])
    rw [hsm]; exact LeA.refl _
end
end Go.Proofs.Ytlkfbhhopkoopaa.A
