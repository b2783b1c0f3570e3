/- The greatest closed cut. The union of two sorted lists: the function that is ranged over. The union of two sorted lists: what its loop yields. union, AppendSeq, Collect, Add. Collect, Add. -/
import Derived.Test.YtalbfikfbejnfaaY1
import Derived.Test.YtalbfikfbejnfaaE1
import Derived.Test.YtalbfikfbejnfaaE2
import Derived.Test.YtalbfikfbejnfaaE3
namespace Go.Proofs.Ytalbfikfbejnfaa.A
attribute [local go_sem] Nat.reduceAdd Nat.reduceSub Nat.reduceMul Nat.reduceLT Nat.reduceLeDiff Nat.reduceEqDiff Nat.reduceBEq reduceIte reduceCtorEq e_step_none e_slotU e_slotB e_move e_assign e_pick e_unOp e_binOp e_alloc e_box e_build e_buildSlice e_load e_store e_fieldAddr e_field e_indexAddr e_index e_slice e_makeSlice e_makeFunc e_convert e_extract e_nilCheck e_len e_append e_max e_min e_call e_callV e_clo e_ev_tmp e_ev_int e_ev_bool e_ev_string e_ev_slice e_ev_nilFunc e_ev_nilIface e_ev_pointer e_ev_agg e_ev_func e_pickT e_pickF e_not e_neg e_add e_sub e_mul e_quo e_rem e_eql e_neq e_lss e_leq e_gtr e_geq e_beq e_bne e_sadd e_seql e_sneq e_b2_d e_b2_nil e_b2_nnil e_b2_agg e_lits_nil e_lits_cons e_litC e_eqR e_eqO_e e_eqO_n e_eqV4 e_eqV3 e_eqV2 e_eqV1 e_eqFs_nil e_eqFs_cons e_and2 e_eq1 e_eqL_i e_eqL_s e_eqL_b e_allocR e_boxR e_box_agg e_box_d e_box_own e_box_clo e_one_nil e_one_d e_one_own e_one_clo e_one_ptr e_cells_agg e_cells_d e_cells_own e_cells_clo e_cells_ptr e_ob_own e_ob_ptr e_ob_elo e_ob_d e_ob_el e_ob_agg e_load_box e_load_fzb e_load_el e_load_elo e_store_box e_storeB e_store_elo e_store_elo_agg e_storeE e_fa_ptr e_fa_el e_fa_elo e_faR e_fd e_fdR e_ia_d e_ia_row e_ia_fz e_ia_ptr e_ia_el e_ix_s e_ix_a e_len_s e_len_nil e_len_d e_len_row e_len_fz e_conv_i e_conv_s e_extr e_maxR e_minR e_nil_ptr e_nil_el e_nil_elo e_rows_nil e_rows_d e_rows_row e_rows_fz e_rok_nil e_rok_d e_rok_row e_rok_fz e_app_row e_appR e_app_nil e_appN e_make e_bnd_none e_bnd_some e_optmap_none e_optmap_some e_slR e_slRe e_sl_s e_sl_d e_sl_nil e_sl_row e_sl_fz e_fill_nil e_fill_cons e_fill1 e_placeS e_plS e_placeE e_buildO e_build1 e_build2 e_build3 e_bindD e_bs e_bsR e_allD_nil e_allD_cons e_allD1 e_chunk0 e_chunkS e_clP_nil e_clP_cons e_cl_d e_cl_any e_cl_el e_cl_agg e_cl_tup e_cl_clo e_cl_own e_clOwn_row e_clOwn_fz e_cl_ptr e_clPtr_box e_clBox e_clPtr_fzb e_clL_nil e_clL_cons e_ok_d e_ok_any e_ok_el e_ok_agg e_ok_tup e_ok_clo e_ok_own e_okOwn_row e_okOwn_fz e_ok_ptr e_okPtr_box e_okPtr_fzb e_okL_nil e_okL_cons e_ids_d e_ids_any e_ids_el e_ids_own e_ids_ptr e_ids_agg e_ids_tup e_ids_clo e_idsL_nil e_idsL_cons e_frz_nil e_frz_cons e_frz_row e_frz_fz e_frz_fzb e_frz_box e_frzB e_flat_lit e_flat_sl e_flat_agg e_flat_tup e_flat_any e_flat_clo e_flatL_nil e_flatL_cons e_objD e_setMany e_takeA e_zerosA e_gdL e_idsG e_idsOp e_callV' e_callF' e_o_move e_o_assign e_o_pick e_o_unOp e_o_binOp e_o_alloc e_o_box e_o_build e_o_buildSlice e_o_load e_o_store e_o_fieldAddr e_o_field e_o_indexAddr e_o_index e_o_slice0 e_o_slice1 e_o_slice2 e_o_slice3 e_o_makeSlice e_o_makeFunc e_o_convert e_o_extract e_o_nilCheck e_o_bcall e_o_vcall litI litB litS List.map_cons List.map_nil List.getD_cons_zero List.getD_cons_succ List.getD_nil List.getElem?_cons_zero List.getElem?_cons_succ List.getElem?_nil Option.getD_some Option.getD_none Option.map_some Option.map_none List.length_cons List.length_nil List.all_cons List.all_nil Bool.and_true Bool.true_and and_true true_and and_self
attribute [local go_sem] List.take_zero List.take_succ_cons List.drop_zero List.drop_succ_cons List.nil_append List.cons_append List.append_nil List.replicate_succ List.replicate_zero List.flatten_cons List.flatten_nil Nat.zero_add Nat.add_zero Nat.mul_one Nat.zero_mul Nat.one_mul Nat.mul_zero List.set_cons_zero List.set_cons_succ List.foldl_cons List.foldl_nil appendOk rowsOk inB sliceOk cutRows mtake mdrop List.length_append List.length_take List.length_drop if_true if_false or_false or_true true_or Bool.not_true Bool.not_false Bool.false_eq_true List.length_map Int.toNat_natCast Int.toNat_zero Int.toNat_one eq_self St.after St.put applyEff R0 T1 T2 T3 T4 T5 T6 T7 T8 T9 T10 T11 T12 T13 T14 T15 T16 T17 T18 T19 T20 T21 T22 T23 T24 T25 T26 T27 T28 T29 T30 T31 T32 T33 T34 T35 T36 T37 T38 T39 T40 T41 T42 T43 T44 T45 T46 T47 T48 T49 T50 T51 T52 T53 T54 T55 T56 T57 T58 T59 T60 T61 T62 T63 T64 T65 T66 T67 T68 T69 T70 T71 T72 T73 T74 T75 T76 T77 T78 T79 T80 T81 T82 T83 T84 T85 T86 T87 T88 T89 T90 T91 T92 T93 T94 T95 T96 T97 T98 T99 T100 T101 T102 T103 T105 T106 T107 T108 T109 T110 T111 T112 T113 T114 T117 T118 T119 T120 T121 T122 T123 T124 T125 T126 T127 T130 T131 T132 T133 T134 ti1 ti2 ti3 ti4 ti5 ti6 ti7 ti8 ti9 ti10 ti11 ti12 ti13 ti14 ti15 ti16 ti17 ti18 ti19 ti20 ti21 ti22 ti23 ti24 ti25 ti26 ti27 ti28 ti29 ti30 ti31 ti32 ti33 ti34 ti35 ti36 ti37 ti38 ti39 ti40 ti41 ti42 ti43 ti44 ti45 ti46 ti47 ti48 ti49 ti50 ti51 ti52 ti53 ti54 ti55 ti56 ti57 ti58 ti59 ti60 ti61 ti62 ti63 ti64 ti65 ti66 ti67 ti68 ti69 ti70 ti71 ti72 ti73 ti74 ti75 ti76 ti77 ti78 ti79 ti80 ti81 ti82 ti83 ti84 ti85 ti86 ti87 ti88 ti89 ti90 ti91 ti92 ti93 ti94 ti95 ti96 ti97 ti98 ti99 ti100 ti101 ti102 ti103 ti105 ti106 ti107 ti108 ti109 ti110 ti111 ti112 ti113 ti114 ti117 ti118 ti119 ti120 ti121 ti122 ti123 ti124 ti125 ti126 ti127 ti130 ti131 ti132 ti133 ti134
section
set_option linter.unusedVariables false
set_option linter.unusedSimpArgs false
open Go.RowKit
attribute [local irreducible] AWp evOps evD
theorem fitFrom_le (h : List Cm) (c : List Int) (s : Int) (f k : Nat) : fitFrom h c s f k ≤ f := by
  induction f generalizing k with
  | zero => simp [fitFrom]
  | succ f ih =>
    simp only [fitFrom]
    split
    · have := ih (k + 1); omega
    · omega
def stepC (h : List Cm) (c : List Int) (s : Nat) : List Int := c.set s (fitV h c (s : Int))
def roundC (h : List Cm) (c : List Int) : Nat → List Int
  | 0 => c
  | s + 1 => stepC h (roundC h c s) s
theorem cutV_get {c : List Int} (hc : cutV c = true) (s : Nat) (hs : s < 6) : 0 ≤ c.getD s 0 ∧ c.getD s 0 ≤ 999 := by
  have hc6 : c.length = 6 := by simp [cutV] at hc; omega
  have hlt : s < c.length := by omega
  have hmem : c.getD s 0 ∈ c := by rw [List.getD_eq_getElem?_getD, List.getElem?_eq_getElem hlt]; exact List.getElem_mem hlt
  have := (List.all_eq_true.1 (Bool.and_eq_true _ _ ▸ hc).2) _ hmem
  simpa [cutOk] using this
theorem fitV_le {h : List Cm} {c : List Int} (hc : cutV c = true) (s : Nat) (hs : s < 6) : 0 ≤ fitV h c (s : Int) ∧ fitV h c (s : Int) ≤ c.getD s 0 := by
  have h1 := cutV_get hc s hs
  have h2 := fitFrom_le h c (s : Int) (c.getD s 0).toNat 0
  unfold fitV
  rw [Int.toNat_natCast]
  omega
theorem stepC_ok {h : List Cm} {c : List Int} (hc : cutV c = true) (s : Nat) (hs : s < 6) : cutV (stepC h c s) = true := by
  have hc6 : c.length = 6 := by simp [cutV] at hc; omega
  have h1 := fitV_le (h := h) hc s hs
  have h2 := cutV_get hc s hs
  simp only [cutV, stepC, Bool.and_eq_true, List.length_set, List.all_eq_true, decide_eq_true_eq]
  refine ⟨hc6, fun x hx => ?_⟩
  rcases List.mem_or_eq_of_mem_set hx with hx | rfl
  · exact List.all_eq_true.1 (Bool.and_eq_true _ _ ▸ hc).2 x hx
  · simp [cutOk]; omega
theorem roundC_ok {h : List Cm} {c : List Int} (hc : cutV c = true) : ∀ s, s ≤ 6 → cutV (roundC h c s) = true
  | 0, _ => hc
  | s + 1, hs => stepC_ok (roundC_ok hc s (by omega)) s (by omega)
theorem natsum_set (l : List Nat) (i v : Nat) (hi : i < l.length) : (l.set i v).sum + l.getD i 0 = l.sum + v := by
  induction l generalizing i with
  | nil => simp at hi
  | cons a l ih =>
    cases i with
    | zero => simp; omega
    | succ i =>
      have := ih i (by simpa using hi)
      simp only [List.set_cons_succ, List.sum_cons, List.getD_cons_succ]
      omega
def sumC (c : List Int) : Nat := (c.map Int.toNat).sum
theorem sum_step {h : List Cm} {c : List Int} (hc : cutV c = true) (s : Nat) (hs : s < 6) : sumC (stepC h c s) + (c.getD s 0).toNat = sumC c + (fitV h c (s : Int)).toNat := by
  have hc6 : c.length = 6 := by simp [cutV] at hc; omega
  have h1 := natsum_set (c.map Int.toNat) s (fitV h c (s : Int)).toNat (by simp; omega)
  have h2 : (c.map Int.toNat).getD s 0 = (c.getD s 0).toNat := by
    simp only [List.getD_eq_getElem?_getD, List.getElem?_map]
    cases c[s]? <;> simp
  rw [h2] at h1
  simp only [sumC, stepC, List.map_set]
  exact h1
theorem set_same (c : List Int) (s : Nat) : c.set s (c.getD s 0) = c := by
  apply List.ext_getElem?
  intro k
  rw [List.getElem?_set]
  by_cases hk : s = k
  · subst hk
    by_cases h : s < c.length
    · simp [h, List.getD_eq_getElem?_getD]
    · simp [h]
  · simp [hk]
theorem sum_round {h : List Cm} {c : List Int} (hc : cutV c = true) : ∀ s, s ≤ 6 → sumC (roundC h c s) ≤ sumC c ∧ (sumC (roundC h c s) = sumC c → roundC h c s = c ∧ ∀ k, k < s → fitV h c (k : Int) = c.getD k 0)
  | 0, _ => ⟨Nat.le_refl _, fun _ => ⟨rfl, by omega⟩⟩
  | s + 1, hs => by
    obtain ⟨h1, h2⟩ := sum_round (h := h) hc s (by omega)
    have hok := roundC_ok (h := h) hc s (by omega)
    have h3 := sum_step (h := h) hok s (by omega)
    have h4 := fitV_le (h := h) hok s (by omega)
    simp only [roundC]
    refine ⟨by omega, fun he => ?_⟩
    obtain ⟨h5, h6⟩ := h2 (by omega)
    rw [h5] at h3 h4 he ⊢
    have h7 : fitV h c (s : Int) = c.getD s 0 := by omega
    refine ⟨by rw [stepC, h7, set_same], fun k hk => ?_⟩
    rcases Nat.lt_or_ge k s with h8 | h8
    · exact h6 k h8
    · have : k = s := by omega
      subst this; exact h7
theorem round_less {h : List Cm} {c : List Int} (hc : cutV c = true) (hn : closedC h c = false) : sumC (roundC h c 6) < sumC c := by
  obtain ⟨h1, h2⟩ := sum_round (h := h) hc 6 (Nat.le_refl _)
  refine Nat.lt_of_le_of_ne h1 fun he => ?_
  obtain ⟨_, h3⟩ := h2 he
  have : closedC h c = true := by
    simp only [closedC, hc, Bool.true_and, List.all_eq_true, List.mem_range, Bool.not_eq_true', decide_eq_false_iff_not]
    intro k hk
    rw [h3 k hk]; omega
  rw [this] at hn
  cases hn
/-- What is left when all fits. -/
def grC (h : List Cm) : Nat → List Int → List Int
  | 0, c => c
  | f + 1, c => if closedC h c = true then c else grC h f (roundC h c 6)
theorem grC_closed {h : List Cm} {c : List Int} (hc : closedC h c = true) (f : Nat) : grC h f c = c := by
  cases f with
  | zero => rfl
  | succ f => simp [grC, hc]
theorem grC_fuel {h : List Cm} : ∀ (f g : Nat) (c : List Int), cutV c = true → sumC c < f → sumC c < g → grC h f c = grC h g c
  | 0, _, _, _, h1, _ => by omega
  | _, 0, _, _, _, h2 => by omega
  | f + 1, g + 1, c, hc, h1, h2 => by
    simp only [grC]
    by_cases hcl : closedC h c = true
    · simp [hcl]
    · simp only [hcl]
      have h3 := round_less hc (by simpa using hcl)
      have := grC_fuel (h := h) f g (roundC h c 6) (roundC_ok hc 6 (Nat.le_refl _)) (by omega) (by omega)
      simpa using this
def greatest (h : List Cm) (c : List Int) : List Int := grC h (sumC c + 1) c
theorem greatest_step {h : List Cm} {c : List Int} (hc : cutV c = true) (hn : closedC h c = false) : greatest h c = greatest h (roundC h c 6) := by
  have h3 := round_less hc hn
  have h4 := roundC_ok (h := h) hc 6 (Nat.le_refl _)
  unfold greatest
  rw [show sumC c + 1 = sumC c + 1 from rfl, grC, if_neg (by simp [hn])]
  exact grC_fuel _ _ _ h4 h3 (by omega)
end
section
set_option linter.unusedVariables false
set_option linter.unusedSimpArgs false
open Go.RowKit
attribute [local irreducible] AWp evOps evD AWq
def uniHd : List Nm → List Nm → Nm
  | [], y :: _ => y
  | x :: _, [] => x
  | x :: _, y :: _ => if cmpN x.1 x.2 y.1 y.2 ≤ 0 then x else y
  | [], [] => (0, 0)
def offHd (n : Nm) : List Nm → List Nm
  | x :: r => if nmEq x n = true then r else x :: r
  | [] => []
def uni : Nat → List Nm → List Nm → List Nm
  | 0, _, _ => []
  | f + 1, a, b => if a.isEmpty && b.isEmpty then [] else uniHd a b :: uni f (offHd (uniHd a b) a) (offHd (uniHd a b) b)
def uniL (a b : List Nm) : List Nm := uni (a.length + b.length) a b
theorem offHd_le (n : Nm) (l : List Nm) : (offHd n l).length ≤ l.length := by
  cases l with
  | nil => simp [offHd]
  | cons x r => simp only [offHd]; split <;> simp
theorem uni_less (a b : List Nm) (h : (a.isEmpty && b.isEmpty) = false) : (offHd (uniHd a b) a).length + (offHd (uniHd a b) b).length < a.length + b.length := by
  have h1 := offHd_le (uniHd a b) a
  have h2 := offHd_le (uniHd a b) b
  match a, b with
  | [], [] => simp at h
  | [], y :: r =>
    have : nmEq y y = true := (nmEq_iff _ _).2 rfl
    simp [offHd, uniHd, this]
  | x :: r, [] =>
    have : nmEq x x = true := (nmEq_iff _ _).2 rfl
    simp [offHd, uniHd, this]
  | x :: r, y :: s =>
    simp only [uniHd] at h1 h2 ⊢
    split
    · rename_i hc
      rw [if_pos hc] at h2
      have : nmEq x x = true := (nmEq_iff _ _).2 rfl
      simp only [offHd, this, if_true, List.length_cons] at h2 ⊢
      omega
    · rename_i hc
      rw [if_neg hc] at h1
      have : nmEq y y = true := (nmEq_iff _ _).2 rfl
      simp only [offHd, this, if_true, List.length_cons] at h1 ⊢
      omega
theorem uni_fuel : ∀ (f g : Nat) (a b : List Nm), a.length + b.length ≤ f → a.length + b.length ≤ g → uni f a b = uni g a b
  | 0, 0, _, _, _, _ => rfl
  | 0, g + 1, a, b, h, _ => by
    have ha : a = [] := List.eq_nil_of_length_eq_zero (by omega)
    have hb : b = [] := List.eq_nil_of_length_eq_zero (by omega)
    subst ha; subst hb; rfl
  | f + 1, 0, a, b, _, h => by
    have ha : a = [] := List.eq_nil_of_length_eq_zero (by omega)
    have hb : b = [] := List.eq_nil_of_length_eq_zero (by omega)
    subst ha; subst hb; rfl
  | f + 1, g + 1, a, b, h1, h2 => by
    simp only [uni]
    cases he : a.isEmpty && b.isEmpty with
    | true => rfl
    | false =>
      have := uni_less a b he
      simp only [Bool.false_eq_true, if_false]
      rw [uni_fuel f g _ _ (by omega) (by omega)]
theorem uniL_nil : uniL [] [] = [] := rfl
theorem uniL_step (a b : List Nm) (h : (a.isEmpty && b.isEmpty) = false) : uniL a b = uniHd a b :: uniL (offHd (uniHd a b) a) (offHd (uniHd a b) b) := by
  have h1 := uni_less a b h
  unfold uniL
  cases hn : a.length + b.length with
  | zero => omega
  | succ f =>
    simp only [uni, h, Bool.false_eq_true, if_false]
    rw [uni_fuel f _ _ _ (by omega) (Nat.le_refl _)]
def encN (n : Nm) : Value := .agg #[.int .i64 n.1, .int .i64 n.2]
theorem encN_has {m : Mem} {n : Nm} {v : Value} (h : Has m (.agg (nm n.1 n.2)) v) : v = encN n := by
  simp only [nm, litI, Has] at h
  obtain ⟨vs, rfl, h⟩ := h
  match vs, h with
  | [x, y], h =>
    simp only [HasL, Has, Rep] at h
    rw [h.1.1, h.2.1.1]; rfl
theorem has_encN (m : Mem) (n : Nm) : Has m (.agg (nm n.1 n.2)) (encN n) := by
  simp only [nm, litI, Has]
  exact ⟨_, rfl, by simp only [HasL, Has, Rep]; exact ⟨⟨trivial, rfl⟩, ⟨trivial, rfl⟩, trivial⟩⟩
abbrev uniS (l ga gb : Nat) (a b : List Nm) : St := ⟨[.d (.lit (.func (.yield l) #[] #[])), .ptr 65 ga 0, .ptr 66 gb 0, .any, .any, .any, .any, .any, .any, .any, .any, .any, .any, .any, .any, .any, .any, .any, .any, .any, .any, .any, .any, .any, .any, .any, .any, .any, .any, .any, .any, .any, .any, .any, .any, .any, .any, .any, .any, .any, .any, .any, .any, .any, .any, .any, .any, .any, .any, .any, .any, .any, .any, .any, .any, .any, .any, .any, .any, .any, .any, .any, .any, .any, .any], [.no, .no, .no, .no, .no, .no, .no, .no, .no, .no, .no, .no, .no, .no, .no, .no, .no, .no, .no, .no, .no, .no, .no, .no, .no, .no, .no, .no, .no, .no, .no, .no, .no, .no, .no, .no, .no, .no, .no, .no, .no, .no, .no, .no, .no, .no, .no, .no, .no, .no, .no, .no, .no, .no, .no, .no, .no, .no, .no, .no, .no, .no, .no, .no, .no, .box ga [.d (nms a)], .box gb [.d (nms b)]]⟩
abbrev two (ga gb : Nat) (b : Nat) : Prop := b = ga ∨ b = gb
/-- One round of the loop. -/
def roundW (l ga gb : Nat) (xs : List Nm) (J : List Nm → (Nat → Prop) → World → Prop) (n : Nat) (a : Act) (A : World) : Prop :=
  ∃ (pre a' b' : List Nm) (O C : Nat → Prop), n = a'.length + b'.length ∧ pre ++ uniL a' b' = xs ∧ Sat ⟨Try.prog, A, C, two ga gb, none, []⟩ (uniS l ga gb a' b') a A ∧ J pre O A ∧ ∀ b, O b → b < A.heap.size ∧ ¬ two ga gb b ∧ ¬ C b
abbrev uniT (l ga gb g : Nat) (n : Nm) (a b : List Nm) : St := ⟨[.d (.lit (.func (.yield l) #[] #[])), .ptr 65 ga 0, .ptr 66 gb 0, .any, .ptr 4 g 0, .any, .any, .any, .any, .any, .any, .any, .any, .any, .any, .any, .any, .any, .any, .any, .any, .any, .any, .any, .any, .any, .any, .any, .any, .any, .any, .any, .any, .any, .any, .any, .any, .any, .any, .any, .any, .any, .any, .any, .any, .any, .any, .any, .any, .any, .any, .any, .any, .any, .any, .any, .any, .any, .any, .any, .any, .any, .any, .any, .any], [.no, .no, .no, .no, .box g (nm n.1 n.2), .no, .no, .no, .no, .no, .no, .no, .no, .no, .no, .no, .no, .no, .no, .no, .no, .no, .no, .no, .no, .no, .no, .no, .no, .no, .no, .no, .no, .no, .no, .no, .no, .no, .no, .no, .no, .no, .no, .no, .no, .no, .no, .no, .no, .no, .no, .no, .no, .no, .no, .no, .no, .no, .no, .no, .no, .no, .no, .no, .no, .box ga [.d (nms a)], .box gb [.d (nms b)]]⟩
abbrev uniU (l ga gb g : Nat) (n : Nm) (a b : List Nm) : St := ⟨[.d (.lit (.func (.yield l) #[] #[])), .ptr 65 ga 0, .ptr 66 gb 0, .any, .ptr 4 g 0, .any, .any, .any, .any, .any, .any, .any, .any, .any, .any, .any, .any, .any, .any, .any, .any, .any, .any, .any, .any, .any, .any, .any, .any, .any, .any, .any, .any, .any, .any, .any, .any, .any, .any, .any, .any, .any, .any, .any, .any, .any, .any, .any, .any, .any, .any, .any, .any, .any, .any, .any, .any, .any, .any, .any, .any, .d (.lit (.func (.yield l) #[] #[])), .agg (nm n.1 n.2), .any, .any], [.no, .no, .no, .no, .box g (nm n.1 n.2), .no, .no, .no, .no, .no, .no, .no, .no, .no, .no, .no, .no, .no, .no, .no, .no, .no, .no, .no, .no, .no, .no, .no, .no, .no, .no, .no, .no, .no, .no, .no, .no, .no, .no, .no, .no, .no, .no, .no, .no, .no, .no, .no, .no, .no, .no, .no, .no, .no, .no, .no, .no, .no, .no, .no, .no, .no, .no, .no, .no, .box ga [.d (nms a)], .box gb [.d (nms b)]]⟩
abbrev uniV (l ga gb : Nat) (a b : List Nm) : St := ⟨[.d (.lit (.func (.yield l) #[] #[])), .ptr 65 ga 0, .ptr 66 gb 0, .any, .any, .any, .any, .any, .any, .any, .any, .any, .any, .any, .any, .any, .any, .any, .any, .any, .any, .any, .any, .any, .any, .any, .any, .any, .any, .any, .any, .any, .any, .any, .any, .any, .any, .any, .any, .any, .any, .any, .any, .any, .any, .any, .any, .any, .any, .any, .any, .any, .any, .any, .any, .any, .any, .any, .any, .any, .any, .any, .any, litB true, .any], [.no, .no, .no, .no, .no, .no, .no, .no, .no, .no, .no, .no, .no, .no, .no, .no, .no, .no, .no, .no, .no, .no, .no, .no, .no, .no, .no, .no, .no, .no, .no, .no, .no, .no, .no, .no, .no, .no, .no, .no, .no, .no, .no, .no, .no, .no, .no, .no, .no, .no, .no, .no, .no, .no, .no, .no, .no, .no, .no, .no, .no, .no, .no, .no, .no, .box ga [.d (nms a)], .box gb [.d (nms b)]]⟩
def uniFact (a' b' : List Nm) (n : Nm) (a b : List Nm) : Prop := uniL a' b' = n :: uniL a b ∧ a.length + b.length < a'.length + b'.length
theorem uni_fact (a' b' : List Nm) (h : (a'.isEmpty && b'.isEmpty) = false) : uniFact a' b' (uniHd a' b') (offHd (uniHd a' b') a') (offHd (uniHd a' b') b') := ⟨uniL_step _ _ h, uni_less _ _ h⟩
theorem uni_mid {E : Env} {c : Code} {QW : Exit → Act → World → Prop} {σ : St} (l ga gb : Nat) {a' b' : List Nm} {g : Nat} (n : Nm) (a b : List Nm) (hg : σ.t[4]? = some (.ptr 4 g 0)) (hf : uniFact a' b' n a b) (hw : Wk E σ (uniT l ga gb g n a b))
    (h : ∀ (g : Nat) (n : Nm) (a b : List Nm), uniFact a' b' n a b → AWq E c QW (uniT l ga gb g n a b)) : AWq E c QW σ := awq_wk hw (h g n a b hf)
theorem own_uniV {l ga gb : Nat} {a b : List Nm} {x : Nat} : ownOf (uniV l ga gb a b).o x ↔ two ga gb x := by
  constructor
  · rintro ⟨y, hy, hb⟩
    simp [uniV] at hy
    rcases hy with rfl | rfl | rfl
    · simp [AObj.blk] at hb
    · simp only [AObj.blk, Option.some.injEq] at hb; exact .inl hb.symm
    · simp only [AObj.blk, Option.some.injEq] at hb; exact .inr hb.symm
  · rintro (rfl | rfl)
    · exact ⟨.box x [.d (nms a)], by simp, rfl⟩
    · exact ⟨.box x [.d (nms b)], by simp, rfl⟩
/-- The round's call, and what is known behind it. -/
theorem uni_next {l ga gb g : Nat} {xs : List Nm} {J : List Nm → (Nat → Prop) → World → Prop} {O C : Nat → Prop} {pre a' b' : List Nm} {n : Nm} {a b : List Nm} {A B : World} {act : Act}
    (hst : ∀ pre O A B, J pre O A → Fr (two ga gb) A B → J pre O B)
    (hO : ∀ pre O A, J pre O A → ∀ b, O b → b < A.heap.size ∧ ¬ two ga gb b)
    (hy : ∀ pre x O A, J pre O A → (pre ++ [x]) <+: xs → YieldAt Fence.wide 0 Try.prog l #[encN x] A fun e B => e = .returned (.bool true) ∧ ∃ O', J (pre ++ [x]) O' B ∧ Fr O A B ∧ ∀ b, O' b → O b ∨ A.heap.size ≤ b)
    (hxs : pre ++ uniL a' b' = xs) (hf : uniFact a' b' n a b) (hJ : J pre O A) (hdis : ∀ b, O b → b < A.heap.size ∧ ¬ two ga gb b ∧ ¬ C b)
    (hs : Sat ⟨Try.prog, A, C, two ga gb, none, []⟩ (uniU l ga gb g n a b) act B) :
    ∃ R : Ending → World → Prop, YieldAt Fence.wide 0 Try.prog l #[act.eval (.tmp 62)] B R ∧ ∀ e w', R e w' → ∃ (v : Value) (E' : Env), e = .returned v ∧ E'.P = Try.prog ∧ E'.rd = none ∧ E'.df = [] ∧ Sat E' (uniV l ga gb a b) (act.put (some 63) v) w' ∧
      ∀ s a2 w2, Sat E' s a2 w2 → Wk E' s (uniS l ga gb a b) → ∃ n', n' < a'.length + b'.length ∧ roundW l ga gb xs J n' a2 w2 := by
  have hfr : Fr (two ga gb) A B := hs.fr
  have hJ2 := hst _ _ _ _ hJ hfr
  have h62 : act.eval (.tmp 62) = encN n := by
    obtain ⟨v, hv, hh⟩ := hs.t.get 62 (.agg (nm n.1 n.2)) rfl
    have : act.eval (.tmp 62) = v := by
      simp only [Act.eval]
      rw [Array.getElem?_toList] at hv
      rw [Array.getD_eq_getD_getElem?, hv]; rfl
    rw [this]
    exact encN_has hh
  have hpre : pre ++ [n] ++ uniL a b = xs := by rw [← hxs, hf.1]; simp
  rw [h62]
  refine ⟨_, hy pre n O B hJ2 ⟨_, hpre⟩, ?_⟩
  rintro e w' ⟨rfl, O', hJ3, hfr3, hnew⟩
  have hs0 : Sat ⟨Try.prog, A, C, two ga gb, none, []⟩ (uniV l ga gb a b) (act.put (some 63) (.bool true)) B := by
    have hw : Wk ⟨Try.prog, A, C, two ga gb, none, []⟩ (uniU l ga gb g n a b) (uniS l ga gb a b) := by
      refine Wk.mk ?_ ?_
      all_goals (repeat' first | exact trivial | exact LeA.refl _ | exact LeA.any _ | exact LeO.refl _ | exact LeO.no _ | exact LeA.nil _ | (refine LeA.i ?_; (first | rfl | (push_cast; rfl) | (rw [wrap_id (by omega)]; push_cast; omega) | (simp [wrap_id]; omega))) | refine ⟨?_, ?_⟩)
    have := (hw _ _ hs).put (some 63) (av := litB true) (v := .bool true) (by simp only [litB, Has, Rep]; exact ⟨trivial, rfl⟩)
    exact this
  have hs1 := hs0.foreign (O := O) (fun x hx => ⟨(hdis x hx).1, (hdis x hx).2.1, (hdis x hx).2.2⟩) hfr3 none rfl
  refine ⟨_, _, rfl, rfl, rfl, rfl, hs1, ?_⟩
  intro s a2 w2 h2 hw
  have h3 := hw _ _ h2
  have hM : Fr (two ga gb) w' w2 := h2.fr.mono fun k _ hk => own_uniV.1 hk
  refine ⟨a.length + b.length, hf.2, pre ++ [n], a, b, O', (Env.at ⟨Try.prog, A, C, two ga gb, none, []⟩ (uniV l ga gb a b).o B w' none []).C (uniS l ga gb a b).o w2, rfl, hpre, ?_, hst _ _ _ _ hJ3 hM, ?_⟩
  · -- the ground is laid anew
    have h4 := h3.rebase none
    have e1 : ownOf (uniS l ga gb a b).o = two ga gb := by
      funext x
      exact propext (own_uniV (l := l) (a := a) (b := b))
    have e2 : Env.at (Env.at ⟨Try.prog, A, C, two ga gb, none, []⟩ (uniV l ga gb a b).o B w' none []) (uniS l ga gb a b).o w2 w2 none [] = ⟨Try.prog, w2, (Env.at ⟨Try.prog, A, C, two ga gb, none, []⟩ (uniV l ga gb a b).o B w' none []).C (uniS l ga gb a b).o w2, two ga gb, none, []⟩ := by
      unfold Env.at
      rw [e1]
    rw [← e2]
    exact h4
  · intro x hx
    have hx3 := hO _ _ _ hJ3 x hx
    have hlt : x < w'.heap.size := hx3.1
    have hsz := h2.fr.size
    refine ⟨Nat.lt_of_lt_of_le hlt hsz, hx3.2, ?_⟩
    rintro (hc | hc)
    · -- frozen where the round began
      have hB : x < B.heap.size := hs0.lt_C hc
      rcases hnew x hx with h5 | h5
      · rcases hc with hc | hc
        · exact (hdis x h5).2.2 hc
        · rcases hc.1 with h6 | h6
          · have h7 := (hdis x h5).1
            have : A.heap.size ≤ x := h6
            omega
          · exact (hdis x h5).2.1 h6
      · omega
    · rcases hc.1 with h6 | h6
      · have : w'.heap.size ≤ x := h6
        omega
      · exact hx3.2 (own_uniV.1 h6)
end
section
set_option linter.unusedVariables false
set_option linter.unusedSimpArgs false
open Go.RowKit
theorem awq_go {E : Env} {F : Fence} {P : Program} {c : Code} {QW : Exit → Act → World → Prop} {σ : St} {a : Act} {w : World} (hF : (E.F, E.P) = (F, P)) (hs : Sat E σ a w) (h : AWq E c QW σ) : c.wpIn F 0 P QW a w := by
  injection hF with h1 h2
  subst h1; subst h2
  exact h a w hs
attribute [local irreducible] AWp evOps evD AWq
set_option maxHeartbeats 4000000 in
set_option pp.maxSteps 3000 in
theorem f69_iter {ga gb : Nat} (hne : ga ≠ gb) {a b : List Nm} {C : Nat → Prop} {w : World} {ta tb : TypeId} {va vb : Value} (hC : ∀ x, C x → x < w.heap.size ∧ ¬ two ga gb x)
    (ha : w.heap[ga]? = some (.cells #[va] ta (0, 0))) (hb : w.heap[gb]? = some (.cells #[vb] tb (0, 0))) (ra : Rep ⟨w.heap, C⟩ (nms a) va) (rb : Rep ⟨w.heap, C⟩ (nms b) vb) :
    IterC Try.prog 69 #[.pointer (some ⟨ga, 0, none⟩), .pointer (some ⟨gb, 0, none⟩)] (two ga gb) C encN (uniL a b) w := by
  intro l J W O hfr hst hO hy h0
  have hsame : ∀ x, (C x ∨ two ga gb x) → x < w.heap.size → W.heap[x]? = w.heap[x]? := fun x hx hlt => hfr.block x hlt (fun h => hx.elim h.1 h.2)
  have hga : ga < w.heap.size := (Array.getElem?_eq_some_iff.1 ha).1
  have hgb : gb < w.heap.size := (Array.getElem?_eq_some_iff.1 hb).1
  have hle : MemLe ⟨w.heap, C⟩ ⟨W.heap, C⟩ := ⟨fun _ h => h, fun x hx => hsame x (.inl hx) (hC x hx).1⟩
  have hsz := hfr.size
  have ha' : W.heap[ga]? = some (.cells #[va] ta (0, 0)) := (hsame ga (.inr (.inl rfl)) hga).trans ha
  have hb' : W.heap[gb]? = some (.cells #[vb] tb (0, 0)) := (hsame gb (.inr (.inr rfl)) hgb).trans hb
  have ra' := Rep.mono hle _ _ ra
  have rb' := Rep.mono hle _ _ rb
  have hstart : Sat ⟨Try.prog, W, C, two ga gb, none, []⟩ (uniS l ga gb a b) { tmps := (#[.func (.yield l) #[] #[]] ++ #[.pointer (some ⟨ga, 0, none⟩), .pointer (some ⟨gb, 0, none⟩)]) ++ Array.replicate (65 - 3) undef, defers := [] } W := by
    refine sat_start (P := Try.prog) (args := [.d (.lit (.func (.yield l) #[] #[])), .ptr 65 ga 0, .ptr 66 gb 0]) (vs := [.func (.yield l) #[] #[], .pointer (some ⟨ga, 0, none⟩), .pointer (some ⟨gb, 0, none⟩)]) (n := 65) (holds := [.box ga [.d (nms a)], .box gb [.d (nms b)]])
      (fun x hx => ⟨Nat.lt_of_lt_of_le (hC x hx).1 hsz, (hC x hx).2⟩) ?_ ?_ ?_
    · simp only [HasL, Has, Rep]; exact ⟨⟨trivial, rfl⟩, trivial, trivial, trivial⟩
    · intro i x hx
      match i, hx with
      | 0, hx =>
        simp at hx; subst hx
        exact ⟨ga, rfl, .inl rfl, by omega, ta, [va], ha', by simp only [HasL, Has]; exact ⟨ra', trivial⟩, by intro x hx; simp at hx; subst hx; exact ra'.one⟩
      | 1, hx =>
        simp at hx; subst hx
        exact ⟨gb, rfl, .inr rfl, by omega, tb, [vb], hb', by simp only [HasL, Has]; exact ⟨rb', trivial⟩, by intro x hx; simp at hx; subst hx; exact rb'.one⟩
      | i + 2, hx => simp at hx
    · intro i j x y g hx hy h1 h2
      match i, j, hx, hy with
      | 0, 0, _, _ => rfl
      | 1, 1, _, _ => rfl
      | 0, 1, hx, hy => simp at hx hy; subst hx; subst hy; simp [AObj.blk] at h1 h2; omega
      | 1, 0, hx, hy => simp at hx hy; subst hx; subst hy; simp [AObj.blk] at h1 h2; omega
      | i + 2, _, hx, _ => simp at hx
      | 0, j + 2, _, hy => simp at hy
      | 1, j + 2, _, hy => simp at hy
  refine callsIn_of_wp (fn := Try.f69) Try.func69 rfl trivial ?_
  refine wpIn_block ?_
  refine wpIn_loop_ghost (roundW l ga gb (uniL a b) J) (a.length + b.length) ⟨[], a, b, O, C, rfl, rfl, hstart, h0, fun x hx => hO _ _ _ h0 x hx⟩ ?_
  rintro n act A ⟨pre, a', b', O', C', rfl, hxs, hsat, hJ, hdis⟩
  refine awq_go (E := ⟨Try.prog, A, C', two ga gb, none, []⟩) rfl hsat ?_
  clear hsat
  have z0 : decide (((0 : Nat) : Int) > 0) = false := rfl
  have z1 : (((0 : Nat) : Int) == 0) = true := rfl
  cases a' with
  | nil =>
    cases b' with
    | nil =>
      repeat' first
        | (refine awq_seq ?_)
        | refine awq_block ?_
        | refine awp_seq ?_
        | refine awp_block ?_
        | refine awp_skip ?_
        | (refine reg _ (by (simp only [List.map_cons, List.map_nil]; rfl)) rfl ?_; intro K hK)
        | (refine awp_cond _ (by rfl) ?_ ?_ <;> (intro hb; first | (cases hb; done) | (have ht : true = true := hb; clear ht hb) | (have ht : false = false := hb; clear ht hb) | (simp only [hb]) | skip))
        | (refine awp_exit ?_; simp only [thenA, blockA, reduceIte, RetQ, Nat.reduceEqDiff])
        | (refine awp_ret ?_; simp only [thenA, blockA, RetQ])
        | (refine ev_nil (hK _ ?_); clear hK K)
        | refine ev_guardU _ (by (simp only [go_sem, z0]; rfl)) (by (simp only [go_sem, z0]; rfl)) _ (by (simp only [go_sem, z0]; rfl)) ?_
        | (refine ev_guardT _ _ (by (simp only [go_sem, z0]; rfl)) (by (simp only [go_sem, z0]; rfl)) ?_ ?_ <;> (intro hb; first | (cases hb; done) | (have ht : true = true := hb; clear ht hb) | (have ht : false = false := hb; clear ht hb) | (simp only [hb]) | skip))
        | (refine ev_guardF _ _ (by (simp only [go_sem, z0]; rfl)) (by (simp only [go_sem, z0]; rfl)) ?_ ?_ <;> (intro hb; first | (cases hb; done) | (have ht : true = true := hb; clear ht hb) | (have ht : false = false := hb; clear ht hb) | (simp only [hb]) | skip))
        | refine ev_step0 _ _ (by (simp only [go_sem, z0]; rfl)) (by (first | trivial | decide | (simp only [inB, sliceOk, appendOk, rowsOk]; omega) | (simp [inB, sliceOk, appendOk, rowsOk]; omega))) _ (by (simp only [go_sem, z0]; rfl)) ?_
        | (refine ev_step _ (by (simp only [go_sem, z0]; rfl)) (by (first | trivial | decide | (simp only [inB, sliceOk, appendOk, rowsOk]; omega) | (simp [inB, sliceOk, appendOk, rowsOk]; omega))) _ (fun g u => by (simp only [go_sem, z0]; rfl)) ?_; intro g u; (try clear u); (try clear g))
        | fail
      intro act2 B hs
      refine ⟨hs.defers, _, results_none rfl _ _ _, _, O', rfl, ?_⟩
      have : pre = uniL a b := by rw [← hxs, uniL_nil, List.append_nil]
      rw [← this]
      exact hst _ _ _ _ hJ hs.fr
    | cons y s =>
      have h1 : decide (((s.length + 1 : Nat) : Int) > 0) = true := by simp
      have h2 : (((s.length + 1 : Nat) : Int) == 0) = false := by simp; omega
      have hf := uni_fact [] (y :: s) rfl
      have e1 : offHd y (y :: s) = s := by simp [offHd, nmEq]
      simp only [uniHd, e1] at hf
      simp only [offHd] at hf
      repeat' first
        | ((fail_if_success show AWq _ (Code.seq (Code.region 9 _ _) _) _ _); refine awq_seq ?_)
        | refine awq_block ?_
        | refine awp_seq ?_
        | refine awp_block ?_
        | refine awp_skip ?_
        | (refine reg _ (by (simp only [List.map_cons, List.map_nil]; rfl)) rfl ?_; intro K hK)
        | (refine awp_cond _ (by rfl) ?_ ?_ <;> (intro hb; first | (cases hb; done) | (have ht : true = true := hb; clear ht hb) | (have ht : false = false := hb; clear ht hb) | (simp only [hb]) | skip))
        | (refine awp_exit ?_; simp only [thenA, blockA, reduceIte, RetQ, Nat.reduceEqDiff])
        | (refine awp_ret ?_; simp only [thenA, blockA, RetQ])
        | (refine ev_nil (hK _ ?_); clear hK K)
        | refine ev_guardU _ (by (simp only [go_sem, h1, h2, z0, z1, beq_self_eq_true, List.take_length]; rfl)) (by (simp only [go_sem, h1, h2, z0, z1, beq_self_eq_true, List.take_length]; rfl)) _ (by (simp only [go_sem, h1, h2, z0, z1, beq_self_eq_true, List.take_length]; rfl)) ?_
        | (refine ev_guardT _ _ (by (simp only [go_sem, h1, h2, z0, z1, beq_self_eq_true, List.take_length]; rfl)) (by (simp only [go_sem, h1, h2, z0, z1, beq_self_eq_true, List.take_length]; rfl)) ?_ ?_ <;> (intro hb; first | (cases hb; done) | (have ht : true = true := hb; clear ht hb) | (have ht : false = false := hb; clear ht hb) | (simp only [hb]) | skip))
        | (refine ev_guardF _ _ (by (simp only [go_sem, h1, h2, z0, z1, beq_self_eq_true, List.take_length]; rfl)) (by (simp only [go_sem, h1, h2, z0, z1, beq_self_eq_true, List.take_length]; rfl)) ?_ ?_ <;> (intro hb; first | (cases hb; done) | (have ht : true = true := hb; clear ht hb) | (have ht : false = false := hb; clear ht hb) | (simp only [hb]) | skip))
        | refine ev_call0 _ _ (by (simp only [go_sem, h1, h2, z0, z1, beq_self_eq_true, List.take_length]; rfl)) (by first | exact f47_spec ..) (by (simp only [go_sem, h1, h2, z0, z1, beq_self_eq_true, List.take_length])) _ (by (simp only [go_sem, h1, h2, z0, z1, beq_self_eq_true, List.take_length]; rfl)) ?_
        | refine ev_callC _ _ _ _ (by (simp only [go_sem, h1, h2, z0, z1, beq_self_eq_true, List.take_length]; rfl)) (by (simp only [go_sem, h1, h2, z0, z1, beq_self_eq_true, List.take_length]; rfl)) (by first | exact f47_spec ..) (by (simp only [go_sem, h1, h2, z0, z1, beq_self_eq_true, List.take_length])) _ (by (simp only [go_sem, h1, h2, z0, z1, beq_self_eq_true, List.take_length]; rfl)) ?_
        | (apply regD; (case hd => (simp only [List.map_cons, List.map_nil]; rfl)); (case hok => rfl); (case' h => (intro K hK; (repeat' first
        | (apply evd_nil; refine (hK _ ?_); clear hK K)
        | (apply evd_guardU0; (case hj => (simp only [go_sem, h1, h2, z0, z1, beq_self_eq_true, List.take_length]; try rfl)); (case hu => (simp only [go_sem, h1, h2, z0, z1, beq_self_eq_true, List.take_length])); (case hσ => (simp only [go_sem, h1, h2, z0, z1, beq_self_eq_true, List.take_length]; try rfl)))
        | (apply evd_skipT0; (case hj => (simp only [go_sem, h1, h2, z0, z1, beq_self_eq_true, List.take_length]; try rfl)); (case hb => (simp only [go_sem, h1, h2, z0, z1, beq_self_eq_true, List.take_length]; try rfl)); (case hσ => (simp only [go_sem, h1, h2, z0, z1, beq_self_eq_true, List.take_length]; try rfl)))
        | (apply evd_skipF0; (case hj => (simp only [go_sem, h1, h2, z0, z1, beq_self_eq_true, List.take_length]; try rfl)); (case hb => (simp only [go_sem, h1, h2, z0, z1, beq_self_eq_true, List.take_length]; try rfl)); (case hσ => (simp only [go_sem, h1, h2, z0, z1, beq_self_eq_true, List.take_length]; try rfl)))
        | (apply evd_guardU; (case hj => (simp only [go_sem, h1, h2, z0, z1, beq_self_eq_true, List.take_length]; try rfl)); (case hu => (simp only [go_sem, h1, h2, z0, z1, beq_self_eq_true, List.take_length])); (case hσ => (simp only [go_sem, h1, h2, z0, z1, beq_self_eq_true, List.take_length]; try rfl)))
        | (apply evd_skipT; (case hj => (simp only [go_sem, h1, h2, z0, z1, beq_self_eq_true, List.take_length]; try rfl)); (case hb => (simp only [go_sem, h1, h2, z0, z1, beq_self_eq_true, List.take_length]; try rfl)); (case hσ => (simp only [go_sem, h1, h2, z0, z1, beq_self_eq_true, List.take_length]; try rfl)))
        | (apply evd_skipF; (case hj => (simp only [go_sem, h1, h2, z0, z1, beq_self_eq_true, List.take_length]; try rfl)); (case hb => (simp only [go_sem, h1, h2, z0, z1, beq_self_eq_true, List.take_length]; try rfl)); (case hσ => (simp only [go_sem, h1, h2, z0, z1, beq_self_eq_true, List.take_length]; try rfl)))
        | (apply evd_guardT; (case hj => (simp only [go_sem, h1, h2, z0, z1, beq_self_eq_true, List.take_length]; try rfl)); (case hb => (simp only [go_sem, h1, h2, z0, z1, beq_self_eq_true, List.take_length]; try rfl)); (case' h2 => (intro hb; first | (cases hb; done) | (simp only [hb]) | skip)); (case' h1 => (intro hb; first | (cases hb; done) | (simp only [hb]) | skip)))
        | (apply evd_guardF; (case hj => (simp only [go_sem, h1, h2, z0, z1, beq_self_eq_true, List.take_length]; try rfl)); (case hb => (simp only [go_sem, h1, h2, z0, z1, beq_self_eq_true, List.take_length]; try rfl)); (case' h2 => (intro hb; first | (cases hb; done) | (simp only [hb]) | skip)); (case' h1 => (intro hb; first | (cases hb; done) | (simp only [hb]) | skip)))
        | (apply evd_call0; (case hi => (simp only [go_sem, h1, h2, z0, z1, beq_self_eq_true, List.take_length]; try rfl)); (case hys => (simp only [go_sem, h1, h2, z0, z1, beq_self_eq_true, List.take_length]; try rfl)); (case hs => first | exact f47_spec ..); (case hok => (simp only [go_sem, h1, h2, z0, z1, beq_self_eq_true, List.take_length])); (case hw => (simp only [go_sem, h1, h2, z0, z1, beq_self_eq_true, List.take_length]; try rfl)); (case hσ => (simp only [go_sem, h1, h2, z0, z1, beq_self_eq_true, List.take_length]; try rfl)))
        | (apply evd_callC; (case hf => (simp only [go_sem, h1, h2, z0, z1, beq_self_eq_true, List.take_length]; try rfl)); (case hi => (simp only [go_sem, h1, h2, z0, z1, beq_self_eq_true, List.take_length]; try rfl)); (case hys => (simp only [go_sem, h1, h2, z0, z1, beq_self_eq_true, List.take_length]; try rfl)); (case hs => first | exact f47_spec ..); (case hok => (simp only [go_sem, h1, h2, z0, z1, beq_self_eq_true, List.take_length])); (case hw => (simp only [go_sem, h1, h2, z0, z1, beq_self_eq_true, List.take_length]; try rfl)); (case hσ => (simp only [go_sem, h1, h2, z0, z1, beq_self_eq_true, List.take_length]; try rfl)))
        | (apply evd_step0; (case hr => (simp only [go_sem, h1, h2, z0, z1, beq_self_eq_true, List.take_length]; try rfl)); (case hi => (simp only [go_sem, h1, h2, z0, z1, beq_self_eq_true, List.take_length]; try rfl)); (case hc => (first | trivial | decide | (simp only [inB, sliceOk, appendOk, rowsOk]; omega) | (simp [inB, sliceOk, appendOk, rowsOk]; omega))); (case hσ => (simp only [go_sem, h1, h2, z0, z1, beq_self_eq_true, List.take_length]; try rfl)))
        | (apply evd_step; (case hr => (simp only [go_sem, h1, h2, z0, z1, beq_self_eq_true, List.take_length]; try rfl)); (case hi => (simp only [go_sem, h1, h2, z0, z1, beq_self_eq_true, List.take_length]; try rfl)); (case hc => (first | trivial | decide | (simp only [inB, sliceOk, appendOk, rowsOk]; omega) | (simp [inB, sliceOk, appendOk, rowsOk]; omega))); (case hw => (intro g u; simp only [go_sem, h1, h2, z0, z1, beq_self_eq_true, List.take_length]; try rfl)); (case hσ => (intro g u; simp only [go_sem, h1, h2, z0, z1, beq_self_eq_true, List.take_length]; try rfl)); (case' hk => (intro g u; (try clear u); (try clear g))))
        | fail))); (case hB => kernel_rfl))
        | refine ev_step0 _ _ (by (simp only [go_sem, h1, h2, z0, z1, beq_self_eq_true, List.take_length]; rfl)) (by (first | trivial | decide | (simp only [inB, sliceOk, appendOk, rowsOk]; omega) | (simp [inB, sliceOk, appendOk, rowsOk]; omega))) _ (by (simp only [go_sem, h1, h2, z0, z1, beq_self_eq_true, List.take_length]; rfl)) ?_
        | (refine ev_step _ (by (simp only [go_sem, h1, h2, z0, z1, beq_self_eq_true, List.take_length]; rfl)) (by (first | trivial | decide | (simp only [inB, sliceOk, appendOk, rowsOk]; omega) | (simp [inB, sliceOk, appendOk, rowsOk]; omega))) _ (fun g u => by (simp only [go_sem, h1, h2, z0, z1, beq_self_eq_true, List.take_length]; rfl)) ?_; intro g u; (try clear u); (try clear g))
        | fail
      refine uni_mid l ga gb _ _ _ rfl hf ?_ ?_
      · refine Wk.mk ?_ ?_
        all_goals (repeat' first | exact trivial | exact LeA.refl _ | exact LeA.any _ | exact LeO.refl _ | exact LeO.no _ | exact LeA.nil _ | (refine LeA.i ?_; (first | rfl | (push_cast; rfl) | (rw [wrap_id (by omega)]; push_cast; omega) | (simp [wrap_id]; omega))) | refine ⟨?_, ?_⟩)
      intro g n a2 b2 hf2
      refine awq_yield (E := ⟨Try.prog, A, C', two ga gb, none, []⟩) T_ok (ly := l) (pre := [_, _]) (post := [_]) rfl rfl rfl ?_
      repeat' first
        | refine awp_seq ?_
        | refine awp_block ?_
        | refine awp_skip ?_
        | (refine reg _ (by (simp only [List.map_cons, List.map_nil]; rfl)) rfl ?_; intro K hK)
        | (refine awp_cond _ (by rfl) ?_ ?_ <;> (intro hb; first | (cases hb; done) | (have ht : true = true := hb; clear ht hb) | (have ht : false = false := hb; clear ht hb) | (simp only [hb]) | skip))
        | (refine awp_exit ?_; simp only [thenA, blockA, reduceIte, RetQ, Nat.reduceEqDiff])
        | (refine awp_ret ?_; simp only [thenA, blockA, RetQ])
        | (refine ev_nil (hK _ ?_); clear hK K)
        | refine ev_guardU _ (by (simp only [go_sem]; rfl)) (by (simp only [go_sem]; rfl)) _ (by (simp only [go_sem]; rfl)) ?_
        | (refine ev_guardT _ _ (by (simp only [go_sem]; rfl)) (by (simp only [go_sem]; rfl)) ?_ ?_ <;> (intro hb; first | (cases hb; done) | (have ht : true = true := hb; clear ht hb) | (have ht : false = false := hb; clear ht hb) | (simp only [hb]) | skip))
        | (refine ev_guardF _ _ (by (simp only [go_sem]; rfl)) (by (simp only [go_sem]; rfl)) ?_ ?_ <;> (intro hb; first | (cases hb; done) | (have ht : true = true := hb; clear ht hb) | (have ht : false = false := hb; clear ht hb) | (simp only [hb]) | skip))
        | refine ev_step0 _ _ (by (simp only [go_sem]; rfl)) (by (first | trivial | decide | (simp only [inB, sliceOk, appendOk, rowsOk]; omega) | (simp [inB, sliceOk, appendOk, rowsOk]; omega))) _ (by (simp only [go_sem]; rfl)) ?_
        | (refine ev_step _ (by (simp only [go_sem]; rfl)) (by (first | trivial | decide | (simp only [inB, sliceOk, appendOk, rowsOk]; omega) | (simp [inB, sliceOk, appendOk, rowsOk]; omega))) _ (fun g u => by (simp only [go_sem]; rfl)) ?_; intro g u; (try clear u); (try clear g))
        | fail
      refine ev_nil ?_
      refine ⟨rfl, fun act2 B hB => ?_⟩
      obtain ⟨R, hR1, hR2⟩ := uni_next (g := g) hst (fun pre O A hJ b hb => ⟨(hO pre O A hJ b hb).1, (hO pre O A hJ b hb).2.1⟩) hy hxs hf2 hJ hdis hB
      refine ⟨R, hR1, fun e w' he => ?_⟩
      obtain ⟨v, ⟨P', w1, C1, M1, rd1, df1⟩, rfl, hP, hrd, hdf, hs', hfin⟩ := hR2 e w' he
      simp only at hP hrd hdf
      subst hP; subst hrd; subst hdf
      refine ⟨v, ⟨_, w1, C1, M1, none, []⟩, uniV l ga gb a2 b2, rfl, rfl, rfl, hs', ?_⟩
      repeat' first
        | refine awp_seq ?_
        | refine awp_block ?_
        | refine awp_skip ?_
        | (refine reg _ (by (simp only [List.map_cons, List.map_nil]; rfl)) rfl ?_; intro K hK)
        | (refine awp_cond _ (by rfl) ?_ ?_ <;> (intro hb; first | (cases hb; done) | (have ht : true = true := hb; clear ht hb) | (have ht : false = false := hb; clear ht hb) | (simp only [hb]) | skip))
        | (refine awp_exit ?_; simp only [thenA, blockA, reduceIte, RetQ, Nat.reduceEqDiff])
        | (refine awp_ret ?_; simp only [thenA, blockA, RetQ])
        | (refine ev_nil (hK _ ?_); clear hK K)
        | refine ev_guardU _ (by (simp only [go_sem]; rfl)) (by (simp only [go_sem]; rfl)) _ (by (simp only [go_sem]; rfl)) ?_
        | (refine ev_guardT _ _ (by (simp only [go_sem]; rfl)) (by (simp only [go_sem]; rfl)) ?_ ?_ <;> (intro hb; first | (cases hb; done) | (have ht : true = true := hb; clear ht hb) | (have ht : false = false := hb; clear ht hb) | (simp only [hb]) | skip))
        | (refine ev_guardF _ _ (by (simp only [go_sem]; rfl)) (by (simp only [go_sem]; rfl)) ?_ ?_ <;> (intro hb; first | (cases hb; done) | (have ht : true = true := hb; clear ht hb) | (have ht : false = false := hb; clear ht hb) | (simp only [hb]) | skip))
        | refine ev_step0 _ _ (by (simp only [go_sem]; rfl)) (by (first | trivial | decide | (simp only [inB, sliceOk, appendOk, rowsOk]; omega) | (simp [inB, sliceOk, appendOk, rowsOk]; omega))) _ (by (simp only [go_sem]; rfl)) ?_
        | (refine ev_step _ (by (simp only [go_sem]; rfl)) (by (first | trivial | decide | (simp only [inB, sliceOk, appendOk, rowsOk]; omega) | (simp [inB, sliceOk, appendOk, rowsOk]; omega))) _ (fun g u => by (simp only [go_sem]; rfl)) ?_; intro g u; (try clear u); (try clear g))
        | fail
      refine ev_nil ?_
      refine awq_of (Q := fun e s => e = .normal ∧ Wk ⟨Try.prog, w1, C1, M1, none, []⟩ s (uniS l ga gb a2 b2)) ?_ ?_
      · repeat' first
          | refine awp_seq ?_
          | refine awp_block ?_
          | refine awp_skip ?_
          | (refine reg _ (by (simp only [List.map_cons, List.map_nil]; rfl)) rfl ?_; intro K hK)
          | (refine awp_cond _ (by rfl) ?_ ?_ <;> (intro hb; first | (cases hb; done) | (have ht : true = true := hb; clear ht hb) | (have ht : false = false := hb; clear ht hb) | (simp only [hb]) | skip))
          | (refine awp_exit ?_; simp only [thenA, blockA, reduceIte, RetQ, Nat.reduceEqDiff])
          | (refine awp_ret ?_; simp only [thenA, blockA, RetQ])
          | (refine ev_nil (hK _ ?_); clear hK K)
          | refine ev_guardU _ (by (simp only [go_sem]; rfl)) (by (simp only [go_sem]; rfl)) _ (by (simp only [go_sem]; rfl)) ?_
          | (refine ev_guardT _ _ (by (simp only [go_sem]; rfl)) (by (simp only [go_sem]; rfl)) ?_ ?_ <;> (intro hb; first | (cases hb; done) | (have ht : true = true := hb; clear ht hb) | (have ht : false = false := hb; clear ht hb) | (simp only [hb]) | skip))
          | (refine ev_guardF _ _ (by (simp only [go_sem]; rfl)) (by (simp only [go_sem]; rfl)) ?_ ?_ <;> (intro hb; first | (cases hb; done) | (have ht : true = true := hb; clear ht hb) | (have ht : false = false := hb; clear ht hb) | (simp only [hb]) | skip))
          | refine ev_step0 _ _ (by (simp only [go_sem]; rfl)) (by (first | trivial | decide | (simp only [inB, sliceOk, appendOk, rowsOk]; omega) | (simp [inB, sliceOk, appendOk, rowsOk]; omega))) _ (by (simp only [go_sem]; rfl)) ?_
          | (refine ev_step _ (by (simp only [go_sem]; rfl)) (by (first | trivial | decide | (simp only [inB, sliceOk, appendOk, rowsOk]; omega) | (simp [inB, sliceOk, appendOk, rowsOk]; omega))) _ (fun g u => by (simp only [go_sem]; rfl)) ?_; intro g u; (try clear u); (try clear g))
          | fail
        refine ⟨rfl, ?_⟩
        refine Wk.mk ?_ ?_
        all_goals (repeat' first | exact trivial | exact LeA.refl _ | exact LeA.any _ | exact LeO.refl _ | exact LeO.no _ | exact LeA.nil _ | (refine LeA.i ?_; (first | rfl | (push_cast; rfl) | (rw [wrap_id (by omega)]; push_cast; omega) | (simp [wrap_id]; omega))) | refine ⟨?_, ?_⟩)
      · rintro e s a w ⟨rfl, hw⟩ hs
        exact hfin s a w hs hw
  | cons x r =>
    have h1 : decide (((r.length + 1 : Nat) : Int) > 0) = true := by simp
    have h2 : (((r.length + 1 : Nat) : Int) == 0) = false := by simp; omega
    cases b' with
    | nil =>
      have hf := uni_fact (x :: r) [] rfl
      have e1 : offHd x (x :: r) = r := by simp [offHd, nmEq]
      simp only [uniHd, e1] at hf
      simp only [offHd] at hf
      repeat' first
        | ((fail_if_success show AWq _ (Code.seq (Code.region 9 _ _) _) _ _); refine awq_seq ?_)
        | refine awq_block ?_
        | refine awp_seq ?_
        | refine awp_block ?_
        | refine awp_skip ?_
        | (refine reg _ (by (simp only [List.map_cons, List.map_nil]; rfl)) rfl ?_; intro K hK)
        | (refine awp_cond _ (by rfl) ?_ ?_ <;> (intro hb; first | (cases hb; done) | (have ht : true = true := hb; clear ht hb) | (have ht : false = false := hb; clear ht hb) | (simp only [hb]) | skip))
        | (refine awp_exit ?_; simp only [thenA, blockA, reduceIte, RetQ, Nat.reduceEqDiff])
        | (refine awp_ret ?_; simp only [thenA, blockA, RetQ])
        | (refine ev_nil (hK _ ?_); clear hK K)
        | refine ev_guardU _ (by (simp only [go_sem, h1, h2, z0, z1, beq_self_eq_true, List.take_length]; rfl)) (by (simp only [go_sem, h1, h2, z0, z1, beq_self_eq_true, List.take_length]; rfl)) _ (by (simp only [go_sem, h1, h2, z0, z1, beq_self_eq_true, List.take_length]; rfl)) ?_
        | (refine ev_guardT _ _ (by (simp only [go_sem, h1, h2, z0, z1, beq_self_eq_true, List.take_length]; rfl)) (by (simp only [go_sem, h1, h2, z0, z1, beq_self_eq_true, List.take_length]; rfl)) ?_ ?_ <;> (intro hb; first | (cases hb; done) | (have ht : true = true := hb; clear ht hb) | (have ht : false = false := hb; clear ht hb) | (simp only [hb]) | skip))
        | (refine ev_guardF _ _ (by (simp only [go_sem, h1, h2, z0, z1, beq_self_eq_true, List.take_length]; rfl)) (by (simp only [go_sem, h1, h2, z0, z1, beq_self_eq_true, List.take_length]; rfl)) ?_ ?_ <;> (intro hb; first | (cases hb; done) | (have ht : true = true := hb; clear ht hb) | (have ht : false = false := hb; clear ht hb) | (simp only [hb]) | skip))
        | refine ev_call0 _ _ (by (simp only [go_sem, h1, h2, z0, z1, beq_self_eq_true, List.take_length]; rfl)) (by first | exact f47_spec ..) (by (simp only [go_sem, h1, h2, z0, z1, beq_self_eq_true, List.take_length])) _ (by (simp only [go_sem, h1, h2, z0, z1, beq_self_eq_true, List.take_length]; rfl)) ?_
        | refine ev_callC _ _ _ _ (by (simp only [go_sem, h1, h2, z0, z1, beq_self_eq_true, List.take_length]; rfl)) (by (simp only [go_sem, h1, h2, z0, z1, beq_self_eq_true, List.take_length]; rfl)) (by first | exact f47_spec ..) (by (simp only [go_sem, h1, h2, z0, z1, beq_self_eq_true, List.take_length])) _ (by (simp only [go_sem, h1, h2, z0, z1, beq_self_eq_true, List.take_length]; rfl)) ?_
        | (apply regD; (case hd => (simp only [List.map_cons, List.map_nil]; rfl)); (case hok => rfl); (case' h => (intro K hK; (repeat' first
        | (apply evd_nil; refine (hK _ ?_); clear hK K)
        | (apply evd_guardU0; (case hj => (simp only [go_sem, h1, h2, z0, z1, beq_self_eq_true, List.take_length]; try rfl)); (case hu => (simp only [go_sem, h1, h2, z0, z1, beq_self_eq_true, List.take_length])); (case hσ => (simp only [go_sem, h1, h2, z0, z1, beq_self_eq_true, List.take_length]; try rfl)))
        | (apply evd_skipT0; (case hj => (simp only [go_sem, h1, h2, z0, z1, beq_self_eq_true, List.take_length]; try rfl)); (case hb => (simp only [go_sem, h1, h2, z0, z1, beq_self_eq_true, List.take_length]; try rfl)); (case hσ => (simp only [go_sem, h1, h2, z0, z1, beq_self_eq_true, List.take_length]; try rfl)))
        | (apply evd_skipF0; (case hj => (simp only [go_sem, h1, h2, z0, z1, beq_self_eq_true, List.take_length]; try rfl)); (case hb => (simp only [go_sem, h1, h2, z0, z1, beq_self_eq_true, List.take_length]; try rfl)); (case hσ => (simp only [go_sem, h1, h2, z0, z1, beq_self_eq_true, List.take_length]; try rfl)))
        | (apply evd_guardU; (case hj => (simp only [go_sem, h1, h2, z0, z1, beq_self_eq_true, List.take_length]; try rfl)); (case hu => (simp only [go_sem, h1, h2, z0, z1, beq_self_eq_true, List.take_length])); (case hσ => (simp only [go_sem, h1, h2, z0, z1, beq_self_eq_true, List.take_length]; try rfl)))
        | (apply evd_skipT; (case hj => (simp only [go_sem, h1, h2, z0, z1, beq_self_eq_true, List.take_length]; try rfl)); (case hb => (simp only [go_sem, h1, h2, z0, z1, beq_self_eq_true, List.take_length]; try rfl)); (case hσ => (simp only [go_sem, h1, h2, z0, z1, beq_self_eq_true, List.take_length]; try rfl)))
        | (apply evd_skipF; (case hj => (simp only [go_sem, h1, h2, z0, z1, beq_self_eq_true, List.take_length]; try rfl)); (case hb => (simp only [go_sem, h1, h2, z0, z1, beq_self_eq_true, List.take_length]; try rfl)); (case hσ => (simp only [go_sem, h1, h2, z0, z1, beq_self_eq_true, List.take_length]; try rfl)))
        | (apply evd_guardT; (case hj => (simp only [go_sem, h1, h2, z0, z1, beq_self_eq_true, List.take_length]; try rfl)); (case hb => (simp only [go_sem, h1, h2, z0, z1, beq_self_eq_true, List.take_length]; try rfl)); (case' h2 => (intro hb; first | (cases hb; done) | (simp only [hb]) | skip)); (case' h1 => (intro hb; first | (cases hb; done) | (simp only [hb]) | skip)))
        | (apply evd_guardF; (case hj => (simp only [go_sem, h1, h2, z0, z1, beq_self_eq_true, List.take_length]; try rfl)); (case hb => (simp only [go_sem, h1, h2, z0, z1, beq_self_eq_true, List.take_length]; try rfl)); (case' h2 => (intro hb; first | (cases hb; done) | (simp only [hb]) | skip)); (case' h1 => (intro hb; first | (cases hb; done) | (simp only [hb]) | skip)))
        | (apply evd_call0; (case hi => (simp only [go_sem, h1, h2, z0, z1, beq_self_eq_true, List.take_length]; try rfl)); (case hys => (simp only [go_sem, h1, h2, z0, z1, beq_self_eq_true, List.take_length]; try rfl)); (case hs => first | exact f47_spec ..); (case hok => (simp only [go_sem, h1, h2, z0, z1, beq_self_eq_true, List.take_length])); (case hw => (simp only [go_sem, h1, h2, z0, z1, beq_self_eq_true, List.take_length]; try rfl)); (case hσ => (simp only [go_sem, h1, h2, z0, z1, beq_self_eq_true, List.take_length]; try rfl)))
        | (apply evd_callC; (case hf => (simp only [go_sem, h1, h2, z0, z1, beq_self_eq_true, List.take_length]; try rfl)); (case hi => (simp only [go_sem, h1, h2, z0, z1, beq_self_eq_true, List.take_length]; try rfl)); (case hys => (simp only [go_sem, h1, h2, z0, z1, beq_self_eq_true, List.take_length]; try rfl)); (case hs => first | exact f47_spec ..); (case hok => (simp only [go_sem, h1, h2, z0, z1, beq_self_eq_true, List.take_length])); (case hw => (simp only [go_sem, h1, h2, z0, z1, beq_self_eq_true, List.take_length]; try rfl)); (case hσ => (simp only [go_sem, h1, h2, z0, z1, beq_self_eq_true, List.take_length]; try rfl)))
        | (apply evd_step0; (case hr => (simp only [go_sem, h1, h2, z0, z1, beq_self_eq_true, List.take_length]; try rfl)); (case hi => (simp only [go_sem, h1, h2, z0, z1, beq_self_eq_true, List.take_length]; try rfl)); (case hc => (first | trivial | decide | (simp only [inB, sliceOk, appendOk, rowsOk]; omega) | (simp [inB, sliceOk, appendOk, rowsOk]; omega))); (case hσ => (simp only [go_sem, h1, h2, z0, z1, beq_self_eq_true, List.take_length]; try rfl)))
        | (apply evd_step; (case hr => (simp only [go_sem, h1, h2, z0, z1, beq_self_eq_true, List.take_length]; try rfl)); (case hi => (simp only [go_sem, h1, h2, z0, z1, beq_self_eq_true, List.take_length]; try rfl)); (case hc => (first | trivial | decide | (simp only [inB, sliceOk, appendOk, rowsOk]; omega) | (simp [inB, sliceOk, appendOk, rowsOk]; omega))); (case hw => (intro g u; simp only [go_sem, h1, h2, z0, z1, beq_self_eq_true, List.take_length]; try rfl)); (case hσ => (intro g u; simp only [go_sem, h1, h2, z0, z1, beq_self_eq_true, List.take_length]; try rfl)); (case' hk => (intro g u; (try clear u); (try clear g))))
        | fail))); (case hB => kernel_rfl))
        | refine ev_step0 _ _ (by (simp only [go_sem, h1, h2, z0, z1, beq_self_eq_true, List.take_length]; rfl)) (by (first | trivial | decide | (simp only [inB, sliceOk, appendOk, rowsOk]; omega) | (simp [inB, sliceOk, appendOk, rowsOk]; omega))) _ (by (simp only [go_sem, h1, h2, z0, z1, beq_self_eq_true, List.take_length]; rfl)) ?_
        | (refine ev_step _ (by (simp only [go_sem, h1, h2, z0, z1, beq_self_eq_true, List.take_length]; rfl)) (by (first | trivial | decide | (simp only [inB, sliceOk, appendOk, rowsOk]; omega) | (simp [inB, sliceOk, appendOk, rowsOk]; omega))) _ (fun g u => by (simp only [go_sem, h1, h2, z0, z1, beq_self_eq_true, List.take_length]; rfl)) ?_; intro g u; (try clear u); (try clear g))
        | fail
      refine uni_mid l ga gb _ _ _ rfl hf ?_ ?_
      · refine Wk.mk ?_ ?_
        all_goals (repeat' first | exact trivial | exact LeA.refl _ | exact LeA.any _ | exact LeO.refl _ | exact LeO.no _ | exact LeA.nil _ | (refine LeA.i ?_; (first | rfl | (push_cast; rfl) | (rw [wrap_id (by omega)]; push_cast; omega) | (simp [wrap_id]; omega))) | refine ⟨?_, ?_⟩)
      intro g n a2 b2 hf2
      refine awq_yield (E := ⟨Try.prog, A, C', two ga gb, none, []⟩) T_ok (ly := l) (pre := [_, _]) (post := [_]) rfl rfl rfl ?_
      repeat' first
        | refine awp_seq ?_
        | refine awp_block ?_
        | refine awp_skip ?_
        | (refine reg _ (by (simp only [List.map_cons, List.map_nil]; rfl)) rfl ?_; intro K hK)
        | (refine awp_cond _ (by rfl) ?_ ?_ <;> (intro hb; first | (cases hb; done) | (have ht : true = true := hb; clear ht hb) | (have ht : false = false := hb; clear ht hb) | (simp only [hb]) | skip))
        | (refine awp_exit ?_; simp only [thenA, blockA, reduceIte, RetQ, Nat.reduceEqDiff])
        | (refine awp_ret ?_; simp only [thenA, blockA, RetQ])
        | (refine ev_nil (hK _ ?_); clear hK K)
        | refine ev_guardU _ (by (simp only [go_sem]; rfl)) (by (simp only [go_sem]; rfl)) _ (by (simp only [go_sem]; rfl)) ?_
        | (refine ev_guardT _ _ (by (simp only [go_sem]; rfl)) (by (simp only [go_sem]; rfl)) ?_ ?_ <;> (intro hb; first | (cases hb; done) | (have ht : true = true := hb; clear ht hb) | (have ht : false = false := hb; clear ht hb) | (simp only [hb]) | skip))
        | (refine ev_guardF _ _ (by (simp only [go_sem]; rfl)) (by (simp only [go_sem]; rfl)) ?_ ?_ <;> (intro hb; first | (cases hb; done) | (have ht : true = true := hb; clear ht hb) | (have ht : false = false := hb; clear ht hb) | (simp only [hb]) | skip))
        | refine ev_step0 _ _ (by (simp only [go_sem]; rfl)) (by (first | trivial | decide | (simp only [inB, sliceOk, appendOk, rowsOk]; omega) | (simp [inB, sliceOk, appendOk, rowsOk]; omega))) _ (by (simp only [go_sem]; rfl)) ?_
        | (refine ev_step _ (by (simp only [go_sem]; rfl)) (by (first | trivial | decide | (simp only [inB, sliceOk, appendOk, rowsOk]; omega) | (simp [inB, sliceOk, appendOk, rowsOk]; omega))) _ (fun g u => by (simp only [go_sem]; rfl)) ?_; intro g u; (try clear u); (try clear g))
        | fail
      refine ev_nil ?_
      refine ⟨rfl, fun act2 B hB => ?_⟩
      obtain ⟨R, hR1, hR2⟩ := uni_next (g := g) hst (fun pre O A hJ b hb => ⟨(hO pre O A hJ b hb).1, (hO pre O A hJ b hb).2.1⟩) hy hxs hf2 hJ hdis hB
      refine ⟨R, hR1, fun e w' he => ?_⟩
      obtain ⟨v, ⟨P', w1, C1, M1, rd1, df1⟩, rfl, hP, hrd, hdf, hs', hfin⟩ := hR2 e w' he
      simp only at hP hrd hdf
      subst hP; subst hrd; subst hdf
      refine ⟨v, ⟨_, w1, C1, M1, none, []⟩, uniV l ga gb a2 b2, rfl, rfl, rfl, hs', ?_⟩
      repeat' first
        | refine awp_seq ?_
        | refine awp_block ?_
        | refine awp_skip ?_
        | (refine reg _ (by (simp only [List.map_cons, List.map_nil]; rfl)) rfl ?_; intro K hK)
        | (refine awp_cond _ (by rfl) ?_ ?_ <;> (intro hb; first | (cases hb; done) | (have ht : true = true := hb; clear ht hb) | (have ht : false = false := hb; clear ht hb) | (simp only [hb]) | skip))
        | (refine awp_exit ?_; simp only [thenA, blockA, reduceIte, RetQ, Nat.reduceEqDiff])
        | (refine awp_ret ?_; simp only [thenA, blockA, RetQ])
        | (refine ev_nil (hK _ ?_); clear hK K)
        | refine ev_guardU _ (by (simp only [go_sem]; rfl)) (by (simp only [go_sem]; rfl)) _ (by (simp only [go_sem]; rfl)) ?_
        | (refine ev_guardT _ _ (by (simp only [go_sem]; rfl)) (by (simp only [go_sem]; rfl)) ?_ ?_ <;> (intro hb; first | (cases hb; done) | (have ht : true = true := hb; clear ht hb) | (have ht : false = false := hb; clear ht hb) | (simp only [hb]) | skip))
        | (refine ev_guardF _ _ (by (simp only [go_sem]; rfl)) (by (simp only [go_sem]; rfl)) ?_ ?_ <;> (intro hb; first | (cases hb; done) | (have ht : true = true := hb; clear ht hb) | (have ht : false = false := hb; clear ht hb) | (simp only [hb]) | skip))
        | refine ev_step0 _ _ (by (simp only [go_sem]; rfl)) (by (first | trivial | decide | (simp only [inB, sliceOk, appendOk, rowsOk]; omega) | (simp [inB, sliceOk, appendOk, rowsOk]; omega))) _ (by (simp only [go_sem]; rfl)) ?_
        | (refine ev_step _ (by (simp only [go_sem]; rfl)) (by (first | trivial | decide | (simp only [inB, sliceOk, appendOk, rowsOk]; omega) | (simp [inB, sliceOk, appendOk, rowsOk]; omega))) _ (fun g u => by (simp only [go_sem]; rfl)) ?_; intro g u; (try clear u); (try clear g))
        | fail
      refine ev_nil ?_
      refine awq_of (Q := fun e s => e = .normal ∧ Wk ⟨Try.prog, w1, C1, M1, none, []⟩ s (uniS l ga gb a2 b2)) ?_ ?_
      · repeat' first
          | refine awp_seq ?_
          | refine awp_block ?_
          | refine awp_skip ?_
          | (refine reg _ (by (simp only [List.map_cons, List.map_nil]; rfl)) rfl ?_; intro K hK)
          | (refine awp_cond _ (by rfl) ?_ ?_ <;> (intro hb; first | (cases hb; done) | (have ht : true = true := hb; clear ht hb) | (have ht : false = false := hb; clear ht hb) | (simp only [hb]) | skip))
          | (refine awp_exit ?_; simp only [thenA, blockA, reduceIte, RetQ, Nat.reduceEqDiff])
          | (refine awp_ret ?_; simp only [thenA, blockA, RetQ])
          | (refine ev_nil (hK _ ?_); clear hK K)
          | refine ev_guardU _ (by (simp only [go_sem]; rfl)) (by (simp only [go_sem]; rfl)) _ (by (simp only [go_sem]; rfl)) ?_
          | (refine ev_guardT _ _ (by (simp only [go_sem]; rfl)) (by (simp only [go_sem]; rfl)) ?_ ?_ <;> (intro hb; first | (cases hb; done) | (have ht : true = true := hb; clear ht hb) | (have ht : false = false := hb; clear ht hb) | (simp only [hb]) | skip))
          | (refine ev_guardF _ _ (by (simp only [go_sem]; rfl)) (by (simp only [go_sem]; rfl)) ?_ ?_ <;> (intro hb; first | (cases hb; done) | (have ht : true = true := hb; clear ht hb) | (have ht : false = false := hb; clear ht hb) | (simp only [hb]) | skip))
          | refine ev_step0 _ _ (by (simp only [go_sem]; rfl)) (by (first | trivial | decide | (simp only [inB, sliceOk, appendOk, rowsOk]; omega) | (simp [inB, sliceOk, appendOk, rowsOk]; omega))) _ (by (simp only [go_sem]; rfl)) ?_
          | (refine ev_step _ (by (simp only [go_sem]; rfl)) (by (first | trivial | decide | (simp only [inB, sliceOk, appendOk, rowsOk]; omega) | (simp [inB, sliceOk, appendOk, rowsOk]; omega))) _ (fun g u => by (simp only [go_sem]; rfl)) ?_; intro g u; (try clear u); (try clear g))
          | fail
        refine ⟨rfl, ?_⟩
        refine Wk.mk ?_ ?_
        all_goals (repeat' first | exact trivial | exact LeA.refl _ | exact LeA.any _ | exact LeO.refl _ | exact LeO.no _ | exact LeA.nil _ | (refine LeA.i ?_; (first | rfl | (push_cast; rfl) | (rw [wrap_id (by omega)]; push_cast; omega) | (simp [wrap_id]; omega))) | refine ⟨?_, ?_⟩)
      · rintro e s a w ⟨rfl, hw⟩ hs
        exact hfin s a w hs hw
    | cons y s =>
      have h3 : decide (((s.length + 1 : Nat) : Int) > 0) = true := by simp
      have h4 : (((s.length + 1 : Nat) : Int) == 0) = false := by simp; omega
      have hf := uni_fact (x :: r) (y :: s) rfl
      by_cases hc : cmpN x.1 x.2 y.1 y.2 ≤ 0
      · have h5 : decide (cmpN x.1 x.2 y.1 y.2 ≤ 0) = true := by simpa using hc
        have e1 : offHd x (x :: r) = r := by simp [offHd, nmEq]
        simp only [uniHd, if_pos hc, e1] at hf
        cases hq : nmEq y x with
        | true =>
          have e2 : offHd x (y :: s) = s := by simp [offHd, hq]
          rw [e2] at hf
          simp only [nmEq, Bool.and_true] at hq
          repeat' first
            | ((fail_if_success show AWq _ (Code.seq (Code.region 9 _ _) _) _ _); refine awq_seq ?_)
            | refine awq_block ?_
            | refine awp_seq ?_
            | refine awp_block ?_
            | refine awp_skip ?_
            | (refine reg _ (by (simp only [List.map_cons, List.map_nil]; rfl)) rfl ?_; intro K hK)
            | (refine awp_cond _ (by rfl) ?_ ?_ <;> (intro hb; first | (cases hb; done) | (have ht : true = true := hb; clear ht hb) | (have ht : false = false := hb; clear ht hb) | (simp only [hb]) | skip))
            | (refine awp_exit ?_; simp only [thenA, blockA, reduceIte, RetQ, Nat.reduceEqDiff])
            | (refine awp_ret ?_; simp only [thenA, blockA, RetQ])
            | (refine ev_nil (hK _ ?_); clear hK K)
            | refine ev_guardU _ (by (simp only [go_sem, h1, h2, h3, h4, h5, hq, beq_self_eq_true, List.take_length]; rfl)) (by (simp only [go_sem, h1, h2, h3, h4, h5, hq, beq_self_eq_true, List.take_length]; rfl)) _ (by (simp only [go_sem, h1, h2, h3, h4, h5, hq, beq_self_eq_true, List.take_length]; rfl)) ?_
            | (refine ev_guardT _ _ (by (simp only [go_sem, h1, h2, h3, h4, h5, hq, beq_self_eq_true, List.take_length]; rfl)) (by (simp only [go_sem, h1, h2, h3, h4, h5, hq, beq_self_eq_true, List.take_length]; rfl)) ?_ ?_ <;> (intro hb; first | (cases hb; done) | (have ht : true = true := hb; clear ht hb) | (have ht : false = false := hb; clear ht hb) | (simp only [hb]) | skip))
            | (refine ev_guardF _ _ (by (simp only [go_sem, h1, h2, h3, h4, h5, hq, beq_self_eq_true, List.take_length]; rfl)) (by (simp only [go_sem, h1, h2, h3, h4, h5, hq, beq_self_eq_true, List.take_length]; rfl)) ?_ ?_ <;> (intro hb; first | (cases hb; done) | (have ht : true = true := hb; clear ht hb) | (have ht : false = false := hb; clear ht hb) | (simp only [hb]) | skip))
            | refine ev_call0 _ _ (by (simp only [go_sem, h1, h2, h3, h4, h5, hq, beq_self_eq_true, List.take_length]; rfl)) (by first | exact f47_spec ..) (by (simp only [go_sem, h1, h2, h3, h4, h5, hq, beq_self_eq_true, List.take_length])) _ (by (simp only [go_sem, h1, h2, h3, h4, h5, hq, beq_self_eq_true, List.take_length]; rfl)) ?_
            | refine ev_callC _ _ _ _ (by (simp only [go_sem, h1, h2, h3, h4, h5, hq, beq_self_eq_true, List.take_length]; rfl)) (by (simp only [go_sem, h1, h2, h3, h4, h5, hq, beq_self_eq_true, List.take_length]; rfl)) (by first | exact f47_spec ..) (by (simp only [go_sem, h1, h2, h3, h4, h5, hq, beq_self_eq_true, List.take_length])) _ (by (simp only [go_sem, h1, h2, h3, h4, h5, hq, beq_self_eq_true, List.take_length]; rfl)) ?_
            | (apply regD; (case hd => (simp only [List.map_cons, List.map_nil]; rfl)); (case hok => rfl); (case' h => (intro K hK; (repeat' first
        | (apply evd_nil; refine (hK _ ?_); clear hK K)
        | (apply evd_guardU0; (case hj => (simp only [go_sem, h1, h2, h3, h4, h5, hq, beq_self_eq_true, List.take_length]; try rfl)); (case hu => (simp only [go_sem, h1, h2, h3, h4, h5, hq, beq_self_eq_true, List.take_length])); (case hσ => (simp only [go_sem, h1, h2, h3, h4, h5, hq, beq_self_eq_true, List.take_length]; try rfl)))
        | (apply evd_skipT0; (case hj => (simp only [go_sem, h1, h2, h3, h4, h5, hq, beq_self_eq_true, List.take_length]; try rfl)); (case hb => (simp only [go_sem, h1, h2, h3, h4, h5, hq, beq_self_eq_true, List.take_length]; try rfl)); (case hσ => (simp only [go_sem, h1, h2, h3, h4, h5, hq, beq_self_eq_true, List.take_length]; try rfl)))
        | (apply evd_skipF0; (case hj => (simp only [go_sem, h1, h2, h3, h4, h5, hq, beq_self_eq_true, List.take_length]; try rfl)); (case hb => (simp only [go_sem, h1, h2, h3, h4, h5, hq, beq_self_eq_true, List.take_length]; try rfl)); (case hσ => (simp only [go_sem, h1, h2, h3, h4, h5, hq, beq_self_eq_true, List.take_length]; try rfl)))
        | (apply evd_guardU; (case hj => (simp only [go_sem, h1, h2, h3, h4, h5, hq, beq_self_eq_true, List.take_length]; try rfl)); (case hu => (simp only [go_sem, h1, h2, h3, h4, h5, hq, beq_self_eq_true, List.take_length])); (case hσ => (simp only [go_sem, h1, h2, h3, h4, h5, hq, beq_self_eq_true, List.take_length]; try rfl)))
        | (apply evd_skipT; (case hj => (simp only [go_sem, h1, h2, h3, h4, h5, hq, beq_self_eq_true, List.take_length]; try rfl)); (case hb => (simp only [go_sem, h1, h2, h3, h4, h5, hq, beq_self_eq_true, List.take_length]; try rfl)); (case hσ => (simp only [go_sem, h1, h2, h3, h4, h5, hq, beq_self_eq_true, List.take_length]; try rfl)))
        | (apply evd_skipF; (case hj => (simp only [go_sem, h1, h2, h3, h4, h5, hq, beq_self_eq_true, List.take_length]; try rfl)); (case hb => (simp only [go_sem, h1, h2, h3, h4, h5, hq, beq_self_eq_true, List.take_length]; try rfl)); (case hσ => (simp only [go_sem, h1, h2, h3, h4, h5, hq, beq_self_eq_true, List.take_length]; try rfl)))
        | (apply evd_guardT; (case hj => (simp only [go_sem, h1, h2, h3, h4, h5, hq, beq_self_eq_true, List.take_length]; try rfl)); (case hb => (simp only [go_sem, h1, h2, h3, h4, h5, hq, beq_self_eq_true, List.take_length]; try rfl)); (case' h2 => (intro hb; first | (cases hb; done) | (simp only [hb]) | skip)); (case' h1 => (intro hb; first | (cases hb; done) | (simp only [hb]) | skip)))
        | (apply evd_guardF; (case hj => (simp only [go_sem, h1, h2, h3, h4, h5, hq, beq_self_eq_true, List.take_length]; try rfl)); (case hb => (simp only [go_sem, h1, h2, h3, h4, h5, hq, beq_self_eq_true, List.take_length]; try rfl)); (case' h2 => (intro hb; first | (cases hb; done) | (simp only [hb]) | skip)); (case' h1 => (intro hb; first | (cases hb; done) | (simp only [hb]) | skip)))
        | (apply evd_call0; (case hi => (simp only [go_sem, h1, h2, h3, h4, h5, hq, beq_self_eq_true, List.take_length]; try rfl)); (case hys => (simp only [go_sem, h1, h2, h3, h4, h5, hq, beq_self_eq_true, List.take_length]; try rfl)); (case hs => first | exact f47_spec ..); (case hok => (simp only [go_sem, h1, h2, h3, h4, h5, hq, beq_self_eq_true, List.take_length])); (case hw => (simp only [go_sem, h1, h2, h3, h4, h5, hq, beq_self_eq_true, List.take_length]; try rfl)); (case hσ => (simp only [go_sem, h1, h2, h3, h4, h5, hq, beq_self_eq_true, List.take_length]; try rfl)))
        | (apply evd_callC; (case hf => (simp only [go_sem, h1, h2, h3, h4, h5, hq, beq_self_eq_true, List.take_length]; try rfl)); (case hi => (simp only [go_sem, h1, h2, h3, h4, h5, hq, beq_self_eq_true, List.take_length]; try rfl)); (case hys => (simp only [go_sem, h1, h2, h3, h4, h5, hq, beq_self_eq_true, List.take_length]; try rfl)); (case hs => first | exact f47_spec ..); (case hok => (simp only [go_sem, h1, h2, h3, h4, h5, hq, beq_self_eq_true, List.take_length])); (case hw => (simp only [go_sem, h1, h2, h3, h4, h5, hq, beq_self_eq_true, List.take_length]; try rfl)); (case hσ => (simp only [go_sem, h1, h2, h3, h4, h5, hq, beq_self_eq_true, List.take_length]; try rfl)))
        | (apply evd_step0; (case hr => (simp only [go_sem, h1, h2, h3, h4, h5, hq, beq_self_eq_true, List.take_length]; try rfl)); (case hi => (simp only [go_sem, h1, h2, h3, h4, h5, hq, beq_self_eq_true, List.take_length]; try rfl)); (case hc => (first | trivial | decide | (simp only [inB, sliceOk, appendOk, rowsOk]; omega) | (simp [inB, sliceOk, appendOk, rowsOk]; omega))); (case hσ => (simp only [go_sem, h1, h2, h3, h4, h5, hq, beq_self_eq_true, List.take_length]; try rfl)))
        | (apply evd_step; (case hr => (simp only [go_sem, h1, h2, h3, h4, h5, hq, beq_self_eq_true, List.take_length]; try rfl)); (case hi => (simp only [go_sem, h1, h2, h3, h4, h5, hq, beq_self_eq_true, List.take_length]; try rfl)); (case hc => (first | trivial | decide | (simp only [inB, sliceOk, appendOk, rowsOk]; omega) | (simp [inB, sliceOk, appendOk, rowsOk]; omega))); (case hw => (intro g u; simp only [go_sem, h1, h2, h3, h4, h5, hq, beq_self_eq_true, List.take_length]; try rfl)); (case hσ => (intro g u; simp only [go_sem, h1, h2, h3, h4, h5, hq, beq_self_eq_true, List.take_length]; try rfl)); (case' hk => (intro g u; (try clear u); (try clear g))))
        | fail))); (case hB => kernel_rfl))
            | refine ev_step0 _ _ (by (simp only [go_sem, h1, h2, h3, h4, h5, hq, beq_self_eq_true, List.take_length]; rfl)) (by (first | trivial | decide | (simp only [inB, sliceOk, appendOk, rowsOk]; omega) | (simp [inB, sliceOk, appendOk, rowsOk]; omega))) _ (by (simp only [go_sem, h1, h2, h3, h4, h5, hq, beq_self_eq_true, List.take_length]; rfl)) ?_
            | (refine ev_step _ (by (simp only [go_sem, h1, h2, h3, h4, h5, hq, beq_self_eq_true, List.take_length]; rfl)) (by (first | trivial | decide | (simp only [inB, sliceOk, appendOk, rowsOk]; omega) | (simp [inB, sliceOk, appendOk, rowsOk]; omega))) _ (fun g u => by (simp only [go_sem, h1, h2, h3, h4, h5, hq, beq_self_eq_true, List.take_length]; rfl)) ?_; intro g u; (try clear u); (try clear g))
            | fail
          refine uni_mid l ga gb _ _ _ rfl hf ?_ ?_
          · refine Wk.mk ?_ ?_
            all_goals (repeat' first | exact trivial | exact LeA.refl _ | exact LeA.any _ | exact LeO.refl _ | exact LeO.no _ | exact LeA.nil _ | (refine LeA.i ?_; (first | rfl | (push_cast; rfl) | (rw [wrap_id (by omega)]; push_cast; omega) | (simp [wrap_id]; omega))) | refine ⟨?_, ?_⟩)
          intro g n a2 b2 hf2
          refine awq_yield (E := ⟨Try.prog, A, C', two ga gb, none, []⟩) T_ok (ly := l) (pre := [_, _]) (post := [_]) rfl rfl rfl ?_
          repeat' first
            | refine awp_seq ?_
            | refine awp_block ?_
            | refine awp_skip ?_
            | (refine reg _ (by (simp only [List.map_cons, List.map_nil]; rfl)) rfl ?_; intro K hK)
            | (refine awp_cond _ (by rfl) ?_ ?_ <;> (intro hb; first | (cases hb; done) | (have ht : true = true := hb; clear ht hb) | (have ht : false = false := hb; clear ht hb) | (simp only [hb]) | skip))
            | (refine awp_exit ?_; simp only [thenA, blockA, reduceIte, RetQ, Nat.reduceEqDiff])
            | (refine awp_ret ?_; simp only [thenA, blockA, RetQ])
            | (refine ev_nil (hK _ ?_); clear hK K)
            | refine ev_guardU _ (by (simp only [go_sem]; rfl)) (by (simp only [go_sem]; rfl)) _ (by (simp only [go_sem]; rfl)) ?_
            | (refine ev_guardT _ _ (by (simp only [go_sem]; rfl)) (by (simp only [go_sem]; rfl)) ?_ ?_ <;> (intro hb; first | (cases hb; done) | (have ht : true = true := hb; clear ht hb) | (have ht : false = false := hb; clear ht hb) | (simp only [hb]) | skip))
            | (refine ev_guardF _ _ (by (simp only [go_sem]; rfl)) (by (simp only [go_sem]; rfl)) ?_ ?_ <;> (intro hb; first | (cases hb; done) | (have ht : true = true := hb; clear ht hb) | (have ht : false = false := hb; clear ht hb) | (simp only [hb]) | skip))
            | refine ev_step0 _ _ (by (simp only [go_sem]; rfl)) (by (first | trivial | decide | (simp only [inB, sliceOk, appendOk, rowsOk]; omega) | (simp [inB, sliceOk, appendOk, rowsOk]; omega))) _ (by (simp only [go_sem]; rfl)) ?_
            | (refine ev_step _ (by (simp only [go_sem]; rfl)) (by (first | trivial | decide | (simp only [inB, sliceOk, appendOk, rowsOk]; omega) | (simp [inB, sliceOk, appendOk, rowsOk]; omega))) _ (fun g u => by (simp only [go_sem]; rfl)) ?_; intro g u; (try clear u); (try clear g))
            | fail
          refine ev_nil ?_
          refine ⟨rfl, fun act2 B hB => ?_⟩
          obtain ⟨R, hR1, hR2⟩ := uni_next (g := g) hst (fun pre O A hJ b hb => ⟨(hO pre O A hJ b hb).1, (hO pre O A hJ b hb).2.1⟩) hy hxs hf2 hJ hdis hB
          refine ⟨R, hR1, fun e w' he => ?_⟩
          obtain ⟨v, ⟨P', w1, C1, M1, rd1, df1⟩, rfl, hP, hrd, hdf, hs', hfin⟩ := hR2 e w' he
          simp only at hP hrd hdf
          subst hP; subst hrd; subst hdf
          refine ⟨v, ⟨_, w1, C1, M1, none, []⟩, uniV l ga gb a2 b2, rfl, rfl, rfl, hs', ?_⟩
          repeat' first
            | refine awp_seq ?_
            | refine awp_block ?_
            | refine awp_skip ?_
            | (refine reg _ (by (simp only [List.map_cons, List.map_nil]; rfl)) rfl ?_; intro K hK)
            | (refine awp_cond _ (by rfl) ?_ ?_ <;> (intro hb; first | (cases hb; done) | (have ht : true = true := hb; clear ht hb) | (have ht : false = false := hb; clear ht hb) | (simp only [hb]) | skip))
            | (refine awp_exit ?_; simp only [thenA, blockA, reduceIte, RetQ, Nat.reduceEqDiff])
            | (refine awp_ret ?_; simp only [thenA, blockA, RetQ])
            | (refine ev_nil (hK _ ?_); clear hK K)
            | refine ev_guardU _ (by (simp only [go_sem]; rfl)) (by (simp only [go_sem]; rfl)) _ (by (simp only [go_sem]; rfl)) ?_
            | (refine ev_guardT _ _ (by (simp only [go_sem]; rfl)) (by (simp only [go_sem]; rfl)) ?_ ?_ <;> (intro hb; first | (cases hb; done) | (have ht : true = true := hb; clear ht hb) | (have ht : false = false := hb; clear ht hb) | (simp only [hb]) | skip))
            | (refine ev_guardF _ _ (by (simp only [go_sem]; rfl)) (by (simp only [go_sem]; rfl)) ?_ ?_ <;> (intro hb; first | (cases hb; done) | (have ht : true = true := hb; clear ht hb) | (have ht : false = false := hb; clear ht hb) | (simp only [hb]) | skip))
            | refine ev_step0 _ _ (by (simp only [go_sem]; rfl)) (by (first | trivial | decide | (simp only [inB, sliceOk, appendOk, rowsOk]; omega) | (simp [inB, sliceOk, appendOk, rowsOk]; omega))) _ (by (simp only [go_sem]; rfl)) ?_
            | (refine ev_step _ (by (simp only [go_sem]; rfl)) (by (first | trivial | decide | (simp only [inB, sliceOk, appendOk, rowsOk]; omega) | (simp [inB, sliceOk, appendOk, rowsOk]; omega))) _ (fun g u => by (simp only [go_sem]; rfl)) ?_; intro g u; (try clear u); (try clear g))
            | fail
          refine ev_nil ?_
          refine awq_of (Q := fun e s => e = .normal ∧ Wk ⟨Try.prog, w1, C1, M1, none, []⟩ s (uniS l ga gb a2 b2)) ?_ ?_
          · repeat' first
              | refine awp_seq ?_
              | refine awp_block ?_
              | refine awp_skip ?_
              | (refine reg _ (by (simp only [List.map_cons, List.map_nil]; rfl)) rfl ?_; intro K hK)
              | (refine awp_cond _ (by rfl) ?_ ?_ <;> (intro hb; first | (cases hb; done) | (have ht : true = true := hb; clear ht hb) | (have ht : false = false := hb; clear ht hb) | (simp only [hb]) | skip))
              | (refine awp_exit ?_; simp only [thenA, blockA, reduceIte, RetQ, Nat.reduceEqDiff])
              | (refine awp_ret ?_; simp only [thenA, blockA, RetQ])
              | (refine ev_nil (hK _ ?_); clear hK K)
              | refine ev_guardU _ (by (simp only [go_sem]; rfl)) (by (simp only [go_sem]; rfl)) _ (by (simp only [go_sem]; rfl)) ?_
              | (refine ev_guardT _ _ (by (simp only [go_sem]; rfl)) (by (simp only [go_sem]; rfl)) ?_ ?_ <;> (intro hb; first | (cases hb; done) | (have ht : true = true := hb; clear ht hb) | (have ht : false = false := hb; clear ht hb) | (simp only [hb]) | skip))
              | (refine ev_guardF _ _ (by (simp only [go_sem]; rfl)) (by (simp only [go_sem]; rfl)) ?_ ?_ <;> (intro hb; first | (cases hb; done) | (have ht : true = true := hb; clear ht hb) | (have ht : false = false := hb; clear ht hb) | (simp only [hb]) | skip))
              | refine ev_step0 _ _ (by (simp only [go_sem]; rfl)) (by (first | trivial | decide | (simp only [inB, sliceOk, appendOk, rowsOk]; omega) | (simp [inB, sliceOk, appendOk, rowsOk]; omega))) _ (by (simp only [go_sem]; rfl)) ?_
              | (refine ev_step _ (by (simp only [go_sem]; rfl)) (by (first | trivial | decide | (simp only [inB, sliceOk, appendOk, rowsOk]; omega) | (simp [inB, sliceOk, appendOk, rowsOk]; omega))) _ (fun g u => by (simp only [go_sem]; rfl)) ?_; intro g u; (try clear u); (try clear g))
              | fail
            refine ⟨rfl, ?_⟩
            refine Wk.mk ?_ ?_
            all_goals (repeat' first | exact trivial | exact LeA.refl _ | exact LeA.any _ | exact LeO.refl _ | exact LeO.no _ | exact LeA.nil _ | (refine LeA.i ?_; (first | rfl | (push_cast; rfl) | (rw [wrap_id (by omega)]; push_cast; omega) | (simp [wrap_id]; omega))) | refine ⟨?_, ?_⟩)
          · rintro e s a w ⟨rfl, hw⟩ hs
            exact hfin s a w hs hw
        | false =>
          have e2 : offHd x (y :: s) = y :: s := by simp [offHd, hq]
          rw [e2] at hf
          simp only [nmEq, Bool.and_true] at hq
          repeat' first
            | ((fail_if_success show AWq _ (Code.seq (Code.region 9 _ _) _) _ _); refine awq_seq ?_)
            | refine awq_block ?_
            | refine awp_seq ?_
            | refine awp_block ?_
            | refine awp_skip ?_
            | (refine reg _ (by (simp only [List.map_cons, List.map_nil]; rfl)) rfl ?_; intro K hK)
            | (refine awp_cond _ (by rfl) ?_ ?_ <;> (intro hb; first | (cases hb; done) | (have ht : true = true := hb; clear ht hb) | (have ht : false = false := hb; clear ht hb) | (simp only [hb]) | skip))
            | (refine awp_exit ?_; simp only [thenA, blockA, reduceIte, RetQ, Nat.reduceEqDiff])
            | (refine awp_ret ?_; simp only [thenA, blockA, RetQ])
            | (refine ev_nil (hK _ ?_); clear hK K)
            | refine ev_guardU _ (by (simp only [go_sem, h1, h2, h3, h4, h5, hq, beq_self_eq_true, List.take_length]; rfl)) (by (simp only [go_sem, h1, h2, h3, h4, h5, hq, beq_self_eq_true, List.take_length]; rfl)) _ (by (simp only [go_sem, h1, h2, h3, h4, h5, hq, beq_self_eq_true, List.take_length]; rfl)) ?_
            | (refine ev_guardT _ _ (by (simp only [go_sem, h1, h2, h3, h4, h5, hq, beq_self_eq_true, List.take_length]; rfl)) (by (simp only [go_sem, h1, h2, h3, h4, h5, hq, beq_self_eq_true, List.take_length]; rfl)) ?_ ?_ <;> (intro hb; first | (cases hb; done) | (have ht : true = true := hb; clear ht hb) | (have ht : false = false := hb; clear ht hb) | (simp only [hb]) | skip))
            | (refine ev_guardF _ _ (by (simp only [go_sem, h1, h2, h3, h4, h5, hq, beq_self_eq_true, List.take_length]; rfl)) (by (simp only [go_sem, h1, h2, h3, h4, h5, hq, beq_self_eq_true, List.take_length]; rfl)) ?_ ?_ <;> (intro hb; first | (cases hb; done) | (have ht : true = true := hb; clear ht hb) | (have ht : false = false := hb; clear ht hb) | (simp only [hb]) | skip))
            | refine ev_call0 _ _ (by (simp only [go_sem, h1, h2, h3, h4, h5, hq, beq_self_eq_true, List.take_length]; rfl)) (by first | exact f47_spec ..) (by (simp only [go_sem, h1, h2, h3, h4, h5, hq, beq_self_eq_true, List.take_length])) _ (by (simp only [go_sem, h1, h2, h3, h4, h5, hq, beq_self_eq_true, List.take_length]; rfl)) ?_
            | refine ev_callC _ _ _ _ (by (simp only [go_sem, h1, h2, h3, h4, h5, hq, beq_self_eq_true, List.take_length]; rfl)) (by (simp only [go_sem, h1, h2, h3, h4, h5, hq, beq_self_eq_true, List.take_length]; rfl)) (by first | exact f47_spec ..) (by (simp only [go_sem, h1, h2, h3, h4, h5, hq, beq_self_eq_true, List.take_length])) _ (by (simp only [go_sem, h1, h2, h3, h4, h5, hq, beq_self_eq_true, List.take_length]; rfl)) ?_
            | (apply regD; (case hd => (simp only [List.map_cons, List.map_nil]; rfl)); (case hok => rfl); (case' h => (intro K hK; (repeat' first
        | (apply evd_nil; refine (hK _ ?_); clear hK K)
        | (apply evd_guardU0; (case hj => (simp only [go_sem, h1, h2, h3, h4, h5, hq, beq_self_eq_true, List.take_length]; try rfl)); (case hu => (simp only [go_sem, h1, h2, h3, h4, h5, hq, beq_self_eq_true, List.take_length])); (case hσ => (simp only [go_sem, h1, h2, h3, h4, h5, hq, beq_self_eq_true, List.take_length]; try rfl)))
        | (apply evd_skipT0; (case hj => (simp only [go_sem, h1, h2, h3, h4, h5, hq, beq_self_eq_true, List.take_length]; try rfl)); (case hb => (simp only [go_sem, h1, h2, h3, h4, h5, hq, beq_self_eq_true, List.take_length]; try rfl)); (case hσ => (simp only [go_sem, h1, h2, h3, h4, h5, hq, beq_self_eq_true, List.take_length]; try rfl)))
        | (apply evd_skipF0; (case hj => (simp only [go_sem, h1, h2, h3, h4, h5, hq, beq_self_eq_true, List.take_length]; try rfl)); (case hb => (simp only [go_sem, h1, h2, h3, h4, h5, hq, beq_self_eq_true, List.take_length]; try rfl)); (case hσ => (simp only [go_sem, h1, h2, h3, h4, h5, hq, beq_self_eq_true, List.take_length]; try rfl)))
        | (apply evd_guardU; (case hj => (simp only [go_sem, h1, h2, h3, h4, h5, hq, beq_self_eq_true, List.take_length]; try rfl)); (case hu => (simp only [go_sem, h1, h2, h3, h4, h5, hq, beq_self_eq_true, List.take_length])); (case hσ => (simp only [go_sem, h1, h2, h3, h4, h5, hq, beq_self_eq_true, List.take_length]; try rfl)))
        | (apply evd_skipT; (case hj => (simp only [go_sem, h1, h2, h3, h4, h5, hq, beq_self_eq_true, List.take_length]; try rfl)); (case hb => (simp only [go_sem, h1, h2, h3, h4, h5, hq, beq_self_eq_true, List.take_length]; try rfl)); (case hσ => (simp only [go_sem, h1, h2, h3, h4, h5, hq, beq_self_eq_true, List.take_length]; try rfl)))
        | (apply evd_skipF; (case hj => (simp only [go_sem, h1, h2, h3, h4, h5, hq, beq_self_eq_true, List.take_length]; try rfl)); (case hb => (simp only [go_sem, h1, h2, h3, h4, h5, hq, beq_self_eq_true, List.take_length]; try rfl)); (case hσ => (simp only [go_sem, h1, h2, h3, h4, h5, hq, beq_self_eq_true, List.take_length]; try rfl)))
        | (apply evd_guardT; (case hj => (simp only [go_sem, h1, h2, h3, h4, h5, hq, beq_self_eq_true, List.take_length]; try rfl)); (case hb => (simp only [go_sem, h1, h2, h3, h4, h5, hq, beq_self_eq_true, List.take_length]; try rfl)); (case' h2 => (intro hb; first | (cases hb; done) | (simp only [hb]) | skip)); (case' h1 => (intro hb; first | (cases hb; done) | (simp only [hb]) | skip)))
        | (apply evd_guardF; (case hj => (simp only [go_sem, h1, h2, h3, h4, h5, hq, beq_self_eq_true, List.take_length]; try rfl)); (case hb => (simp only [go_sem, h1, h2, h3, h4, h5, hq, beq_self_eq_true, List.take_length]; try rfl)); (case' h2 => (intro hb; first | (cases hb; done) | (simp only [hb]) | skip)); (case' h1 => (intro hb; first | (cases hb; done) | (simp only [hb]) | skip)))
        | (apply evd_call0; (case hi => (simp only [go_sem, h1, h2, h3, h4, h5, hq, beq_self_eq_true, List.take_length]; try rfl)); (case hys => (simp only [go_sem, h1, h2, h3, h4, h5, hq, beq_self_eq_true, List.take_length]; try rfl)); (case hs => first | exact f47_spec ..); (case hok => (simp only [go_sem, h1, h2, h3, h4, h5, hq, beq_self_eq_true, List.take_length])); (case hw => (simp only [go_sem, h1, h2, h3, h4, h5, hq, beq_self_eq_true, List.take_length]; try rfl)); (case hσ => (simp only [go_sem, h1, h2, h3, h4, h5, hq, beq_self_eq_true, List.take_length]; try rfl)))
        | (apply evd_callC; (case hf => (simp only [go_sem, h1, h2, h3, h4, h5, hq, beq_self_eq_true, List.take_length]; try rfl)); (case hi => (simp only [go_sem, h1, h2, h3, h4, h5, hq, beq_self_eq_true, List.take_length]; try rfl)); (case hys => (simp only [go_sem, h1, h2, h3, h4, h5, hq, beq_self_eq_true, List.take_length]; try rfl)); (case hs => first | exact f47_spec ..); (case hok => (simp only [go_sem, h1, h2, h3, h4, h5, hq, beq_self_eq_true, List.take_length])); (case hw => (simp only [go_sem, h1, h2, h3, h4, h5, hq, beq_self_eq_true, List.take_length]; try rfl)); (case hσ => (simp only [go_sem, h1, h2, h3, h4, h5, hq, beq_self_eq_true, List.take_length]; try rfl)))
        | (apply evd_step0; (case hr => (simp only [go_sem, h1, h2, h3, h4, h5, hq, beq_self_eq_true, List.take_length]; try rfl)); (case hi => (simp only [go_sem, h1, h2, h3, h4, h5, hq, beq_self_eq_true, List.take_length]; try rfl)); (case hc => (first | trivial | decide | (simp only [inB, sliceOk, appendOk, rowsOk]; omega) | (simp [inB, sliceOk, appendOk, rowsOk]; omega))); (case hσ => (simp only [go_sem, h1, h2, h3, h4, h5, hq, beq_self_eq_true, List.take_length]; try rfl)))
        | (apply evd_step; (case hr => (simp only [go_sem, h1, h2, h3, h4, h5, hq, beq_self_eq_true, List.take_length]; try rfl)); (case hi => (simp only [go_sem, h1, h2, h3, h4, h5, hq, beq_self_eq_true, List.take_length]; try rfl)); (case hc => (first | trivial | decide | (simp only [inB, sliceOk, appendOk, rowsOk]; omega) | (simp [inB, sliceOk, appendOk, rowsOk]; omega))); (case hw => (intro g u; simp only [go_sem, h1, h2, h3, h4, h5, hq, beq_self_eq_true, List.take_length]; try rfl)); (case hσ => (intro g u; simp only [go_sem, h1, h2, h3, h4, h5, hq, beq_self_eq_true, List.take_length]; try rfl)); (case' hk => (intro g u; (try clear u); (try clear g))))
        | fail))); (case hB => kernel_rfl))
            | refine ev_step0 _ _ (by (simp only [go_sem, h1, h2, h3, h4, h5, hq, beq_self_eq_true, List.take_length]; rfl)) (by (first | trivial | decide | (simp only [inB, sliceOk, appendOk, rowsOk]; omega) | (simp [inB, sliceOk, appendOk, rowsOk]; omega))) _ (by (simp only [go_sem, h1, h2, h3, h4, h5, hq, beq_self_eq_true, List.take_length]; rfl)) ?_
            | (refine ev_step _ (by (simp only [go_sem, h1, h2, h3, h4, h5, hq, beq_self_eq_true, List.take_length]; rfl)) (by (first | trivial | decide | (simp only [inB, sliceOk, appendOk, rowsOk]; omega) | (simp [inB, sliceOk, appendOk, rowsOk]; omega))) _ (fun g u => by (simp only [go_sem, h1, h2, h3, h4, h5, hq, beq_self_eq_true, List.take_length]; rfl)) ?_; intro g u; (try clear u); (try clear g))
            | fail
          refine uni_mid l ga gb _ _ _ rfl hf ?_ ?_
          · refine Wk.mk ?_ ?_
            all_goals (repeat' first | exact trivial | exact LeA.refl _ | exact LeA.any _ | exact LeO.refl _ | exact LeO.no _ | exact LeA.nil _ | (refine LeA.i ?_; (first | rfl | (push_cast; rfl) | (rw [wrap_id (by omega)]; push_cast; omega) | (simp [wrap_id]; omega))) | refine ⟨?_, ?_⟩)
          intro g n a2 b2 hf2
          refine awq_yield (E := ⟨Try.prog, A, C', two ga gb, none, []⟩) T_ok (ly := l) (pre := [_, _]) (post := [_]) rfl rfl rfl ?_
          repeat' first
            | refine awp_seq ?_
            | refine awp_block ?_
            | refine awp_skip ?_
            | (refine reg _ (by (simp only [List.map_cons, List.map_nil]; rfl)) rfl ?_; intro K hK)
            | (refine awp_cond _ (by rfl) ?_ ?_ <;> (intro hb; first | (cases hb; done) | (have ht : true = true := hb; clear ht hb) | (have ht : false = false := hb; clear ht hb) | (simp only [hb]) | skip))
            | (refine awp_exit ?_; simp only [thenA, blockA, reduceIte, RetQ, Nat.reduceEqDiff])
            | (refine awp_ret ?_; simp only [thenA, blockA, RetQ])
            | (refine ev_nil (hK _ ?_); clear hK K)
            | refine ev_guardU _ (by (simp only [go_sem]; rfl)) (by (simp only [go_sem]; rfl)) _ (by (simp only [go_sem]; rfl)) ?_
            | (refine ev_guardT _ _ (by (simp only [go_sem]; rfl)) (by (simp only [go_sem]; rfl)) ?_ ?_ <;> (intro hb; first | (cases hb; done) | (have ht : true = true := hb; clear ht hb) | (have ht : false = false := hb; clear ht hb) | (simp only [hb]) | skip))
            | (refine ev_guardF _ _ (by (simp only [go_sem]; rfl)) (by (simp only [go_sem]; rfl)) ?_ ?_ <;> (intro hb; first | (cases hb; done) | (have ht : true = true := hb; clear ht hb) | (have ht : false = false := hb; clear ht hb) | (simp only [hb]) | skip))
            | refine ev_step0 _ _ (by (simp only [go_sem]; rfl)) (by (first | trivial | decide | (simp only [inB, sliceOk, appendOk, rowsOk]; omega) | (simp [inB, sliceOk, appendOk, rowsOk]; omega))) _ (by (simp only [go_sem]; rfl)) ?_
            | (refine ev_step _ (by (simp only [go_sem]; rfl)) (by (first | trivial | decide | (simp only [inB, sliceOk, appendOk, rowsOk]; omega) | (simp [inB, sliceOk, appendOk, rowsOk]; omega))) _ (fun g u => by (simp only [go_sem]; rfl)) ?_; intro g u; (try clear u); (try clear g))
            | fail
          refine ev_nil ?_
          refine ⟨rfl, fun act2 B hB => ?_⟩
          obtain ⟨R, hR1, hR2⟩ := uni_next (g := g) hst (fun pre O A hJ b hb => ⟨(hO pre O A hJ b hb).1, (hO pre O A hJ b hb).2.1⟩) hy hxs hf2 hJ hdis hB
          refine ⟨R, hR1, fun e w' he => ?_⟩
          obtain ⟨v, ⟨P', w1, C1, M1, rd1, df1⟩, rfl, hP, hrd, hdf, hs', hfin⟩ := hR2 e w' he
          simp only at hP hrd hdf
          subst hP; subst hrd; subst hdf
          refine ⟨v, ⟨_, w1, C1, M1, none, []⟩, uniV l ga gb a2 b2, rfl, rfl, rfl, hs', ?_⟩
          repeat' first
            | refine awp_seq ?_
            | refine awp_block ?_
            | refine awp_skip ?_
            | (refine reg _ (by (simp only [List.map_cons, List.map_nil]; rfl)) rfl ?_; intro K hK)
            | (refine awp_cond _ (by rfl) ?_ ?_ <;> (intro hb; first | (cases hb; done) | (have ht : true = true := hb; clear ht hb) | (have ht : false = false := hb; clear ht hb) | (simp only [hb]) | skip))
            | (refine awp_exit ?_; simp only [thenA, blockA, reduceIte, RetQ, Nat.reduceEqDiff])
            | (refine awp_ret ?_; simp only [thenA, blockA, RetQ])
            | (refine ev_nil (hK _ ?_); clear hK K)
            | refine ev_guardU _ (by (simp only [go_sem]; rfl)) (by (simp only [go_sem]; rfl)) _ (by (simp only [go_sem]; rfl)) ?_
            | (refine ev_guardT _ _ (by (simp only [go_sem]; rfl)) (by (simp only [go_sem]; rfl)) ?_ ?_ <;> (intro hb; first | (cases hb; done) | (have ht : true = true := hb; clear ht hb) | (have ht : false = false := hb; clear ht hb) | (simp only [hb]) | skip))
            | (refine ev_guardF _ _ (by (simp only [go_sem]; rfl)) (by (simp only [go_sem]; rfl)) ?_ ?_ <;> (intro hb; first | (cases hb; done) | (have ht : true = true := hb; clear ht hb) | (have ht : false = false := hb; clear ht hb) | (simp only [hb]) | skip))
            | refine ev_step0 _ _ (by (simp only [go_sem]; rfl)) (by (first | trivial | decide | (simp only [inB, sliceOk, appendOk, rowsOk]; omega) | (simp [inB, sliceOk, appendOk, rowsOk]; omega))) _ (by (simp only [go_sem]; rfl)) ?_
            | (refine ev_step _ (by (simp only [go_sem]; rfl)) (by (first | trivial | decide | (simp only [inB, sliceOk, appendOk, rowsOk]; omega) | (simp [inB, sliceOk, appendOk, rowsOk]; omega))) _ (fun g u => by (simp only [go_sem]; rfl)) ?_; intro g u; (try clear u); (try clear g))
            | fail
          refine ev_nil ?_
          refine awq_of (Q := fun e s => e = .normal ∧ Wk ⟨Try.prog, w1, C1, M1, none, []⟩ s (uniS l ga gb a2 b2)) ?_ ?_
          · repeat' first
              | refine awp_seq ?_
              | refine awp_block ?_
              | refine awp_skip ?_
              | (refine reg _ (by (simp only [List.map_cons, List.map_nil]; rfl)) rfl ?_; intro K hK)
              | (refine awp_cond _ (by rfl) ?_ ?_ <;> (intro hb; first | (cases hb; done) | (have ht : true = true := hb; clear ht hb) | (have ht : false = false := hb; clear ht hb) | (simp only [hb]) | skip))
              | (refine awp_exit ?_; simp only [thenA, blockA, reduceIte, RetQ, Nat.reduceEqDiff])
              | (refine awp_ret ?_; simp only [thenA, blockA, RetQ])
              | (refine ev_nil (hK _ ?_); clear hK K)
              | refine ev_guardU _ (by (simp only [go_sem]; rfl)) (by (simp only [go_sem]; rfl)) _ (by (simp only [go_sem]; rfl)) ?_
              | (refine ev_guardT _ _ (by (simp only [go_sem]; rfl)) (by (simp only [go_sem]; rfl)) ?_ ?_ <;> (intro hb; first | (cases hb; done) | (have ht : true = true := hb; clear ht hb) | (have ht : false = false := hb; clear ht hb) | (simp only [hb]) | skip))
              | (refine ev_guardF _ _ (by (simp only [go_sem]; rfl)) (by (simp only [go_sem]; rfl)) ?_ ?_ <;> (intro hb; first | (cases hb; done) | (have ht : true = true := hb; clear ht hb) | (have ht : false = false := hb; clear ht hb) | (simp only [hb]) | skip))
              | refine ev_step0 _ _ (by (simp only [go_sem]; rfl)) (by (first | trivial | decide | (simp only [inB, sliceOk, appendOk, rowsOk]; omega) | (simp [inB, sliceOk, appendOk, rowsOk]; omega))) _ (by (simp only [go_sem]; rfl)) ?_
              | (refine ev_step _ (by (simp only [go_sem]; rfl)) (by (first | trivial | decide | (simp only [inB, sliceOk, appendOk, rowsOk]; omega) | (simp [inB, sliceOk, appendOk, rowsOk]; omega))) _ (fun g u => by (simp only [go_sem]; rfl)) ?_; intro g u; (try clear u); (try clear g))
              | fail
            refine ⟨rfl, ?_⟩
            refine Wk.mk ?_ ?_
            all_goals (repeat' first | exact trivial | exact LeA.refl _ | exact LeA.any _ | exact LeO.refl _ | exact LeO.no _ | exact LeA.nil _ | (refine LeA.i ?_; (first | rfl | (push_cast; rfl) | (rw [wrap_id (by omega)]; push_cast; omega) | (simp [wrap_id]; omega))) | refine ⟨?_, ?_⟩)
          · rintro e s a w ⟨rfl, hw⟩ hs
            exact hfin s a w hs hw
      · have h5 : decide (cmpN x.1 x.2 y.1 y.2 ≤ 0) = false := by simpa using hc
        have e1 : offHd y (y :: s) = s := by simp [offHd, nmEq]
        simp only [uniHd, if_neg hc, e1] at hf
        cases hq : nmEq x y with
        | true =>
          have e2 : offHd y (x :: r) = r := by simp [offHd, hq]
          rw [e2] at hf
          simp only [nmEq, Bool.and_true] at hq
          repeat' first
            | ((fail_if_success show AWq _ (Code.seq (Code.region 9 _ _) _) _ _); refine awq_seq ?_)
            | refine awq_block ?_
            | refine awp_seq ?_
            | refine awp_block ?_
            | refine awp_skip ?_
            | (refine reg _ (by (simp only [List.map_cons, List.map_nil]; rfl)) rfl ?_; intro K hK)
            | (refine awp_cond _ (by rfl) ?_ ?_ <;> (intro hb; first | (cases hb; done) | (have ht : true = true := hb; clear ht hb) | (have ht : false = false := hb; clear ht hb) | (simp only [hb]) | skip))
            | (refine awp_exit ?_; simp only [thenA, blockA, reduceIte, RetQ, Nat.reduceEqDiff])
            | (refine awp_ret ?_; simp only [thenA, blockA, RetQ])
            | (refine ev_nil (hK _ ?_); clear hK K)
            | refine ev_guardU _ (by (simp only [go_sem, h1, h2, h3, h4, h5, hq, beq_self_eq_true, List.take_length]; rfl)) (by (simp only [go_sem, h1, h2, h3, h4, h5, hq, beq_self_eq_true, List.take_length]; rfl)) _ (by (simp only [go_sem, h1, h2, h3, h4, h5, hq, beq_self_eq_true, List.take_length]; rfl)) ?_
            | (refine ev_guardT _ _ (by (simp only [go_sem, h1, h2, h3, h4, h5, hq, beq_self_eq_true, List.take_length]; rfl)) (by (simp only [go_sem, h1, h2, h3, h4, h5, hq, beq_self_eq_true, List.take_length]; rfl)) ?_ ?_ <;> (intro hb; first | (cases hb; done) | (have ht : true = true := hb; clear ht hb) | (have ht : false = false := hb; clear ht hb) | (simp only [hb]) | skip))
            | (refine ev_guardF _ _ (by (simp only [go_sem, h1, h2, h3, h4, h5, hq, beq_self_eq_true, List.take_length]; rfl)) (by (simp only [go_sem, h1, h2, h3, h4, h5, hq, beq_self_eq_true, List.take_length]; rfl)) ?_ ?_ <;> (intro hb; first | (cases hb; done) | (have ht : true = true := hb; clear ht hb) | (have ht : false = false := hb; clear ht hb) | (simp only [hb]) | skip))
            | refine ev_call0 _ _ (by (simp only [go_sem, h1, h2, h3, h4, h5, hq, beq_self_eq_true, List.take_length]; rfl)) (by first | exact f47_spec ..) (by (simp only [go_sem, h1, h2, h3, h4, h5, hq, beq_self_eq_true, List.take_length])) _ (by (simp only [go_sem, h1, h2, h3, h4, h5, hq, beq_self_eq_true, List.take_length]; rfl)) ?_
            | refine ev_callC _ _ _ _ (by (simp only [go_sem, h1, h2, h3, h4, h5, hq, beq_self_eq_true, List.take_length]; rfl)) (by (simp only [go_sem, h1, h2, h3, h4, h5, hq, beq_self_eq_true, List.take_length]; rfl)) (by first | exact f47_spec ..) (by (simp only [go_sem, h1, h2, h3, h4, h5, hq, beq_self_eq_true, List.take_length])) _ (by (simp only [go_sem, h1, h2, h3, h4, h5, hq, beq_self_eq_true, List.take_length]; rfl)) ?_
            | (apply regD; (case hd => (simp only [List.map_cons, List.map_nil]; rfl)); (case hok => rfl); (case' h => (intro K hK; (repeat' first
        | (apply evd_nil; refine (hK _ ?_); clear hK K)
        | (apply evd_guardU0; (case hj => (simp only [go_sem, h1, h2, h3, h4, h5, hq, beq_self_eq_true, List.take_length]; try rfl)); (case hu => (simp only [go_sem, h1, h2, h3, h4, h5, hq, beq_self_eq_true, List.take_length])); (case hσ => (simp only [go_sem, h1, h2, h3, h4, h5, hq, beq_self_eq_true, List.take_length]; try rfl)))
        | (apply evd_skipT0; (case hj => (simp only [go_sem, h1, h2, h3, h4, h5, hq, beq_self_eq_true, List.take_length]; try rfl)); (case hb => (simp only [go_sem, h1, h2, h3, h4, h5, hq, beq_self_eq_true, List.take_length]; try rfl)); (case hσ => (simp only [go_sem, h1, h2, h3, h4, h5, hq, beq_self_eq_true, List.take_length]; try rfl)))
        | (apply evd_skipF0; (case hj => (simp only [go_sem, h1, h2, h3, h4, h5, hq, beq_self_eq_true, List.take_length]; try rfl)); (case hb => (simp only [go_sem, h1, h2, h3, h4, h5, hq, beq_self_eq_true, List.take_length]; try rfl)); (case hσ => (simp only [go_sem, h1, h2, h3, h4, h5, hq, beq_self_eq_true, List.take_length]; try rfl)))
        | (apply evd_guardU; (case hj => (simp only [go_sem, h1, h2, h3, h4, h5, hq, beq_self_eq_true, List.take_length]; try rfl)); (case hu => (simp only [go_sem, h1, h2, h3, h4, h5, hq, beq_self_eq_true, List.take_length])); (case hσ => (simp only [go_sem, h1, h2, h3, h4, h5, hq, beq_self_eq_true, List.take_length]; try rfl)))
        | (apply evd_skipT; (case hj => (simp only [go_sem, h1, h2, h3, h4, h5, hq, beq_self_eq_true, List.take_length]; try rfl)); (case hb => (simp only [go_sem, h1, h2, h3, h4, h5, hq, beq_self_eq_true, List.take_length]; try rfl)); (case hσ => (simp only [go_sem, h1, h2, h3, h4, h5, hq, beq_self_eq_true, List.take_length]; try rfl)))
        | (apply evd_skipF; (case hj => (simp only [go_sem, h1, h2, h3, h4, h5, hq, beq_self_eq_true, List.take_length]; try rfl)); (case hb => (simp only [go_sem, h1, h2, h3, h4, h5, hq, beq_self_eq_true, List.take_length]; try rfl)); (case hσ => (simp only [go_sem, h1, h2, h3, h4, h5, hq, beq_self_eq_true, List.take_length]; try rfl)))
        | (apply evd_guardT; (case hj => (simp only [go_sem, h1, h2, h3, h4, h5, hq, beq_self_eq_true, List.take_length]; try rfl)); (case hb => (simp only [go_sem, h1, h2, h3, h4, h5, hq, beq_self_eq_true, List.take_length]; try rfl)); (case' h2 => (intro hb; first | (cases hb; done) | (simp only [hb]) | skip)); (case' h1 => (intro hb; first | (cases hb; done) | (simp only [hb]) | skip)))
        | (apply evd_guardF; (case hj => (simp only [go_sem, h1, h2, h3, h4, h5, hq, beq_self_eq_true, List.take_length]; try rfl)); (case hb => (simp only [go_sem, h1, h2, h3, h4, h5, hq, beq_self_eq_true, List.take_length]; try rfl)); (case' h2 => (intro hb; first | (cases hb; done) | (simp only [hb]) | skip)); (case' h1 => (intro hb; first | (cases hb; done) | (simp only [hb]) | skip)))
        | (apply evd_call0; (case hi => (simp only [go_sem, h1, h2, h3, h4, h5, hq, beq_self_eq_true, List.take_length]; try rfl)); (case hys => (simp only [go_sem, h1, h2, h3, h4, h5, hq, beq_self_eq_true, List.take_length]; try rfl)); (case hs => first | exact f47_spec ..); (case hok => (simp only [go_sem, h1, h2, h3, h4, h5, hq, beq_self_eq_true, List.take_length])); (case hw => (simp only [go_sem, h1, h2, h3, h4, h5, hq, beq_self_eq_true, List.take_length]; try rfl)); (case hσ => (simp only [go_sem, h1, h2, h3, h4, h5, hq, beq_self_eq_true, List.take_length]; try rfl)))
        | (apply evd_callC; (case hf => (simp only [go_sem, h1, h2, h3, h4, h5, hq, beq_self_eq_true, List.take_length]; try rfl)); (case hi => (simp only [go_sem, h1, h2, h3, h4, h5, hq, beq_self_eq_true, List.take_length]; try rfl)); (case hys => (simp only [go_sem, h1, h2, h3, h4, h5, hq, beq_self_eq_true, List.take_length]; try rfl)); (case hs => first | exact f47_spec ..); (case hok => (simp only [go_sem, h1, h2, h3, h4, h5, hq, beq_self_eq_true, List.take_length])); (case hw => (simp only [go_sem, h1, h2, h3, h4, h5, hq, beq_self_eq_true, List.take_length]; try rfl)); (case hσ => (simp only [go_sem, h1, h2, h3, h4, h5, hq, beq_self_eq_true, List.take_length]; try rfl)))
        | (apply evd_step0; (case hr => (simp only [go_sem, h1, h2, h3, h4, h5, hq, beq_self_eq_true, List.take_length]; try rfl)); (case hi => (simp only [go_sem, h1, h2, h3, h4, h5, hq, beq_self_eq_true, List.take_length]; try rfl)); (case hc => (first | trivial | decide | (simp only [inB, sliceOk, appendOk, rowsOk]; omega) | (simp [inB, sliceOk, appendOk, rowsOk]; omega))); (case hσ => (simp only [go_sem, h1, h2, h3, h4, h5, hq, beq_self_eq_true, List.take_length]; try rfl)))
        | (apply evd_step; (case hr => (simp only [go_sem, h1, h2, h3, h4, h5, hq, beq_self_eq_true, List.take_length]; try rfl)); (case hi => (simp only [go_sem, h1, h2, h3, h4, h5, hq, beq_self_eq_true, List.take_length]; try rfl)); (case hc => (first | trivial | decide | (simp only [inB, sliceOk, appendOk, rowsOk]; omega) | (simp [inB, sliceOk, appendOk, rowsOk]; omega))); (case hw => (intro g u; simp only [go_sem, h1, h2, h3, h4, h5, hq, beq_self_eq_true, List.take_length]; try rfl)); (case hσ => (intro g u; simp only [go_sem, h1, h2, h3, h4, h5, hq, beq_self_eq_true, List.take_length]; try rfl)); (case' hk => (intro g u; (try clear u); (try clear g))))
        | fail))); (case hB => kernel_rfl))
            | refine ev_step0 _ _ (by (simp only [go_sem, h1, h2, h3, h4, h5, hq, beq_self_eq_true, List.take_length]; rfl)) (by (first | trivial | decide | (simp only [inB, sliceOk, appendOk, rowsOk]; omega) | (simp [inB, sliceOk, appendOk, rowsOk]; omega))) _ (by (simp only [go_sem, h1, h2, h3, h4, h5, hq, beq_self_eq_true, List.take_length]; rfl)) ?_
            | (refine ev_step _ (by (simp only [go_sem, h1, h2, h3, h4, h5, hq, beq_self_eq_true, List.take_length]; rfl)) (by (first | trivial | decide | (simp only [inB, sliceOk, appendOk, rowsOk]; omega) | (simp [inB, sliceOk, appendOk, rowsOk]; omega))) _ (fun g u => by (simp only [go_sem, h1, h2, h3, h4, h5, hq, beq_self_eq_true, List.take_length]; rfl)) ?_; intro g u; (try clear u); (try clear g))
            | fail
          refine uni_mid l ga gb _ _ _ rfl hf ?_ ?_
          · refine Wk.mk ?_ ?_
            all_goals (repeat' first | exact trivial | exact LeA.refl _ | exact LeA.any _ | exact LeO.refl _ | exact LeO.no _ | exact LeA.nil _ | (refine LeA.i ?_; (first | rfl | (push_cast; rfl) | (rw [wrap_id (by omega)]; push_cast; omega) | (simp [wrap_id]; omega))) | refine ⟨?_, ?_⟩)
          intro g n a2 b2 hf2
          refine awq_yield (E := ⟨Try.prog, A, C', two ga gb, none, []⟩) T_ok (ly := l) (pre := [_, _]) (post := [_]) rfl rfl rfl ?_
          repeat' first
            | refine awp_seq ?_
            | refine awp_block ?_
            | refine awp_skip ?_
            | (refine reg _ (by (simp only [List.map_cons, List.map_nil]; rfl)) rfl ?_; intro K hK)
            | (refine awp_cond _ (by rfl) ?_ ?_ <;> (intro hb; first | (cases hb; done) | (have ht : true = true := hb; clear ht hb) | (have ht : false = false := hb; clear ht hb) | (simp only [hb]) | skip))
            | (refine awp_exit ?_; simp only [thenA, blockA, reduceIte, RetQ, Nat.reduceEqDiff])
            | (refine awp_ret ?_; simp only [thenA, blockA, RetQ])
            | (refine ev_nil (hK _ ?_); clear hK K)
            | refine ev_guardU _ (by (simp only [go_sem]; rfl)) (by (simp only [go_sem]; rfl)) _ (by (simp only [go_sem]; rfl)) ?_
            | (refine ev_guardT _ _ (by (simp only [go_sem]; rfl)) (by (simp only [go_sem]; rfl)) ?_ ?_ <;> (intro hb; first | (cases hb; done) | (have ht : true = true := hb; clear ht hb) | (have ht : false = false := hb; clear ht hb) | (simp only [hb]) | skip))
            | (refine ev_guardF _ _ (by (simp only [go_sem]; rfl)) (by (simp only [go_sem]; rfl)) ?_ ?_ <;> (intro hb; first | (cases hb; done) | (have ht : true = true := hb; clear ht hb) | (have ht : false = false := hb; clear ht hb) | (simp only [hb]) | skip))
            | refine ev_step0 _ _ (by (simp only [go_sem]; rfl)) (by (first | trivial | decide | (simp only [inB, sliceOk, appendOk, rowsOk]; omega) | (simp [inB, sliceOk, appendOk, rowsOk]; omega))) _ (by (simp only [go_sem]; rfl)) ?_
            | (refine ev_step _ (by (simp only [go_sem]; rfl)) (by (first | trivial | decide | (simp only [inB, sliceOk, appendOk, rowsOk]; omega) | (simp [inB, sliceOk, appendOk, rowsOk]; omega))) _ (fun g u => by (simp only [go_sem]; rfl)) ?_; intro g u; (try clear u); (try clear g))
            | fail
          refine ev_nil ?_
          refine ⟨rfl, fun act2 B hB => ?_⟩
          obtain ⟨R, hR1, hR2⟩ := uni_next (g := g) hst (fun pre O A hJ b hb => ⟨(hO pre O A hJ b hb).1, (hO pre O A hJ b hb).2.1⟩) hy hxs hf2 hJ hdis hB
          refine ⟨R, hR1, fun e w' he => ?_⟩
          obtain ⟨v, ⟨P', w1, C1, M1, rd1, df1⟩, rfl, hP, hrd, hdf, hs', hfin⟩ := hR2 e w' he
          simp only at hP hrd hdf
          subst hP; subst hrd; subst hdf
          refine ⟨v, ⟨_, w1, C1, M1, none, []⟩, uniV l ga gb a2 b2, rfl, rfl, rfl, hs', ?_⟩
          repeat' first
            | refine awp_seq ?_
            | refine awp_block ?_
            | refine awp_skip ?_
            | (refine reg _ (by (simp only [List.map_cons, List.map_nil]; rfl)) rfl ?_; intro K hK)
            | (refine awp_cond _ (by rfl) ?_ ?_ <;> (intro hb; first | (cases hb; done) | (have ht : true = true := hb; clear ht hb) | (have ht : false = false := hb; clear ht hb) | (simp only [hb]) | skip))
            | (refine awp_exit ?_; simp only [thenA, blockA, reduceIte, RetQ, Nat.reduceEqDiff])
            | (refine awp_ret ?_; simp only [thenA, blockA, RetQ])
            | (refine ev_nil (hK _ ?_); clear hK K)
            | refine ev_guardU _ (by (simp only [go_sem]; rfl)) (by (simp only [go_sem]; rfl)) _ (by (simp only [go_sem]; rfl)) ?_
            | (refine ev_guardT _ _ (by (simp only [go_sem]; rfl)) (by (simp only [go_sem]; rfl)) ?_ ?_ <;> (intro hb; first | (cases hb; done) | (have ht : true = true := hb; clear ht hb) | (have ht : false = false := hb; clear ht hb) | (simp only [hb]) | skip))
            | (refine ev_guardF _ _ (by (simp only [go_sem]; rfl)) (by (simp only [go_sem]; rfl)) ?_ ?_ <;> (intro hb; first | (cases hb; done) | (have ht : true = true := hb; clear ht hb) | (have ht : false = false := hb; clear ht hb) | (simp only [hb]) | skip))
            | refine ev_step0 _ _ (by (simp only [go_sem]; rfl)) (by (first | trivial | decide | (simp only [inB, sliceOk, appendOk, rowsOk]; omega) | (simp [inB, sliceOk, appendOk, rowsOk]; omega))) _ (by (simp only [go_sem]; rfl)) ?_
            | (refine ev_step _ (by (simp only [go_sem]; rfl)) (by (first | trivial | decide | (simp only [inB, sliceOk, appendOk, rowsOk]; omega) | (simp [inB, sliceOk, appendOk, rowsOk]; omega))) _ (fun g u => by (simp only [go_sem]; rfl)) ?_; intro g u; (try clear u); (try clear g))
            | fail
          refine ev_nil ?_
          refine awq_of (Q := fun e s => e = .normal ∧ Wk ⟨Try.prog, w1, C1, M1, none, []⟩ s (uniS l ga gb a2 b2)) ?_ ?_
          · repeat' first
              | refine awp_seq ?_
              | refine awp_block ?_
              | refine awp_skip ?_
              | (refine reg _ (by (simp only [List.map_cons, List.map_nil]; rfl)) rfl ?_; intro K hK)
              | (refine awp_cond _ (by rfl) ?_ ?_ <;> (intro hb; first | (cases hb; done) | (have ht : true = true := hb; clear ht hb) | (have ht : false = false := hb; clear ht hb) | (simp only [hb]) | skip))
              | (refine awp_exit ?_; simp only [thenA, blockA, reduceIte, RetQ, Nat.reduceEqDiff])
              | (refine awp_ret ?_; simp only [thenA, blockA, RetQ])
              | (refine ev_nil (hK _ ?_); clear hK K)
              | refine ev_guardU _ (by (simp only [go_sem]; rfl)) (by (simp only [go_sem]; rfl)) _ (by (simp only [go_sem]; rfl)) ?_
              | (refine ev_guardT _ _ (by (simp only [go_sem]; rfl)) (by (simp only [go_sem]; rfl)) ?_ ?_ <;> (intro hb; first | (cases hb; done) | (have ht : true = true := hb; clear ht hb) | (have ht : false = false := hb; clear ht hb) | (simp only [hb]) | skip))
              | (refine ev_guardF _ _ (by (simp only [go_sem]; rfl)) (by (simp only [go_sem]; rfl)) ?_ ?_ <;> (intro hb; first | (cases hb; done) | (have ht : true = true := hb; clear ht hb) | (have ht : false = false := hb; clear ht hb) | (simp only [hb]) | skip))
              | refine ev_step0 _ _ (by (simp only [go_sem]; rfl)) (by (first | trivial | decide | (simp only [inB, sliceOk, appendOk, rowsOk]; omega) | (simp [inB, sliceOk, appendOk, rowsOk]; omega))) _ (by (simp only [go_sem]; rfl)) ?_
              | (refine ev_step _ (by (simp only [go_sem]; rfl)) (by (first | trivial | decide | (simp only [inB, sliceOk, appendOk, rowsOk]; omega) | (simp [inB, sliceOk, appendOk, rowsOk]; omega))) _ (fun g u => by (simp only [go_sem]; rfl)) ?_; intro g u; (try clear u); (try clear g))
              | fail
            refine ⟨rfl, ?_⟩
            refine Wk.mk ?_ ?_
            all_goals (repeat' first | exact trivial | exact LeA.refl _ | exact LeA.any _ | exact LeO.refl _ | exact LeO.no _ | exact LeA.nil _ | (refine LeA.i ?_; (first | rfl | (push_cast; rfl) | (rw [wrap_id (by omega)]; push_cast; omega) | (simp [wrap_id]; omega))) | refine ⟨?_, ?_⟩)
          · rintro e s a w ⟨rfl, hw⟩ hs
            exact hfin s a w hs hw
        | false =>
          have e2 : offHd y (x :: r) = x :: r := by simp [offHd, hq]
          rw [e2] at hf
          simp only [nmEq, Bool.and_true] at hq
          repeat' first
            | ((fail_if_success show AWq _ (Code.seq (Code.region 9 _ _) _) _ _); refine awq_seq ?_)
            | refine awq_block ?_
            | refine awp_seq ?_
            | refine awp_block ?_
            | refine awp_skip ?_
            | (refine reg _ (by (simp only [List.map_cons, List.map_nil]; rfl)) rfl ?_; intro K hK)
            | (refine awp_cond _ (by rfl) ?_ ?_ <;> (intro hb; first | (cases hb; done) | (have ht : true = true := hb; clear ht hb) | (have ht : false = false := hb; clear ht hb) | (simp only [hb]) | skip))
            | (refine awp_exit ?_; simp only [thenA, blockA, reduceIte, RetQ, Nat.reduceEqDiff])
            | (refine awp_ret ?_; simp only [thenA, blockA, RetQ])
            | (refine ev_nil (hK _ ?_); clear hK K)
            | refine ev_guardU _ (by (simp only [go_sem, h1, h2, h3, h4, h5, hq, beq_self_eq_true, List.take_length]; rfl)) (by (simp only [go_sem, h1, h2, h3, h4, h5, hq, beq_self_eq_true, List.take_length]; rfl)) _ (by (simp only [go_sem, h1, h2, h3, h4, h5, hq, beq_self_eq_true, List.take_length]; rfl)) ?_
            | (refine ev_guardT _ _ (by (simp only [go_sem, h1, h2, h3, h4, h5, hq, beq_self_eq_true, List.take_length]; rfl)) (by (simp only [go_sem, h1, h2, h3, h4, h5, hq, beq_self_eq_true, List.take_length]; rfl)) ?_ ?_ <;> (intro hb; first | (cases hb; done) | (have ht : true = true := hb; clear ht hb) | (have ht : false = false := hb; clear ht hb) | (simp only [hb]) | skip))
            | (refine ev_guardF _ _ (by (simp only [go_sem, h1, h2, h3, h4, h5, hq, beq_self_eq_true, List.take_length]; rfl)) (by (simp only [go_sem, h1, h2, h3, h4, h5, hq, beq_self_eq_true, List.take_length]; rfl)) ?_ ?_ <;> (intro hb; first | (cases hb; done) | (have ht : true = true := hb; clear ht hb) | (have ht : false = false := hb; clear ht hb) | (simp only [hb]) | skip))
            | refine ev_call0 _ _ (by (simp only [go_sem, h1, h2, h3, h4, h5, hq, beq_self_eq_true, List.take_length]; rfl)) (by first | exact f47_spec ..) (by (simp only [go_sem, h1, h2, h3, h4, h5, hq, beq_self_eq_true, List.take_length])) _ (by (simp only [go_sem, h1, h2, h3, h4, h5, hq, beq_self_eq_true, List.take_length]; rfl)) ?_
            | refine ev_callC _ _ _ _ (by (simp only [go_sem, h1, h2, h3, h4, h5, hq, beq_self_eq_true, List.take_length]; rfl)) (by (simp only [go_sem, h1, h2, h3, h4, h5, hq, beq_self_eq_true, List.take_length]; rfl)) (by first | exact f47_spec ..) (by (simp only [go_sem, h1, h2, h3, h4, h5, hq, beq_self_eq_true, List.take_length])) _ (by (simp only [go_sem, h1, h2, h3, h4, h5, hq, beq_self_eq_true, List.take_length]; rfl)) ?_
            | (apply regD; (case hd => (simp only [List.map_cons, List.map_nil]; rfl)); (case hok => rfl); (case' h => (intro K hK; (repeat' first
        | (apply evd_nil; refine (hK _ ?_); clear hK K)
        | (apply evd_guardU0; (case hj => (simp only [go_sem, h1, h2, h3, h4, h5, hq, beq_self_eq_true, List.take_length]; try rfl)); (case hu => (simp only [go_sem, h1, h2, h3, h4, h5, hq, beq_self_eq_true, List.take_length])); (case hσ => (simp only [go_sem, h1, h2, h3, h4, h5, hq, beq_self_eq_true, List.take_length]; try rfl)))
        | (apply evd_skipT0; (case hj => (simp only [go_sem, h1, h2, h3, h4, h5, hq, beq_self_eq_true, List.take_length]; try rfl)); (case hb => (simp only [go_sem, h1, h2, h3, h4, h5, hq, beq_self_eq_true, List.take_length]; try rfl)); (case hσ => (simp only [go_sem, h1, h2, h3, h4, h5, hq, beq_self_eq_true, List.take_length]; try rfl)))
        | (apply evd_skipF0; (case hj => (simp only [go_sem, h1, h2, h3, h4, h5, hq, beq_self_eq_true, List.take_length]; try rfl)); (case hb => (simp only [go_sem, h1, h2, h3, h4, h5, hq, beq_self_eq_true, List.take_length]; try rfl)); (case hσ => (simp only [go_sem, h1, h2, h3, h4, h5, hq, beq_self_eq_true, List.take_length]; try rfl)))
        | (apply evd_guardU; (case hj => (simp only [go_sem, h1, h2, h3, h4, h5, hq, beq_self_eq_true, List.take_length]; try rfl)); (case hu => (simp only [go_sem, h1, h2, h3, h4, h5, hq, beq_self_eq_true, List.take_length])); (case hσ => (simp only [go_sem, h1, h2, h3, h4, h5, hq, beq_self_eq_true, List.take_length]; try rfl)))
        | (apply evd_skipT; (case hj => (simp only [go_sem, h1, h2, h3, h4, h5, hq, beq_self_eq_true, List.take_length]; try rfl)); (case hb => (simp only [go_sem, h1, h2, h3, h4, h5, hq, beq_self_eq_true, List.take_length]; try rfl)); (case hσ => (simp only [go_sem, h1, h2, h3, h4, h5, hq, beq_self_eq_true, List.take_length]; try rfl)))
        | (apply evd_skipF; (case hj => (simp only [go_sem, h1, h2, h3, h4, h5, hq, beq_self_eq_true, List.take_length]; try rfl)); (case hb => (simp only [go_sem, h1, h2, h3, h4, h5, hq, beq_self_eq_true, List.take_length]; try rfl)); (case hσ => (simp only [go_sem, h1, h2, h3, h4, h5, hq, beq_self_eq_true, List.take_length]; try rfl)))
        | (apply evd_guardT; (case hj => (simp only [go_sem, h1, h2, h3, h4, h5, hq, beq_self_eq_true, List.take_length]; try rfl)); (case hb => (simp only [go_sem, h1, h2, h3, h4, h5, hq, beq_self_eq_true, List.take_length]; try rfl)); (case' h2 => (intro hb; first | (cases hb; done) | (simp only [hb]) | skip)); (case' h1 => (intro hb; first | (cases hb; done) | (simp only [hb]) | skip)))
        | (apply evd_guardF; (case hj => (simp only [go_sem, h1, h2, h3, h4, h5, hq, beq_self_eq_true, List.take_length]; try rfl)); (case hb => (simp only [go_sem, h1, h2, h3, h4, h5, hq, beq_self_eq_true, List.take_length]; try rfl)); (case' h2 => (intro hb; first | (cases hb; done) | (simp only [hb]) | skip)); (case' h1 => (intro hb; first | (cases hb; done) | (simp only [hb]) | skip)))
        | (apply evd_call0; (case hi => (simp only [go_sem, h1, h2, h3, h4, h5, hq, beq_self_eq_true, List.take_length]; try rfl)); (case hys => (simp only [go_sem, h1, h2, h3, h4, h5, hq, beq_self_eq_true, List.take_length]; try rfl)); (case hs => first | exact f47_spec ..); (case hok => (simp only [go_sem, h1, h2, h3, h4, h5, hq, beq_self_eq_true, List.take_length])); (case hw => (simp only [go_sem, h1, h2, h3, h4, h5, hq, beq_self_eq_true, List.take_length]; try rfl)); (case hσ => (simp only [go_sem, h1, h2, h3, h4, h5, hq, beq_self_eq_true, List.take_length]; try rfl)))
        | (apply evd_callC; (case hf => (simp only [go_sem, h1, h2, h3, h4, h5, hq, beq_self_eq_true, List.take_length]; try rfl)); (case hi => (simp only [go_sem, h1, h2, h3, h4, h5, hq, beq_self_eq_true, List.take_length]; try rfl)); (case hys => (simp only [go_sem, h1, h2, h3, h4, h5, hq, beq_self_eq_true, List.take_length]; try rfl)); (case hs => first | exact f47_spec ..); (case hok => (simp only [go_sem, h1, h2, h3, h4, h5, hq, beq_self_eq_true, List.take_length])); (case hw => (simp only [go_sem, h1, h2, h3, h4, h5, hq, beq_self_eq_true, List.take_length]; try rfl)); (case hσ => (simp only [go_sem, h1, h2, h3, h4, h5, hq, beq_self_eq_true, List.take_length]; try rfl)))
        | (apply evd_step0; (case hr => (simp only [go_sem, h1, h2, h3, h4, h5, hq, beq_self_eq_true, List.take_length]; try rfl)); (case hi => (simp only [go_sem, h1, h2, h3, h4, h5, hq, beq_self_eq_true, List.take_length]; try rfl)); (case hc => (first | trivial | decide | (simp only [inB, sliceOk, appendOk, rowsOk]; omega) | (simp [inB, sliceOk, appendOk, rowsOk]; omega))); (case hσ => (simp only [go_sem, h1, h2, h3, h4, h5, hq, beq_self_eq_true, List.take_length]; try rfl)))
        | (apply evd_step; (case hr => (simp only [go_sem, h1, h2, h3, h4, h5, hq, beq_self_eq_true, List.take_length]; try rfl)); (case hi => (simp only [go_sem, h1, h2, h3, h4, h5, hq, beq_self_eq_true, List.take_length]; try rfl)); (case hc => (first | trivial | decide | (simp only [inB, sliceOk, appendOk, rowsOk]; omega) | (simp [inB, sliceOk, appendOk, rowsOk]; omega))); (case hw => (intro g u; simp only [go_sem, h1, h2, h3, h4, h5, hq, beq_self_eq_true, List.take_length]; try rfl)); (case hσ => (intro g u; simp only [go_sem, h1, h2, h3, h4, h5, hq, beq_self_eq_true, List.take_length]; try rfl)); (case' hk => (intro g u; (try clear u); (try clear g))))
        | fail))); (case hB => kernel_rfl))
            | refine ev_step0 _ _ (by (simp only [go_sem, h1, h2, h3, h4, h5, hq, beq_self_eq_true, List.take_length]; rfl)) (by (first | trivial | decide | (simp only [inB, sliceOk, appendOk, rowsOk]; omega) | (simp [inB, sliceOk, appendOk, rowsOk]; omega))) _ (by (simp only [go_sem, h1, h2, h3, h4, h5, hq, beq_self_eq_true, List.take_length]; rfl)) ?_
            | (refine ev_step _ (by (simp only [go_sem, h1, h2, h3, h4, h5, hq, beq_self_eq_true, List.take_length]; rfl)) (by (first | trivial | decide | (simp only [inB, sliceOk, appendOk, rowsOk]; omega) | (simp [inB, sliceOk, appendOk, rowsOk]; omega))) _ (fun g u => by (simp only [go_sem, h1, h2, h3, h4, h5, hq, beq_self_eq_true, List.take_length]; rfl)) ?_; intro g u; (try clear u); (try clear g))
            | fail
          refine uni_mid l ga gb _ _ _ rfl hf ?_ ?_
          · refine Wk.mk ?_ ?_
            all_goals (repeat' first | exact trivial | exact LeA.refl _ | exact LeA.any _ | exact LeO.refl _ | exact LeO.no _ | exact LeA.nil _ | (refine LeA.i ?_; (first | rfl | (push_cast; rfl) | (rw [wrap_id (by omega)]; push_cast; omega) | (simp [wrap_id]; omega))) | refine ⟨?_, ?_⟩)
          intro g n a2 b2 hf2
          refine awq_yield (E := ⟨Try.prog, A, C', two ga gb, none, []⟩) T_ok (ly := l) (pre := [_, _]) (post := [_]) rfl rfl rfl ?_
          repeat' first
            | refine awp_seq ?_
            | refine awp_block ?_
            | refine awp_skip ?_
            | (refine reg _ (by (simp only [List.map_cons, List.map_nil]; rfl)) rfl ?_; intro K hK)
            | (refine awp_cond _ (by rfl) ?_ ?_ <;> (intro hb; first | (cases hb; done) | (have ht : true = true := hb; clear ht hb) | (have ht : false = false := hb; clear ht hb) | (simp only [hb]) | skip))
            | (refine awp_exit ?_; simp only [thenA, blockA, reduceIte, RetQ, Nat.reduceEqDiff])
            | (refine awp_ret ?_; simp only [thenA, blockA, RetQ])
            | (refine ev_nil (hK _ ?_); clear hK K)
            | refine ev_guardU _ (by (simp only [go_sem]; rfl)) (by (simp only [go_sem]; rfl)) _ (by (simp only [go_sem]; rfl)) ?_
            | (refine ev_guardT _ _ (by (simp only [go_sem]; rfl)) (by (simp only [go_sem]; rfl)) ?_ ?_ <;> (intro hb; first | (cases hb; done) | (have ht : true = true := hb; clear ht hb) | (have ht : false = false := hb; clear ht hb) | (simp only [hb]) | skip))
            | (refine ev_guardF _ _ (by (simp only [go_sem]; rfl)) (by (simp only [go_sem]; rfl)) ?_ ?_ <;> (intro hb; first | (cases hb; done) | (have ht : true = true := hb; clear ht hb) | (have ht : false = false := hb; clear ht hb) | (simp only [hb]) | skip))
            | refine ev_step0 _ _ (by (simp only [go_sem]; rfl)) (by (first | trivial | decide | (simp only [inB, sliceOk, appendOk, rowsOk]; omega) | (simp [inB, sliceOk, appendOk, rowsOk]; omega))) _ (by (simp only [go_sem]; rfl)) ?_
            | (refine ev_step _ (by (simp only [go_sem]; rfl)) (by (first | trivial | decide | (simp only [inB, sliceOk, appendOk, rowsOk]; omega) | (simp [inB, sliceOk, appendOk, rowsOk]; omega))) _ (fun g u => by (simp only [go_sem]; rfl)) ?_; intro g u; (try clear u); (try clear g))
            | fail
          refine ev_nil ?_
          refine ⟨rfl, fun act2 B hB => ?_⟩
          obtain ⟨R, hR1, hR2⟩ := uni_next (g := g) hst (fun pre O A hJ b hb => ⟨(hO pre O A hJ b hb).1, (hO pre O A hJ b hb).2.1⟩) hy hxs hf2 hJ hdis hB
          refine ⟨R, hR1, fun e w' he => ?_⟩
          obtain ⟨v, ⟨P', w1, C1, M1, rd1, df1⟩, rfl, hP, hrd, hdf, hs', hfin⟩ := hR2 e w' he
          simp only at hP hrd hdf
          subst hP; subst hrd; subst hdf
          refine ⟨v, ⟨_, w1, C1, M1, none, []⟩, uniV l ga gb a2 b2, rfl, rfl, rfl, hs', ?_⟩
          repeat' first
            | refine awp_seq ?_
            | refine awp_block ?_
            | refine awp_skip ?_
            | (refine reg _ (by (simp only [List.map_cons, List.map_nil]; rfl)) rfl ?_; intro K hK)
            | (refine awp_cond _ (by rfl) ?_ ?_ <;> (intro hb; first | (cases hb; done) | (have ht : true = true := hb; clear ht hb) | (have ht : false = false := hb; clear ht hb) | (simp only [hb]) | skip))
            | (refine awp_exit ?_; simp only [thenA, blockA, reduceIte, RetQ, Nat.reduceEqDiff])
            | (refine awp_ret ?_; simp only [thenA, blockA, RetQ])
            | (refine ev_nil (hK _ ?_); clear hK K)
            | refine ev_guardU _ (by (simp only [go_sem]; rfl)) (by (simp only [go_sem]; rfl)) _ (by (simp only [go_sem]; rfl)) ?_
            | (refine ev_guardT _ _ (by (simp only [go_sem]; rfl)) (by (simp only [go_sem]; rfl)) ?_ ?_ <;> (intro hb; first | (cases hb; done) | (have ht : true = true := hb; clear ht hb) | (have ht : false = false := hb; clear ht hb) | (simp only [hb]) | skip))
            | (refine ev_guardF _ _ (by (simp only [go_sem]; rfl)) (by (simp only [go_sem]; rfl)) ?_ ?_ <;> (intro hb; first | (cases hb; done) | (have ht : true = true := hb; clear ht hb) | (have ht : false = false := hb; clear ht hb) | (simp only [hb]) | skip))
            | refine ev_step0 _ _ (by (simp only [go_sem]; rfl)) (by (first | trivial | decide | (simp only [inB, sliceOk, appendOk, rowsOk]; omega) | (simp [inB, sliceOk, appendOk, rowsOk]; omega))) _ (by (simp only [go_sem]; rfl)) ?_
            | (refine ev_step _ (by (simp only [go_sem]; rfl)) (by (first | trivial | decide | (simp only [inB, sliceOk, appendOk, rowsOk]; omega) | (simp [inB, sliceOk, appendOk, rowsOk]; omega))) _ (fun g u => by (simp only [go_sem]; rfl)) ?_; intro g u; (try clear u); (try clear g))
            | fail
          refine ev_nil ?_
          refine awq_of (Q := fun e s => e = .normal ∧ Wk ⟨Try.prog, w1, C1, M1, none, []⟩ s (uniS l ga gb a2 b2)) ?_ ?_
          · repeat' first
              | refine awp_seq ?_
              | refine awp_block ?_
              | refine awp_skip ?_
              | (refine reg _ (by (simp only [List.map_cons, List.map_nil]; rfl)) rfl ?_; intro K hK)
              | (refine awp_cond _ (by rfl) ?_ ?_ <;> (intro hb; first | (cases hb; done) | (have ht : true = true := hb; clear ht hb) | (have ht : false = false := hb; clear ht hb) | (simp only [hb]) | skip))
              | (refine awp_exit ?_; simp only [thenA, blockA, reduceIte, RetQ, Nat.reduceEqDiff])
              | (refine awp_ret ?_; simp only [thenA, blockA, RetQ])
              | (refine ev_nil (hK _ ?_); clear hK K)
              | refine ev_guardU _ (by (simp only [go_sem]; rfl)) (by (simp only [go_sem]; rfl)) _ (by (simp only [go_sem]; rfl)) ?_
              | (refine ev_guardT _ _ (by (simp only [go_sem]; rfl)) (by (simp only [go_sem]; rfl)) ?_ ?_ <;> (intro hb; first | (cases hb; done) | (have ht : true = true := hb; clear ht hb) | (have ht : false = false := hb; clear ht hb) | (simp only [hb]) | skip))
              | (refine ev_guardF _ _ (by (simp only [go_sem]; rfl)) (by (simp only [go_sem]; rfl)) ?_ ?_ <;> (intro hb; first | (cases hb; done) | (have ht : true = true := hb; clear ht hb) | (have ht : false = false := hb; clear ht hb) | (simp only [hb]) | skip))
              | refine ev_step0 _ _ (by (simp only [go_sem]; rfl)) (by (first | trivial | decide | (simp only [inB, sliceOk, appendOk, rowsOk]; omega) | (simp [inB, sliceOk, appendOk, rowsOk]; omega))) _ (by (simp only [go_sem]; rfl)) ?_
              | (refine ev_step _ (by (simp only [go_sem]; rfl)) (by (first | trivial | decide | (simp only [inB, sliceOk, appendOk, rowsOk]; omega) | (simp [inB, sliceOk, appendOk, rowsOk]; omega))) _ (fun g u => by (simp only [go_sem]; rfl)) ?_; intro g u; (try clear u); (try clear g))
              | fail
            refine ⟨rfl, ?_⟩
            refine Wk.mk ?_ ?_
            all_goals (repeat' first | exact trivial | exact LeA.refl _ | exact LeA.any _ | exact LeO.refl _ | exact LeO.no _ | exact LeA.nil _ | (refine LeA.i ?_; (first | rfl | (push_cast; rfl) | (rw [wrap_id (by omega)]; push_cast; omega) | (simp [wrap_id]; omega))) | refine ⟨?_, ?_⟩)
          · rintro e s a w ⟨rfl, hw⟩ hs
            exact hfin s a w hs hw
end
section
set_option linter.unusedVariables false
set_option linter.unusedSimpArgs false
open Go.RowKit
attribute [local irreducible] AWp evOps evD AWq
/-- What union hands back: a function that has two variables of its own. -/
def UniAt (C : Nat → Prop) (w w' : World) (a b : List Nm) (v : Value) : Prop :=
  ∃ (ga gb : Nat) (ta tb : TypeId) (va vb : Value) (C' : Nat → Prop), v = .func (.func 69) #[] #[.pointer (some ⟨ga, 0, none⟩), .pointer (some ⟨gb, 0, none⟩)] ∧
    Below w.heap.size w w' ∧ (w.heap.size ≤ ga ∧ ga < w'.heap.size) ∧ (w.heap.size ≤ gb ∧ gb < w'.heap.size) ∧ ga ≠ gb ∧
    w'.heap[ga]? = some (.cells #[va] ta (0, 0)) ∧ w'.heap[gb]? = some (.cells #[vb] tb (0, 0)) ∧ (∀ x, C x → C' x) ∧ (∀ x, C' x → (C x ∨ w.heap.size ≤ x) ∧ x < w'.heap.size ∧ ¬ two ga gb x) ∧
    Rep ⟨w'.heap, C'⟩ (nms a) va ∧ Rep ⟨w'.heap, C'⟩ (nms b) vb
theorem f55_calls (a b : List Nm) (w : World) (C : Nat → Prop) (hC : ∀ x, C x → x < w.heap.size) (vs : List Value) (hv : HasL ⟨w.heap, C⟩ [.d (nms a), .d (nms b)] vs) :
    Calls Try.prog 55 vs.toArray w fun e w' => ∃ v, e = .returned v ∧ UniAt C w w' a b v := by
  refine calls_of_wp (fn := Try.f55) Try.func55 rfl ?_
  have hs := sat_start (P := Try.prog) (n := 6) (holds := []) (M := fun _ => False) (fun x hx => ⟨hC x hx, fun h => h⟩) hv (by intro i x h; simp at h) (by intro i j x y g h; simp at h)
  refine (wpIn_wide (n := 0)).1 ?_
  refine awq_go (E := ⟨Try.prog, w, C, fun _ => False, none, []⟩) rfl hs ?_
  simp only [litI, litB, litS, List.length_cons, List.length_nil, Nat.reduceAdd, Nat.reduceSub, List.replicate_succ, List.replicate_zero, List.cons_append, List.nil_append]
  repeat' first
    | (refine awq_seq ?_)
    | refine awq_block ?_
    | refine awp_seq ?_
    | refine awp_block ?_
    | refine awp_skip ?_
    | (refine reg _ (by (simp only [List.map_cons, List.map_nil]; rfl)) rfl ?_; intro K hK)
    | (refine awp_cond _ (by rfl) ?_ ?_ <;> (intro hb; first | (cases hb; done) | (have ht : true = true := hb; clear ht hb) | (have ht : false = false := hb; clear ht hb) | (simp only [hb]) | skip))
    | (refine awp_exit ?_; simp only [thenA, blockA, reduceIte, RetQ, Nat.reduceEqDiff])
    | (refine awp_ret ?_; simp only [thenA, blockA, RetQ])
    | (refine ev_nil (hK _ ?_); clear hK K)
    | refine ev_guardU _ (by (simp only [go_sem]; rfl)) (by (simp only [go_sem]; rfl)) _ (by (simp only [go_sem]; rfl)) ?_
    | (refine ev_guardT _ _ (by (simp only [go_sem]; rfl)) (by (simp only [go_sem]; rfl)) ?_ ?_ <;> (intro hb; first | (cases hb; done) | (have ht : true = true := hb; clear ht hb) | (have ht : false = false := hb; clear ht hb) | (simp only [hb]) | skip))
    | (refine ev_guardF _ _ (by (simp only [go_sem]; rfl)) (by (simp only [go_sem]; rfl)) ?_ ?_ <;> (intro hb; first | (cases hb; done) | (have ht : true = true := hb; clear ht hb) | (have ht : false = false := hb; clear ht hb) | (simp only [hb]) | skip))
    | refine ev_step0 _ _ (by (simp only [go_sem]; rfl)) (by (first | trivial | decide | (simp only [inB, sliceOk, appendOk, rowsOk]; omega) | (simp [inB, sliceOk, appendOk, rowsOk]; omega))) _ (by (simp only [go_sem]; rfl)) ?_
    | (refine ev_step _ (by (simp only [go_sem]; rfl)) (by (first | trivial | decide | (simp only [inB, sliceOk, appendOk, rowsOk]; omega) | (simp [inB, sliceOk, appendOk, rowsOk]; omega))) _ (fun g u => by (simp only [go_sem]; rfl)) ?_; intro g u; (try clear u); (try clear g))
    | fail
  rename_i g1
  refine awq_of (Q := fun e s => e = .ret ∧ s = ⟨[.d (nms a), .d (nms b), .ptr 2 g1 0, .ptr 3 g 0, .clo (.func 69) [.ptr 2 g1 0, .ptr 3 g 0], .clo (.func 69) [.ptr 2 g1 0, .ptr 3 g 0]], [.no, .no, .box g1 [.d (nms a)], .box g [.d (nms b)], .no, .no]⟩) (awp_ret ⟨rfl, rfl⟩) ?_
  rintro e s a' w' ⟨rfl, rfl⟩ hs'
  have ho1 := hs'.own 2 _ g1 rfl rfl
  have ho2 := hs'.own 3 _ g rfl rfl
  have hne : g1 ≠ g := fun h => by
    subst h
    exact absurd (hs'.inj 2 3 _ _ g1 rfl rfl rfl rfl) (by decide)
  obtain ⟨ta, us, h1, h2, _⟩ := hs'.o 2 _ rfl
  obtain ⟨tb, ws, h3, h4, _⟩ := hs'.o 3 _ rfl
  match us, ws, h2, h4 with
  | [va], [vb], h2, h4 =>
  simp only [HasL, Has] at h2 h4
  obtain ⟨x, hx, hh⟩ := hs'.t.get 4 _ rfl
  simp only [Has] at hh
  obtain ⟨ps, rfl, hps⟩ := hh
  match ps, hps with
  | [p1, p2], hps =>
  simp only [HasL, Has] at hps
  obtain ⟨rfl, rfl, _⟩ := hps
  refine ⟨hs'.defers, _, results_tmp (t := 4) rfl _ _ _, _, rfl, g1, g, ta, tb, va, vb, _, ?_, ⟨hs'.fr.os, hs'.fr.tape, hs'.fr.output, hs'.fr.size, fun k hk => hs'.fr.block k hk (fun h => h)⟩, ⟨ho1.1.resolve_right (fun h => h), ho1.2⟩, ⟨ho2.1.resolve_right (fun h => h), ho2.2⟩, hne, h1, h3, fun y hy => .inl hy, fun y hy => ⟨?_, hs'.lt_C hy, ?_⟩, h2.1, h4.1⟩
  · rw [Array.getElem?_toList] at hx
    rw [Array.getD_eq_getD_getElem?, hx]; rfl
  · rcases hy with hy | hy
    · exact .inl hy
    · exact .inr (hy.1.resolve_right (fun h => h))
  · rintro (rfl | rfl)
    · exact hs'.not_own hy (i := 2) rfl rfl
    · exact hs'.not_own hy (i := 3) rfl rfl
theorem f68_calls (xs : List Nm) (hlen : xs.length ≤ 16777216) {w : World} {C : Nat → Prop} {ga gb : Nat} (hC : ∀ x, C x → x < w.heap.size ∧ ¬ two ga gb x) (hne : ga ≠ gb) (hga : ga < w.heap.size) (hgb : gb < w.heap.size)
    (hit : IterC Try.prog 69 #[.pointer (some ⟨ga, 0, none⟩), .pointer (some ⟨gb, 0, none⟩)] (two ga gb) C encN xs w) :
    Calls Try.prog 68 #[.slice none 0 0, .func (.func 69) #[] #[.pointer (some ⟨ga, 0, none⟩), .pointer (some ⟨gb, 0, none⟩)]] w fun e w' => ∃ v, e = .returned v ∧ Fr (two ga gb) w w' ∧
      Has ⟨w'.heap, fun b => C b ∨ ((w.heap.size ≤ b ∨ two ga gb b) ∧ b < w'.heap.size)⟩ (.d (nms xs)) v := by
  obtain ⟨xa0, hxa⟩ : ∃ x, w.heap[ga]? = some x := ⟨_, Array.getElem?_eq_getElem hga⟩
  obtain ⟨xb0, hxb⟩ : ∃ x, w.heap[gb]? = some x := ⟨_, Array.getElem?_eq_getElem hgb⟩
  refine (callsIn_wide (n := 0)).1 (callsIn_of_wp_marks (fn := Try.f68) Try.func68 rfl trivial ?_)
  have hs := sat_start (P := Try.prog) (n := 13) (holds := tl2 ga gb xa0 xb0) (M := two ga gb) (args := [.d (.lit (.slice none 0 0)), .d (.lit (.func (.func 69) #[] #[.pointer (some ⟨ga, 0, none⟩), .pointer (some ⟨gb, 0, none⟩)]))])
    (vs := [.slice none 0 0, .func (.func 69) #[] #[.pointer (some ⟨ga, 0, none⟩), .pointer (some ⟨gb, 0, none⟩)]]) hC (by simp only [HasL, Has, Rep]; exact ⟨⟨trivial, rfl⟩, ⟨trivial, rfl⟩, trivial⟩)
    (by
      intro i x hx
      match i, hx with
      | 0, hx => simp [tl2] at hx; subst hx; exact ⟨ga, rfl, .inl rfl, hga, hxa⟩
      | 1, hx => simp [tl2] at hx; subst hx; exact ⟨gb, rfl, .inr rfl, hgb, hxb⟩
      | i + 2, hx => simp [tl2] at hx)
    (by
      intro i j x y g hx hy h1 h2
      match i, j, hx, hy with
      | 0, 0, _, _ => rfl
      | 1, 1, _, _ => rfl
      | 0, 1, hx, hy => simp [tl2] at hx hy; subst hx; subst hy; simp [AObj.blk] at h1 h2; omega
      | 1, 0, hx, hy => simp [tl2] at hx hy; subst hx; subst hy; simp [AObj.blk] at h1 h2; omega
      | i + 2, _, hx, _ => simp [tl2] at hx
      | 0, j + 2, _, hy => simp [tl2] at hy
      | 1, j + 2, _, hy => simp [tl2] at hy)
  refine awq_go (E := ⟨Try.prog, w, C, two ga gb, none, []⟩) rfl hs ?_
  simp only [tl2, litI, litB, litS, List.length_cons, List.length_nil, Nat.reduceAdd, Nat.reduceSub, List.replicate_succ, List.replicate_zero, List.cons_append, List.nil_append]
  repeat' first
    | (show AWq _ (Code.seq (Code.seq _ (Code.block _ (Code.rangeFunc _ _ _ _))) _) _ _; refine awq_seqq ?_)
    | (show AWq _ (Code.seq (Code.block _ (Code.rangeFunc _ _ _ _)) _) _ _; refine awq_seqq ?_)
    | (refine awq_seq ?_)
    | refine awq_block ?_
    | refine awp_seq ?_
    | refine awp_block ?_
    | refine awp_skip ?_
    | (refine reg _ (by (simp only [List.map_cons, List.map_nil]; rfl)) rfl ?_; intro K hK)
    | (refine awp_cond _ (by rfl) ?_ ?_ <;> (intro hb; first | (cases hb; done) | (have ht : true = true := hb; clear ht hb) | (have ht : false = false := hb; clear ht hb) | (simp only [hb]) | skip))
    | (refine awp_exit ?_; simp only [thenA, blockA, reduceIte, RetQ, Nat.reduceEqDiff])
    | (refine awp_ret ?_; simp only [thenA, blockA, RetQ])
    | (refine ev_nil (hK _ ?_); clear hK K)
    | refine ev_guardU _ (by (simp only [go_sem]; rfl)) (by (simp only [go_sem]; rfl)) _ (by (simp only [go_sem]; rfl)) ?_
    | (refine ev_guardT _ _ (by (simp only [go_sem]; rfl)) (by (simp only [go_sem]; rfl)) ?_ ?_ <;> (intro hb; first | (cases hb; done) | (have ht : true = true := hb; clear ht hb) | (have ht : false = false := hb; clear ht hb) | (simp only [hb]) | skip))
    | (refine ev_guardF _ _ (by (simp only [go_sem]; rfl)) (by (simp only [go_sem]; rfl)) ?_ ?_ <;> (intro hb; first | (cases hb; done) | (have ht : true = true := hb; clear ht hb) | (have ht : false = false := hb; clear ht hb) | (simp only [hb]) | skip))
    | refine ev_step0 _ _ (by (simp only [go_sem]; rfl)) (by (first | trivial | decide | (simp only [inB, sliceOk, appendOk, rowsOk]; omega) | (simp [inB, sliceOk, appendOk, rowsOk]; omega))) _ (by (simp only [go_sem]; rfl)) ?_
    | (refine ev_step _ (by (simp only [go_sem]; rfl)) (by (first | trivial | decide | (simp only [inB, sliceOk, appendOk, rowsOk]; omega) | (simp [inB, sliceOk, appendOk, rowsOk]; omega))) _ (fun g u => by (simp only [go_sem]; rfl)) ?_; intro g u; (try clear u); (try clear g))
    | fail
  refine awq_wk (σ' := ⟨[.any, .any, .ptr 2 g 0, .any, .any, .any, .d (.lit (.func (.func 69) #[] #[.pointer (some ⟨ga, 0, none⟩), .pointer (some ⟨gb, 0, none⟩)])), .any, .any, .any, .any, .any, .any], [.no, .no, .box g [.own 11 (.slice none 0 0)], .no, .no, .no, .no, .no, .no, .no, .no, .row (.slice none 0 0) 25 2 [], .no, .hold ga xa0, .hold gb xb0]⟩) ?_ ?_
  · refine (Wk.box 2 (g := g) (cs := [.d (.lit (.slice none 0 0))]) (cs' := [.own 11 (.slice none 0 0)]) rfl ⟨LeA.lit_own _ _, trivial⟩).trans ?_
    simp only [List.set_cons_succ, List.set_cons_zero]
    refine Wk.mk ?_ ?_
    · all_goals (repeat' first | exact trivial | exact LeA.refl _ | exact LeA.any _ | refine ⟨?_, ?_⟩)
    · all_goals (repeat' first | exact trivial | exact LeO.refl _ | exact LeO.nil _ _ _ | exact LeO.no _ | refine ⟨?_, ?_⟩)
  refine awq_rangeFunc (gf := 69) (lb := #[.pointer (some ⟨ga, 0, none⟩), .pointer (some ⟨gb, 0, none⟩)]) (av := fun n : Nm => .agg (nm n.1 n.2)) (enc := encN) (xs := xs) (base0 := [.no, .no, .box g [.own 11 (.slice none 0 0)], .no, .no, .no, .no, .no, .no, .no, .no, .row (.slice none 0 0) 25 2 [], .no]) has_encN rfl rfl ?_ (fun args w => run_callFunc (E := ⟨Try.prog, w, C, two ga gb, none, []⟩) ⟨Try.f69, Try.func69, by kernel_rfl, rfl⟩) ?_
    (fun pre base => ∃ v, base = [.no, .no, .box g [.own 11 v], .no, .no, .no, .no, .no, .no, .no, .no, .row v 25 2 (pre.map fun n => [.lit (.int .i64 n.1), .lit (.int .i64 n.2)]), .no]) ?_ ?_ ?_
  · intro a w hs
    obtain ⟨v, hv, hh⟩ := hs.t.get 6 _ rfl
    have := has_lit hh
    subst this
    simp only [Act.eval]
    rw [Array.getElem?_toList] at hv
    rw [Array.getD_eq_getD_getElem?, hv]; rfl
  · intro a w2 hs
    refine (hit.later ?_).of_le fun b hb => .inl hb
    refine ⟨hs.fr.os, hs.fr.tape, hs.fr.output, hs.fr.size, fun k hk hn => ?_⟩
    by_cases h2 : two ga gb k
    · rcases h2 with rfl | rfl
      · exact (hs.o 13 _ rfl).trans hxa.symm
      · exact (hs.o 14 _ rfl).trans hxb.symm
    · exact hs.fr.block k hk h2
  · exact ⟨_, rfl⟩
  · rintro ⟨P', w1, C1, M1, rd1, df1⟩ l D xa xb L L' pre x base hP hrd ⟨v, rfl⟩ hpre
    simp only at hP
    subst hP
    have hpl := hpre.length_le
    simp only [List.length_append, List.length_cons, List.length_nil, Nat.zero_add] at hpl
    simp only [tl4, litI, litB, litS, List.set_cons_succ, List.set_cons_zero, List.cons_append, List.nil_append]
    repeat' first
      | refine awp_seq ?_
      | refine awp_block ?_
      | refine awp_skip ?_
      | (refine reg _ (by (simp only [List.map_cons, List.map_nil]; rfl)) rfl ?_; intro K hK)
      | (refine awp_cond _ (by rfl) ?_ ?_ <;> (intro hb; first | (cases hb; done) | (have ht : true = true := hb; clear ht hb) | (have ht : false = false := hb; clear ht hb) | (simp only [hb]) | skip))
      | (refine awp_exit ?_; simp only [thenA, blockA, reduceIte, RetQ, Nat.reduceEqDiff])
      | (refine awp_ret ?_; simp only [thenA, blockA, RetQ])
      | (refine ev_nil (hK _ ?_); clear hK K)
      | refine ev_guardU _ (by (simp only [go_sem]; rfl)) (by (simp only [go_sem]; rfl)) _ (by (simp only [go_sem]; rfl)) ?_
      | (refine ev_guardT _ _ (by (simp only [go_sem]; rfl)) (by (simp only [go_sem]; rfl)) ?_ ?_ <;> (intro hb; first | (cases hb; done) | (have ht : true = true := hb; clear ht hb) | (have ht : false = false := hb; clear ht hb) | (simp only [hb]) | skip))
      | (refine ev_guardF _ _ (by (simp only [go_sem]; rfl)) (by (simp only [go_sem]; rfl)) ?_ ?_ <;> (intro hb; first | (cases hb; done) | (have ht : true = true := hb; clear ht hb) | (have ht : false = false := hb; clear ht hb) | (simp only [hb]) | skip))
      | refine ev_step0 _ _ (by (simp only [go_sem]; rfl)) (by (first | trivial | decide | (simp only [inB, sliceOk, appendOk, rowsOk]; omega) | (simp [inB, sliceOk, appendOk, rowsOk]; omega))) _ (by (simp only [go_sem]; rfl)) ?_
      | (refine ev_step _ (by (simp only [go_sem]; rfl)) (by (first | trivial | decide | (simp only [inB, sliceOk, appendOk, rowsOk]; omega) | (simp [inB, sliceOk, appendOk, rowsOk]; omega))) _ (fun g u => by (simp only [go_sem]; rfl)) ?_; intro g u; (try clear u); (try clear g))
      | fail
    refine ⟨_, _, split_base 13 rfl, ?_⟩
    simp only [List.take_succ_cons, List.take_zero, List.cons_append, List.nil_append]
    repeat' first
      | refine awp_seq ?_
      | refine awp_block ?_
      | refine awp_skip ?_
      | (refine reg _ (by (simp only [List.map_cons, List.map_nil]; rfl)) rfl ?_; intro K hK)
      | (refine awp_cond _ (by rfl) ?_ ?_ <;> (intro hb; first | (cases hb; done) | (have ht : true = true := hb; clear ht hb) | (have ht : false = false := hb; clear ht hb) | (simp only [hb]) | skip))
      | (refine awp_exit ?_; simp only [thenA, blockA, reduceIte, RetQ, Nat.reduceEqDiff])
      | (refine awp_ret ?_; simp only [thenA, blockA, RetQ])
      | (refine ev_nil (hK _ ?_); clear hK K)
      | refine ev_guardU _ (by (simp only [go_sem]; rfl)) (by (simp only [go_sem]; rfl)) _ (by (simp only [go_sem]; rfl)) ?_
      | (refine ev_guardT _ _ (by (simp only [go_sem]; rfl)) (by (simp only [go_sem]; rfl)) ?_ ?_ <;> (intro hb; first | (cases hb; done) | (have ht : true = true := hb; clear ht hb) | (have ht : false = false := hb; clear ht hb) | (simp only [hb]) | skip))
      | (refine ev_guardF _ _ (by (simp only [go_sem]; rfl)) (by (simp only [go_sem]; rfl)) ?_ ?_ <;> (intro hb; first | (cases hb; done) | (have ht : true = true := hb; clear ht hb) | (have ht : false = false := hb; clear ht hb) | (simp only [hb]) | skip))
      | refine ev_step0 _ _ (by (simp only [go_sem]; rfl)) (by (first | trivial | decide | (simp only [inB, sliceOk, appendOk, rowsOk]; omega) | (simp [inB, sliceOk, appendOk, rowsOk]; omega))) _ (by (simp only [go_sem]; rfl)) ?_
      | (refine ev_step _ (by (simp only [go_sem]; rfl)) (by (first | trivial | decide | (simp only [inB, sliceOk, appendOk, rowsOk]; omega) | (simp [inB, sliceOk, appendOk, rowsOk]; omega))) _ (fun g u => by (simp only [go_sem]; rfl)) ?_; intro g u; (try clear u); (try clear g))
      | fail
    refine ⟨rfl, [.any, .any, .any, .any, .any, .any, .any, .any, .any, .any, .any, .any, .any], _, ⟨u, rfl⟩, ?_⟩
    simp only [List.cons_append, List.nil_append, List.map_append, List.map_cons, List.map_nil]
    refine Wk.mk ?_ ?_
    all_goals (repeat' first | exact trivial | exact LeA.refl _ | exact LeA.any _ | exact LeO.refl _ | exact LeO.no _ | exact LeA.nil _ | (refine LeA.i ?_; (first | rfl | (push_cast; rfl) | (rw [wrap_id (by omega)]; push_cast; omega) | (simp [wrap_id]; omega))) | refine ⟨?_, ?_⟩)
  · rintro l D xa xb L base ⟨v, rfl⟩ a2 w2 hs2
    refine awq_go (E := ⟨Try.prog, w, C, two ga gb, none, [{ target := .collected D, args := #[] }]⟩) rfl hs2 ?_
    simp only [tl4, List.cons_append, List.nil_append]
    repeat' first
      | (refine awq_seq ?_)
      | refine awq_block ?_
      | refine awp_seq ?_
      | refine awp_block ?_
      | refine awp_skip ?_
      | (refine reg _ (by (simp only [List.map_cons, List.map_nil]; rfl)) rfl ?_; intro K hK)
      | (refine awp_cond _ (by rfl) ?_ ?_ <;> (intro hb; first | (cases hb; done) | (have ht : true = true := hb; clear ht hb) | (have ht : false = false := hb; clear ht hb) | (simp only [hb]) | skip))
      | (refine awp_exit ?_; simp only [thenA, blockA, reduceIte, RetQ, Nat.reduceEqDiff])
      | (refine awp_ret ?_; simp only [thenA, blockA, RetQ])
      | (refine ev_nil (hK _ ?_); clear hK K)
      | refine ev_guardU _ (by (simp only [go_sem]; rfl)) (by (simp only [go_sem]; rfl)) _ (by (simp only [go_sem]; rfl)) ?_
      | (refine ev_guardT _ _ (by (simp only [go_sem]; rfl)) (by (simp only [go_sem]; rfl)) ?_ ?_ <;> (intro hb; first | (cases hb; done) | (have ht : true = true := hb; clear ht hb) | (have ht : false = false := hb; clear ht hb) | (simp only [hb]) | skip))
      | (refine ev_guardF _ _ (by (simp only [go_sem]; rfl)) (by (simp only [go_sem]; rfl)) ?_ ?_ <;> (intro hb; first | (cases hb; done) | (have ht : true = true := hb; clear ht hb) | (have ht : false = false := hb; clear ht hb) | (simp only [hb]) | skip))
      | refine ev_step0 _ _ (by (simp only [go_sem]; rfl)) (by (first | trivial | decide | (simp only [inB, sliceOk, appendOk, rowsOk]; omega) | (simp [inB, sliceOk, appendOk, rowsOk]; omega))) _ (by (simp only [go_sem]; rfl)) ?_
      | (refine ev_step _ (by (simp only [go_sem]; rfl)) (by (first | trivial | decide | (simp only [inB, sliceOk, appendOk, rowsOk]; omega) | (simp [inB, sliceOk, appendOk, rowsOk]; omega))) _ (fun g u => by (simp only [go_sem]; rfl)) ?_; intro g u; (try clear u); (try clear g))
      | fail
    refine awq_ret ?_
    intro a3 w3 hs3
    refine leaves_marks (i := 15) rfl rfl hs3 (r := .d (nms xs)) ?_ fun v w' h1 h2 => ⟨v, rfl, h1, h2⟩
    all_goals (refine resR_one T_ok rfl _ (by (simp only [go_sem, resA]; rfl)) (by first | trivial | (simp only [go_sem, resA])) (by first | trivial | (simp only [go_sem])) ?_; simp only [go_sem])
    exact LeA.refl _
end
section
set_option linter.unusedVariables false
set_option linter.unusedSimpArgs false
open Go.RowKit
attribute [local irreducible] AWp evOps evD AWq Ops
theorem f54_calls (xs : List Nm) (hlen : xs.length ≤ 16777216) {w : World} {C : Nat → Prop} {ga gb : Nat} (hC : ∀ x, C x → x < w.heap.size ∧ ¬ two ga gb x) (hne : ga ≠ gb) (hga : ga < w.heap.size) (hgb : gb < w.heap.size)
    (hit : IterC Try.prog 69 #[.pointer (some ⟨ga, 0, none⟩), .pointer (some ⟨gb, 0, none⟩)] (two ga gb) C encN xs w) :
    Calls Try.prog 54 #[.func (.func 69) #[] #[.pointer (some ⟨ga, 0, none⟩), .pointer (some ⟨gb, 0, none⟩)]] w fun e w' => ∃ v, e = .returned v ∧ Fr (two ga gb) w w' ∧
      Has ⟨w'.heap, fun b => C b ∨ ((w.heap.size ≤ b ∨ two ga gb b) ∧ b < w'.heap.size)⟩ (.d (nms xs)) v := by
  obtain ⟨xa0, hxa⟩ : ∃ x, w.heap[ga]? = some x := ⟨_, Array.getElem?_eq_getElem hga⟩
  obtain ⟨xb0, hxb⟩ : ∃ x, w.heap[gb]? = some x := ⟨_, Array.getElem?_eq_getElem hgb⟩
  refine (callsIn_wide (n := 0)).1 (callsIn_of_wp (fn := Try.f54) Try.func54 rfl trivial ?_)
  have hs := sat_start2 (P := Try.prog) 5 (args := [.d (.lit (.func (.func 69) #[] #[.pointer (some ⟨ga, 0, none⟩), .pointer (some ⟨gb, 0, none⟩)]))])
    (vs := [.func (.func 69) #[] #[.pointer (some ⟨ga, 0, none⟩), .pointer (some ⟨gb, 0, none⟩)]]) hC (by simp only [HasL, Has, Rep]; exact ⟨⟨trivial, rfl⟩, trivial⟩) hne hxa hxb
  refine awq_go (E := ⟨Try.prog, w, C, two ga gb, none, []⟩) rfl hs ?_
  simp only [tl2, litI, litB, litS, List.length_cons, List.length_nil, Nat.reduceAdd, Nat.reduceSub, List.replicate_succ, List.replicate_zero, List.cons_append, List.nil_append]
  repeat' first
    | ((fail_if_success show AWq _ (Code.seq (Code.region 1 _ _) _) _ _); refine awq_seq ?_)
    | refine awq_block ?_
    | refine awp_seq ?_
    | refine awp_block ?_
    | refine awp_skip ?_
    | (refine reg _ (by (simp only [List.map_cons, List.map_nil]; rfl)) rfl ?_; intro K hK)
    | (refine awp_cond _ (by rfl) ?_ ?_ <;> (intro hb; first | (cases hb; done) | (have ht : true = true := hb; clear ht hb) | (have ht : false = false := hb; clear ht hb) | (simp only [hb]) | skip))
    | (refine awp_exit ?_; simp only [thenA, blockA, reduceIte, RetQ, Nat.reduceEqDiff])
    | (refine awp_ret ?_; simp only [thenA, blockA, RetQ])
    | (refine ev_nil (hK _ ?_); clear hK K)
    | refine ev_guardU _ (by (simp only [go_sem]; rfl)) (by (simp only [go_sem]; rfl)) _ (by (simp only [go_sem]; rfl)) ?_
    | (refine ev_guardT _ _ (by (simp only [go_sem]; rfl)) (by (simp only [go_sem]; rfl)) ?_ ?_ <;> (intro hb; first | (cases hb; done) | (have ht : true = true := hb; clear ht hb) | (have ht : false = false := hb; clear ht hb) | (simp only [hb]) | skip))
    | (refine ev_guardF _ _ (by (simp only [go_sem]; rfl)) (by (simp only [go_sem]; rfl)) ?_ ?_ <;> (intro hb; first | (cases hb; done) | (have ht : true = true := hb; clear ht hb) | (have ht : false = false := hb; clear ht hb) | (simp only [hb]) | skip))
    | refine ev_step0 _ _ (by (simp only [go_sem]; rfl)) (by (first | trivial | decide | (simp only [inB, sliceOk, appendOk, rowsOk]; omega) | (simp [inB, sliceOk, appendOk, rowsOk]; omega))) _ (by (simp only [go_sem]; rfl)) ?_
    | (refine ev_step _ (by (simp only [go_sem]; rfl)) (by (first | trivial | decide | (simp only [inB, sliceOk, appendOk, rowsOk]; omega) | (simp [inB, sliceOk, appendOk, rowsOk]; omega))) _ (fun g u => by (simp only [go_sem]; rfl)) ?_; intro g u; (try clear u); (try clear g))
    | fail
  refine awq_ops ?_
  intro a1 w1 hs1
  refine ops_step (K := fun s => s = ⟨[.d (.lit (.func (.func 69) #[] #[.pointer (some ⟨ga, 0, none⟩), .pointer (some ⟨gb, 0, none⟩)])), .any, .d (.lit (.slice none 0 0)), .d (.lit (.func (.func 69) #[] #[.pointer (some ⟨ga, 0, none⟩), .pointer (some ⟨gb, 0, none⟩)])), .any], [.no, .no, .no, .no, .no, .hold ga xa0, .hold gb xb0]⟩) T_ok 1 hs1 (by decide) rfl ?_ fun s a2 w2 hK hs2 => ?_
  · repeat' first
      | refine awp_seq ?_
      | refine awp_block ?_
      | refine awp_skip ?_
      | (refine reg _ (by (simp only [List.map_cons, List.map_nil]; rfl)) rfl ?_; intro K hK)
      | (refine awp_cond _ (by rfl) ?_ ?_ <;> (intro hb; first | (cases hb; done) | (have ht : true = true := hb; clear ht hb) | (have ht : false = false := hb; clear ht hb) | (simp only [hb]) | skip))
      | (refine awp_exit ?_; simp only [thenA, blockA, reduceIte, RetQ, Nat.reduceEqDiff])
      | (refine awp_ret ?_; simp only [thenA, blockA, RetQ])
      | (refine ev_nil (hK _ ?_); clear hK K)
      | refine ev_guardU _ (by (simp only [go_sem]; rfl)) (by (simp only [go_sem]; rfl)) _ (by (simp only [go_sem]; rfl)) ?_
      | (refine ev_guardT _ _ (by (simp only [go_sem]; rfl)) (by (simp only [go_sem]; rfl)) ?_ ?_ <;> (intro hb; first | (cases hb; done) | (have ht : true = true := hb; clear ht hb) | (have ht : false = false := hb; clear ht hb) | (simp only [hb]) | skip))
      | (refine ev_guardF _ _ (by (simp only [go_sem]; rfl)) (by (simp only [go_sem]; rfl)) ?_ ?_ <;> (intro hb; first | (cases hb; done) | (have ht : true = true := hb; clear ht hb) | (have ht : false = false := hb; clear ht hb) | (simp only [hb]) | skip))
      | refine ev_step0 _ _ (by (simp only [go_sem]; rfl)) (by (first | trivial | decide | (simp only [inB, sliceOk, appendOk, rowsOk]; omega) | (simp [inB, sliceOk, appendOk, rowsOk]; omega))) _ (by (simp only [go_sem]; rfl)) ?_
      | (refine ev_step _ (by (simp only [go_sem]; rfl)) (by (first | trivial | decide | (simp only [inB, sliceOk, appendOk, rowsOk]; omega) | (simp [inB, sliceOk, appendOk, rowsOk]; omega))) _ (fun g u => by (simp only [go_sem]; rfl)) ?_; intro g u; (try clear u); (try clear g))
      | fail
    exact ev_nil rfl
  subst hK
  have h3 := has_lit (Act.eval_of hs2 3 rfl)
  have hsz := hs2.size
  have hfr := hs2.fr
  have hsame := hs2.two_same (C := C) (ga := ga) (gb := gb) (i := 5) (fun k h => h) rfl rfl hxa hxb
  refine ops_call rfl ⟨Try.f68, Try.func68, by kernel_rfl, rfl⟩ ?_
  have hargs : (List.map a2.eval [Operand.const (.slice none 0 0), .tmp 3]).toArray = #[.slice none 0 0, .func (.func 69) #[] #[.pointer (some ⟨ga, 0, none⟩), .pointer (some ⟨gb, 0, none⟩)]] := by
    simp only [List.map_cons, List.map_nil, h3]; rfl
  rw [hargs]
  refine (f68_calls xs hlen (w := w2) (C := C) (fun x hx => ⟨Nat.lt_of_lt_of_le (hC x hx).1 hfr.size, (hC x hx).2⟩) hne (Nat.lt_of_lt_of_le hga hfr.size) (Nat.lt_of_lt_of_le hgb hfr.size) (hit.later hsame)).mono ?_
  rintro e w3 ⟨v, rfl, hfr3, hv⟩
  refine ⟨v, rfl, ?_⟩
  have hs4 := Sat.anew (P := Try.prog) (n := 5) (a := a2.put (some 4) v) (w := w3) hs2.defers (fun b hb => ?_) (hasL_put hsz hv)
  rotate_left
  · rcases hb with hb | hb
    · exact Nat.lt_of_lt_of_le (hC b hb).1 (Nat.le_trans hfr.size hfr3.size)
    · exact hb.2
  refine Ops.env (E' := ⟨Try.prog, w3, fun b => C b ∨ ((w2.heap.size ≤ b ∨ two ga gb b) ∧ b < w3.heap.size), fun _ => False, none, []⟩) rfl rfl ?_
  refine ops_step (K := fun s => s = ⟨[.any, .any, .d (nms xs), .any, .d (nms xs)], [.no, .no, .no, .no, .no]⟩) T_ok 1 hs4 (by decide) rfl ?_ fun s a5 w5 hK hs5 => ?_
  · simp only [List.length_cons, List.length_nil, Nat.reduceAdd, List.replicate_succ, List.replicate_zero, List.set_cons_succ, List.set_cons_zero]
    repeat' first
      | refine awp_seq ?_
      | refine awp_block ?_
      | refine awp_skip ?_
      | (refine reg _ (by (simp only [List.map_cons, List.map_nil]; rfl)) rfl ?_; intro K hK)
      | (refine awp_cond _ (by rfl) ?_ ?_ <;> (intro hb; first | (cases hb; done) | (have ht : true = true := hb; clear ht hb) | (have ht : false = false := hb; clear ht hb) | (simp only [hb]) | skip))
      | (refine awp_exit ?_; simp only [thenA, blockA, reduceIte, RetQ, Nat.reduceEqDiff])
      | (refine awp_ret ?_; simp only [thenA, blockA, RetQ])
      | (refine ev_nil (hK _ ?_); clear hK K)
      | refine ev_guardU _ (by (simp only [go_sem]; rfl)) (by (simp only [go_sem]; rfl)) _ (by (simp only [go_sem]; rfl)) ?_
      | (refine ev_guardT _ _ (by (simp only [go_sem]; rfl)) (by (simp only [go_sem]; rfl)) ?_ ?_ <;> (intro hb; first | (cases hb; done) | (have ht : true = true := hb; clear ht hb) | (have ht : false = false := hb; clear ht hb) | (simp only [hb]) | skip))
      | (refine ev_guardF _ _ (by (simp only [go_sem]; rfl)) (by (simp only [go_sem]; rfl)) ?_ ?_ <;> (intro hb; first | (cases hb; done) | (have ht : true = true := hb; clear ht hb) | (have ht : false = false := hb; clear ht hb) | (simp only [hb]) | skip))
      | refine ev_step0 _ _ (by (simp only [go_sem]; rfl)) (by (first | trivial | decide | (simp only [inB, sliceOk, appendOk, rowsOk]; omega) | (simp [inB, sliceOk, appendOk, rowsOk]; omega))) _ (by (simp only [go_sem]; rfl)) ?_
      | (refine ev_step _ (by (simp only [go_sem]; rfl)) (by (first | trivial | decide | (simp only [inB, sliceOk, appendOk, rowsOk]; omega) | (simp [inB, sliceOk, appendOk, rowsOk]; omega))) _ (fun g u => by (simp only [go_sem]; rfl)) ?_; intro g u; (try clear u); (try clear g))
      | fail
    exact ev_nil rfl
  subst hK
  refine ops_end (by decide) (wpIn_ret ?_)
  have h5 := Act.eval_of hs5 2 rfl
  refine ⟨hs5.defers, _, results_tmp (t := 2) rfl _ _ _, _, rfl, ?_, ?_⟩
  · exact (hfr.trans hfr3).trans (hs5.fr.mono fun _ _ h => h.elim)
  · have hle : MemLe (Env.mem ⟨Try.prog, w3, fun b => C b ∨ ((w2.heap.size ≤ b ∨ two ga gb b) ∧ b < w3.heap.size), fun _ => False, none, []⟩ [.no, .no, .no, .no, .no] w5) ⟨w5.heap, fun b => C b ∨ ((w.heap.size ≤ b ∨ two ga gb b) ∧ b < w5.heap.size)⟩ := by
      refine ⟨fun b hb => ?_, fun _ _ => rfl⟩
      have z1 := hfr.size
      have z2 := hfr3.size
      have z3 := hs5.fr.size
      rcases hb with (hb | hb) | hb
      · exact .inl hb
      · exact .inr ⟨hb.1.imp (fun h => Nat.le_trans z1 h) id, Nat.lt_of_lt_of_le hb.2 z3⟩
      · exact .inr ⟨.inl (Nat.le_trans (Nat.le_trans z1 z2) (hb.1.resolve_right fun h => h)), hb.2.1⟩
    exact Has.mono hle _ _ h5
theorem uni_length : ∀ (f : Nat) (a b : List Nm), (uni f a b).length ≤ f
  | 0, _, _ => by simp [uni]
  | f + 1, a, b => by
    simp only [uni]
    split
    · simp
    · have := uni_length f (offHd (uniHd a b) a) (offHd (uniHd a b) b)
      simp; omega
theorem uniL_length (a b : List Nm) : (uniL a b).length ≤ a.length + b.length := uni_length _ _ _
theorem f26_spec (l : List Nm) (n : Nm) (hb0 : l.length ≤ 16777215) : Spec Try.prog 26 [.d (nms l), .agg (nm n.1 n.2)] (.d (nms (uniL l [n]))) := by
  refine ⟨⟨Try.f26, Try.func26, by kernel_rfl, rfl⟩, ?_⟩
  intro w C hC vs hv
  refine (callsIn_wide (n := 0)).1 (callsIn_of_wp (fn := Try.f26) Try.func26 rfl trivial ?_)
  have hs := sat_start (P := Try.prog) (n := 10) (holds := []) (M := fun _ => False) (fun x hx => ⟨hC x hx, fun h => h⟩) hv (by intro i x h; simp at h) (by intro i j x y g h; simp at h)
  refine awq_go (E := ⟨Try.prog, w, C, fun _ => False, none, []⟩) rfl hs ?_
  simp only [litI, litB, litS, List.length_cons, List.length_nil, Nat.reduceAdd, Nat.reduceSub, List.replicate_succ, List.replicate_zero, List.cons_append, List.nil_append]
  repeat' first
    | ((fail_if_success show AWq _ (Code.seq (Code.region 1 _ _) _) _ _); refine awq_seq ?_)
    | refine awq_block ?_
    | refine awp_seq ?_
    | refine awp_block ?_
    | refine awp_skip ?_
    | (refine reg _ (by (simp only [List.map_cons, List.map_nil]; rfl)) rfl ?_; intro K hK)
    | (refine awp_cond _ (by rfl) ?_ ?_ <;> (intro hb; first | (cases hb; done) | (have ht : true = true := hb; clear ht hb) | (have ht : false = false := hb; clear ht hb) | (simp only [hb]) | skip))
    | (refine awp_exit ?_; simp only [thenA, blockA, reduceIte, RetQ, Nat.reduceEqDiff])
    | (refine awp_ret ?_; simp only [thenA, blockA, RetQ])
    | (refine ev_nil (hK _ ?_); clear hK K)
    | refine ev_guardU _ (by (simp only [go_sem]; rfl)) (by (simp only [go_sem]; rfl)) _ (by (simp only [go_sem]; rfl)) ?_
    | (refine ev_guardT _ _ (by (simp only [go_sem]; rfl)) (by (simp only [go_sem]; rfl)) ?_ ?_ <;> (intro hb; first | (cases hb; done) | (have ht : true = true := hb; clear ht hb) | (have ht : false = false := hb; clear ht hb) | (simp only [hb]) | skip))
    | (refine ev_guardF _ _ (by (simp only [go_sem]; rfl)) (by (simp only [go_sem]; rfl)) ?_ ?_ <;> (intro hb; first | (cases hb; done) | (have ht : true = true := hb; clear ht hb) | (have ht : false = false := hb; clear ht hb) | (simp only [hb]) | skip))
    | refine ev_step0 _ _ (by (simp only [go_sem]; rfl)) (by (first | trivial | decide | (simp only [inB, sliceOk, appendOk, rowsOk]; omega) | (simp [inB, sliceOk, appendOk, rowsOk]; omega))) _ (by (simp only [go_sem]; rfl)) ?_
    | (refine ev_step _ (by (simp only [go_sem]; rfl)) (by (first | trivial | decide | (simp only [inB, sliceOk, appendOk, rowsOk]; omega) | (simp [inB, sliceOk, appendOk, rowsOk]; omega))) _ (fun g u => by (simp only [go_sem]; rfl)) ?_; intro g u; (try clear u); (try clear g))
    | fail
  refine awq_ops ?_
  intro a1 w1 hs1
  refine ops_step (K := fun s => ∃ g u, s = ⟨[.d (nms l), .agg [litI .i64 n.1, litI .i64 n.2], .any, .ptr 3 g 0, .d (.lit (.slice none 0 0)), .d (nms l), .agg [litI .i64 n.1, litI .i64 n.2], .own 7 u, .any, .any], [.no, .no, .no, .box g (nm n.1 n.2), .no, .no, .no, .row u 25 2 [[.lit (.int .i64 n.1), .lit (.int .i64 n.2)]], .no, .no]⟩) T_ok 3 hs1 (by decide) rfl ?_ fun s a2 w2 hK hs2 => ?_
  · repeat' first
      | refine awp_seq ?_
      | refine awp_block ?_
      | refine awp_skip ?_
      | (refine reg _ (by (simp only [List.map_cons, List.map_nil]; rfl)) rfl ?_; intro K hK)
      | (refine awp_cond _ (by rfl) ?_ ?_ <;> (intro hb; first | (cases hb; done) | (have ht : true = true := hb; clear ht hb) | (have ht : false = false := hb; clear ht hb) | (simp only [hb]) | skip))
      | (refine awp_exit ?_; simp only [thenA, blockA, reduceIte, RetQ, Nat.reduceEqDiff])
      | (refine awp_ret ?_; simp only [thenA, blockA, RetQ])
      | (refine ev_nil (hK _ ?_); clear hK K)
      | refine ev_guardU _ (by (simp only [go_sem]; rfl)) (by (simp only [go_sem]; rfl)) _ (by (simp only [go_sem]; rfl)) ?_
      | (refine ev_guardT _ _ (by (simp only [go_sem]; rfl)) (by (simp only [go_sem]; rfl)) ?_ ?_ <;> (intro hb; first | (cases hb; done) | (have ht : true = true := hb; clear ht hb) | (have ht : false = false := hb; clear ht hb) | (simp only [hb]) | skip))
      | (refine ev_guardF _ _ (by (simp only [go_sem]; rfl)) (by (simp only [go_sem]; rfl)) ?_ ?_ <;> (intro hb; first | (cases hb; done) | (have ht : true = true := hb; clear ht hb) | (have ht : false = false := hb; clear ht hb) | (simp only [hb]) | skip))
      | refine ev_step0 _ _ (by (simp only [go_sem]; rfl)) (by (first | trivial | decide | (simp only [inB, sliceOk, appendOk, rowsOk]; omega) | (simp [inB, sliceOk, appendOk, rowsOk]; omega))) _ (by (simp only [go_sem]; rfl)) ?_
      | (refine ev_step _ (by (simp only [go_sem]; rfl)) (by (first | trivial | decide | (simp only [inB, sliceOk, appendOk, rowsOk]; omega) | (simp [inB, sliceOk, appendOk, rowsOk]; omega))) _ (fun g u => by (simp only [go_sem]; rfl)) ?_; intro g u; (try clear u); (try clear g))
      | fail
    exact ev_nil ⟨_, _, rfl⟩
  obtain ⟨g, u, rfl⟩ := hK
  have hs3 := Wk.close (by simp only [clOkL, clOk, litI, nm]; trivial) _ _ hs2
  simp only [go_sem, clL, cl, idsOfL, idsOf, frzEff, applyEff] at hs3
  have h5 := Act.eval_of hs3 5 rfl
  have h7 := Act.eval_of hs3 7 rfl
  have hsz := hs3.size
  refine ops_call rfl ⟨Try.f55, Try.func55, by kernel_rfl, rfl⟩ ?_
  refine (f55_calls l [n] w2 _ (fun x hx => hs3.lt_C hx) _ (by simp only [List.map_cons, List.map_nil, HasL]; exact ⟨h5, h7, trivial⟩)).mono ?_
  rintro e w3 ⟨v, rfl, ga, gb, ta, tb, va, vb, C', rfl, hbel, hga, hgb, hne, h1, h2, hCC, hC', ra, rb⟩
  refine ⟨_, rfl, ?_⟩
  refine ops_call rfl ⟨Try.f54, Try.func54, by kernel_rfl, rfl⟩ ?_
  simp only [List.map_cons, List.map_nil]
  rw [eval_put_at (by rw [hsz]; simp)]
  have hlen := uniL_length l [n]
  simp only [List.length_cons, List.length_nil] at hlen
  refine (f54_calls (uniL l [n]) (by omega) (w := w3) (C := C') (fun x hx => (hC' x hx).2) hne hga.2 hgb.2 (f69_iter hne (fun x hx => (hC' x hx).2) h1 h2 ra rb)).mono ?_
  rintro e w4 ⟨v9, rfl, hfr4, hv9⟩
  refine ⟨_, rfl, ?_⟩
  have z4 := hfr4.size
  have hb4 := Below.of_fr hbel hfr4 (fun b hb => by rcases hb with rfl | rfl; exact hga.1; exact hgb.1)
  obtain ⟨hs5, hv5⟩ := hs3.fresh hb4 (by
    intro b hb
    rcases hb with hb | hb
    · have := hC' b hb
      exact ⟨this.1, Nat.lt_of_lt_of_le this.2.1 z4⟩
    · refine ⟨.inr ?_, hb.2⟩
      rcases hb.1 with h | rfl | rfl
      · exact Nat.le_trans hbel.size h
      · exact hga.1
      · exact hgb.1) hv9
  have hs6 := (hs5.put (some 8) (av := .any) (v := .func (.func 69) #[] #[.pointer (some ⟨ga, 0, none⟩), .pointer (some ⟨gb, 0, none⟩)]) (by simp only [Has])).put (some 9) (av := .d (nms (uniL l [n]))) hv5
  refine ops_step (K := fun s => ∃ t o, s = ⟨t, o⟩ ∧ t[4]? = some (.d (nms (uniL l [n])))) T_ok 1 hs6 (by decide) rfl ?_ fun s a7 w7 hK hs7 => ?_
  · simp only [St.put, List.set_cons_succ, List.set_cons_zero]
    repeat' first
      | refine awp_seq ?_
      | refine awp_block ?_
      | refine awp_skip ?_
      | (refine reg _ (by (simp only [List.map_cons, List.map_nil]; rfl)) rfl ?_; intro K hK)
      | (refine awp_cond _ (by rfl) ?_ ?_ <;> (intro hb; first | (cases hb; done) | (have ht : true = true := hb; clear ht hb) | (have ht : false = false := hb; clear ht hb) | (simp only [hb]) | skip))
      | (refine awp_exit ?_; simp only [thenA, blockA, reduceIte, RetQ, Nat.reduceEqDiff])
      | (refine awp_ret ?_; simp only [thenA, blockA, RetQ])
      | (refine ev_nil (hK _ ?_); clear hK K)
      | refine ev_guardU _ (by (simp only [go_sem]; rfl)) (by (simp only [go_sem]; rfl)) _ (by (simp only [go_sem]; rfl)) ?_
      | (refine ev_guardT _ _ (by (simp only [go_sem]; rfl)) (by (simp only [go_sem]; rfl)) ?_ ?_ <;> (intro hb; first | (cases hb; done) | (have ht : true = true := hb; clear ht hb) | (have ht : false = false := hb; clear ht hb) | (simp only [hb]) | skip))
      | (refine ev_guardF _ _ (by (simp only [go_sem]; rfl)) (by (simp only [go_sem]; rfl)) ?_ ?_ <;> (intro hb; first | (cases hb; done) | (have ht : true = true := hb; clear ht hb) | (have ht : false = false := hb; clear ht hb) | (simp only [hb]) | skip))
      | refine ev_step0 _ _ (by (simp only [go_sem]; rfl)) (by (first | trivial | decide | (simp only [inB, sliceOk, appendOk, rowsOk]; omega) | (simp [inB, sliceOk, appendOk, rowsOk]; omega))) _ (by (simp only [go_sem]; rfl)) ?_
      | (refine ev_step _ (by (simp only [go_sem]; rfl)) (by (first | trivial | decide | (simp only [inB, sliceOk, appendOk, rowsOk]; omega) | (simp [inB, sliceOk, appendOk, rowsOk]; omega))) _ (fun g u => by (simp only [go_sem]; rfl)) ?_; intro g u; (try clear u); (try clear g))
      | fail
    exact ev_nil ⟨_, _, rfl, rfl⟩
  obtain ⟨t7, o7, rfl, ht7⟩ := hK
  refine ops_end (by decide) (wpIn_ret ?_)
  have h8 := Act.eval_of hs7 4 ht7
  refine ⟨hs7.defers, _, results_tmp (t := 4) rfl _ _ _, _, rfl, ⟨hs7.fr.os, hs7.fr.tape, hs7.fr.output, hs7.fr.size, fun k hk => hs7.fr.block k hk (fun h => h)⟩, ?_⟩
  have hle : MemLe (Env.mem ⟨Try.prog, w, C, fun _ => False, none, []⟩ o7 w7) ⟨w7.heap, fun b => C b ∨ (w.heap.size ≤ b ∧ b < w7.heap.size)⟩ := by
    refine ⟨fun b hb => ?_, fun _ _ => rfl⟩
    rcases hb with hb | hb
    · exact .inl hb
    · exact .inr ⟨hb.1.resolve_right fun h => h, hb.2.1⟩
  exact Has.mono hle _ _ h8
end
end Go.Proofs.Ytalbfikfbejnfaa.A
