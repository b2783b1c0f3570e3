/- The rewriting rules of a walk, each by computation. -/
import Derived.Test.YtopigomfhggkoaaDoorJC4
set_option linter.unusedVariables false
set_option linter.unusedSimpArgs false
namespace Go.Proofs.YtopigomfhggkoaaDoor.A
open Go.RowKit
section
variable {P : Program} {T : Tab} {H : Hints} {gd : Nat → Option Nat} {σ : St} {dst : Option Nat} {ty : TypeId} {pos : String} {af : Array Edge}
theorem e_step_none (op : Op) : stepR P T H gd ⟨dst, op, ty, pos, af, none⟩ σ = opRes P T H ⟨dst, op, ty, pos, af, none⟩ σ := rfl
def guardR (b : Option Bool) (want : Bool) (u : Bool) (r : Res) : Res := match b with | some b => if b = want then r else R0 True (.tup []) | none => if u = true then R0 True (.tup []) else Rno
theorem e_step_some (op : Op) (j : Nat) (want : Bool) (d : Nat) (hd : gd j = some d) : stepR P T H gd ⟨dst, op, ty, pos, af, some (j, want)⟩ σ = guardR (slotB σ d) want (slotU σ d) (opRes P T H ⟨dst, op, ty, pos, af, some (j, want)⟩ σ) := by
  simp only [stepR, guardR, hd]
  cases slotB σ d <;> rfl
theorem e_slotU (t : List AV) (o : List AObj) (d : Nat) : slotU ⟨t, o⟩ d = (match t[d]? with | some (.tup []) => true | _ => false) := rfl
theorem e_slotB (t : List AV) (o : List AObj) (d : Nat) : slotB ⟨t, o⟩ d = (match t[d]? with | some (.d (.lit (.bool b))) => some b | _ => none) := rfl
variable {g : Option (Nat × Bool)}
theorem e_move (x : Operand) : opRes P T H ⟨dst, .move x, ty, pos, af, g⟩ σ = R0 True (σ.eval x) := rfl
theorem e_assign (x : Operand) : opRes P T H ⟨dst, .assign x, ty, pos, af, g⟩ σ = R0 True (σ.eval x) := rfl
theorem e_pick (c x y : Operand) : opRes P T H ⟨dst, .pick c x y, ty, pos, af, g⟩ σ = pickR (σ.eval c) (σ.eval x) (σ.eval y) := rfl
theorem e_unOp (op : UnOp) (t : TypeId) (x : Operand) : opRes P T H ⟨dst, .unOp op t x, ty, pos, af, g⟩ σ = unR op (σ.eval x) := rfl
theorem e_binOp (op : BinOp) (t : TypeId) (x y : Operand) (u : TypeId) : opRes P T H ⟨dst, .binOp op t x y u, ty, pos, af, g⟩ σ = binR2 T op t (σ.eval x) (σ.eval y) := rfl
theorem e_alloc (t : TypeId) : opRes P T H ⟨dst, .alloc t, ty, pos, af, g⟩ σ = allocR T σ.o.length dst t := rfl
theorem e_box (t : TypeId) (x : Operand) : opRes P T H ⟨dst, .box t x, ty, pos, af, g⟩ σ = boxR σ.o.length dst (σ.eval x) := rfl
theorem e_build (t : TypeId) (ps : List (Nat × Operand)) : opRes P T H ⟨dst, .build t ps.toArray, ty, pos, af, g⟩ σ = buildR T t (ps.map fun p => (p.1, σ.eval p.2)) := rfl
theorem e_buildSlice (t : TypeId) (n : Nat) (ps : List (Nat × Operand)) : opRes P T H ⟨dst, .buildSlice t n ps.toArray, ty, pos, af, g⟩ σ = buildSliceR T σ.o σ.o.length dst t n (ps.map fun p => (p.1, σ.eval p.2)) := rfl
theorem e_load (t : TypeId) (x : Operand) : opRes P T H ⟨dst, .load t x, ty, pos, af, g⟩ σ = loadR T t (σ.eval x) (obOf σ (σ.eval x)) := rfl
theorem e_store (t : TypeId) (x y : Operand) : opRes P T H ⟨dst, .store t x y, ty, pos, af, g⟩ σ = storeX T σ.o t (σ.eval x) (obOf σ (σ.eval x)) (σ.eval y) := rfl
theorem e_fieldAddr (s : TypeId) (x : Operand) (f : Nat) : opRes P T H ⟨dst, .fieldAddr s x f, ty, pos, af, g⟩ σ = fieldAddrR T s f (σ.eval x) := rfl
theorem e_field (s : TypeId) (x : Operand) (f : Nat) : opRes P T H ⟨dst, .field s x f, ty, pos, af, g⟩ σ = fieldR T s f (σ.eval x) := rfl
theorem e_indexAddr (t : TypeId) (x i : Operand) : opRes P T H ⟨dst, .indexAddr t x i, ty, pos, af, g⟩ σ = indexAddrR T t (σ.eval x) (obOf σ (σ.eval x)) (σ.eval i) := rfl
theorem e_index (t : TypeId) (x i : Operand) : opRes P T H ⟨dst, .index t x i, ty, pos, af, g⟩ σ = indexR T t (σ.eval x) (σ.eval i) := rfl
theorem e_slice (t : TypeId) (x : Operand) (lo hi : Option Operand) : opRes P T H ⟨dst, .slice t x lo hi none, ty, pos, af, g⟩ σ = sliceR T σ.o.length t (σ.eval x) (obOf σ (σ.eval x)) (lo.map σ.eval) (hi.map σ.eval) := rfl
theorem e_sliceM (t : TypeId) (x hi mx : Operand) : opRes P T H ⟨dst, .slice t x none (some hi) (some mx), ty, pos, af, g⟩ σ = sliceMR T t (σ.eval x) (some (σ.eval hi)) (some (σ.eval mx)) := rfl
theorem e_makeSlice (t : TypeId) (l c : Operand) : opRes P T H ⟨dst, .makeSlice t l c, ty, pos, af, g⟩ σ = makeR T σ.o.length dst t (σ.eval l) (σ.eval c) := rfl
theorem e_makeFunc (fn : Fn) (caps : List Operand) : opRes P T H ⟨dst, .makeFunc fn #[] caps.toArray, ty, pos, af, g⟩ σ = R0 True (.clo fn (caps.map σ.eval)) := rfl
theorem e_convert (s t : TypeId) (x : Operand) : opRes P T H ⟨dst, .convert s t x, ty, pos, af, g⟩ σ = convertR2 T s t (σ.eval x) (obOf σ (σ.eval x)) := rfl
theorem e_extract (x : Operand) (i : Nat) : opRes P T H ⟨dst, .extract x i, ty, pos, af, g⟩ σ = extractR i (σ.eval x) := rfl
theorem e_nilCheck (x : Operand) : opRes P T H ⟨dst, .nilCheck x, ty, pos, af, g⟩ σ = nilR (σ.eval x) := rfl
theorem e_lookup (t : TypeId) (x i : Operand) (ok : Bool) : opRes P T H ⟨dst, .lookup t x i ok, ty, pos, af, g⟩ σ = lookupR T t (σ.eval x) (σ.eval i) ok := rfl
def lookS (T : Tab) (t : Nat) (es : List (Value × Value)) (k : Value) (ok : Bool) : Option (Option Value) → Res
  | some (some v) => R0 (lookC T t es k = true ∧ valOk v = true) (comma ok (valA v) true)
  | some none => R0 (lookC T t es k = true ∧ (T (T t).elem).known = true) (comma ok .any false)
  | none => Rno
theorem e_look (t : Nat) (es : List (Value × Value)) (k : Value) (ok : Bool) : lookupR T t (.d (.mp es)) (.d (.lit k)) ok = lookS T t es k ok (findE k es) := by
  simp only [lookupR]
  unfold lookS
  rcases findE k es with _ | _ | v <;> rfl
theorem e_lookS1 (t : Nat) (es : List (Value × Value)) (k v : Value) (ok : Bool) : lookS T t es k ok (some (some v)) = R0 (lookC T t es k = true ∧ valOk v = true) (comma ok (valA v) true) := rfl
theorem e_lookS0 (t : Nat) (es : List (Value × Value)) (k : Value) (ok : Bool) : lookS T t es k ok (some none) = R0 (lookC T t es k = true ∧ (T (T t).elem).known = true) (comma ok .any false) := rfl
theorem look_ok {t : Nat} {es : List (Value × Value)} {k : Value} {b : Bool} (h1 : lookC T t es k = true) (h2 : b = true) : lookC T t es k = true ∧ b = true := ⟨h1, h2⟩
def findS (r : Option (Option Value)) (b : Option Bool) (v : Value) : Option (Option Value) := match r, b with
  | some r, some b => some (if b = true then some v else r)
  | _, _ => none
theorem e_find0 (k : Value) : findE k [] = some none := rfl
theorem e_find1 (k k' v : Value) (es : List (Value × Value)) : findE k ((k', v) :: es) = findS (findE k es) (sameK k k') v := rfl
theorem e_findT (r : Option Value) (v : Value) : findS (some r) (some true) v = some (some v) := rfl
theorem e_findF (r : Option Value) (v : Value) : findS (some r) (some false) v = some r := rfl
theorem e_sameI (k : IntKind) (a b : Int) : sameK (.int k a) (.int k b) = some (a == b) := by simp [sameK]
theorem e_sameTT : sameK (.bool true) (.bool true) = some true := rfl
theorem e_sameTF : sameK (.bool true) (.bool false) = some false := rfl
theorem e_sameFT : sameK (.bool false) (.bool true) = some false := rfl
theorem e_sameFF : sameK (.bool false) (.bool false) = some true := rfl
theorem e_commaT (x : AV) (b : Bool) : comma true x b = .tup [x, .d (.lit (.bool b))] := rfl
theorem e_commaF (x : AV) (b : Bool) : comma false x b = x := rfl
theorem e_valAgg (cs : List Value) : valA (.agg cs.toArray) = .agg (cs.map fun c => .d (.lit c)) := rfl
theorem e_valFn (f : Fn) (a b : Array Value) : valA (.func f a b) = .d (.lit (.func f a b)) := rfl
theorem e_valI (k : IntKind) (n : Int) : valA (.int k n) = .d (.lit (.int k n)) := rfl
theorem e_len (x : Operand) (t : TypeId) : opRes P T H ⟨dst, .call ⟨.builtin .len, #[x], #[t]⟩, ty, pos, af, g⟩ σ = lenR T t (σ.eval x) (obOf σ (σ.eval x)) := rfl
theorem e_appendK (s x : Operand) (t : TypeId) : opRes P T keepH ⟨dst, .call ⟨.builtin .append, #[s, x], #[t, t]⟩, ty, pos, af, g⟩ σ = appendH T true σ.o.length dst t (σ.eval s) (obOf σ (σ.eval s)) (σ.eval x) (obOf σ (σ.eval x)) := by
  show (if t = t then _ else _) = _
  rw [if_pos rfl]
  rfl
theorem e_append (s x : Operand) (t : TypeId) : opRes P T [] ⟨dst, .call ⟨.builtin .append, #[s, x], #[t, t]⟩, ty, pos, af, g⟩ σ = appendH T false σ.o.length dst t (σ.eval s) (obOf σ (σ.eval s)) (σ.eval x) (obOf σ (σ.eval x)) := by
  show (if t = t then _ else _) = _
  rw [if_pos rfl]
  rfl
theorem e_max (x y : Operand) (ts : Array TypeId) : opRes P T H ⟨dst, .call ⟨.builtin .max, #[x, y], ts⟩, ty, pos, af, g⟩ σ = maxR (σ.eval x) (σ.eval y) := rfl
theorem e_min (x y : Operand) (ts : Array TypeId) : opRes P T H ⟨dst, .call ⟨.builtin .min, #[x, y], ts⟩, ty, pos, af, g⟩ σ = minR (σ.eval x) (σ.eval y) := rfl
theorem e_call (f : FuncId) (xs : List Operand) (ts : Array TypeId) : opRes P T H ⟨dst, .call ⟨.value (.func f), xs.toArray, ts⟩, ty, pos, af, g⟩ σ = callR P H σ dst f (xs.map σ.eval) := rfl
def cloR (P : Program) (H : Hints) (σ : St) (dst : Option Nat) (x : AV) (xs : List AV) : Res := match x with
  | .d (.lit (.func (.func f) first caps)) => if (first.toList.isEmpty && caps.toList.isEmpty) = true then callR P H σ dst f xs else Rno
  | .clo (.func f) caps => callR P H σ dst f (xs ++ caps)
  | .d (.fn (.func f) ds) => callR P H σ dst f (xs ++ ds.map capA)
  | _ => Rno
theorem e_callV (i : Nat) (xs : List Operand) (ts : Array TypeId) : opRes P T H ⟨dst, .call ⟨.value (.tmp i), xs.toArray, ts⟩, ty, pos, af, g⟩ σ = cloR P H σ dst (σ.eval (.tmp i)) (xs.map σ.eval) := rfl
theorem e_fn (f : FuncId) (ds : List Dat) (xs : List AV) : cloR P H σ dst (.d (.fn (.func f) ds)) xs = callR P H σ dst f (xs ++ ds.map capA) := rfl
theorem e_cap_ptr (row : List Dat) (off : Nat) : capA (.ptr row off) = .el row off := rfl
theorem e_cap_lit (v : Value) : capA (.lit v) = .d (.lit v) := rfl
theorem e_cap_sl (sz : Nat) (rows : List (List Dat)) : capA (.sl sz rows) = .d (.sl sz rows) := rfl
theorem e_cap_fn (f : Fn) (ds : List Dat) : capA (.fn f ds) = .d (.fn f ds) := rfl
def fnOf : AV → Option (Nat × List AV)
  | .clo (.func f) caps => some (f, caps)
  | .d (.fn (.func f) ds) => some (f, ds.map capA)
  | .d (.lit (.func (.func f) first caps)) => if (first.toList.isEmpty && caps.toList.isEmpty) = true then some (f, []) else none
  | _ => none
theorem e_fnOf_lit (f : Nat) : fnOf (.d (.lit (.func (.func f) #[] #[]))) = some (f, []) := rfl
theorem e_fnOf_clo (f : Nat) (caps : List AV) : fnOf (.clo (.func f) caps) = some (f, caps) := rfl
theorem e_fnOf_fn (f : Nat) (ds : List Dat) : fnOf (.d (.fn (.func f) ds)) = some (f, ds.map capA) := rfl
theorem cloR_fnOf {x : AV} {f : Nat} {caps : List AV} (h : fnOf x = some (f, caps)) (H : Hints) (xs : List AV) : cloR P H σ dst x xs = callR P H σ dst f (xs ++ caps) := by
  unfold fnOf at h
  split at h
  · cases h; rfl
  · cases h; rfl
  · rename_i g first caps'
    split at h
    · rename_i hc
      cases h
      rw [List.append_nil]
      simp only [cloR]
      rw [if_pos hc]
    · cases h
  · cases h
theorem e_flat_mp (es : List (Value × Value)) : flat (.d (.mp es)) = false := rfl
theorem e_cap_mp (es : List (Value × Value)) : capA (.mp es) = .d (.mp es) := rfl
theorem e_ev_global (t : List AV) (o : List AObj) (i : Nat) : St.eval ⟨t, o⟩ (.global i) = globA i := rfl
theorem e_flat_fn (f : Fn) (ds : List Dat) : flat (.d (.fn f ds)) = false := rfl
theorem e_clo (f : FuncId) (caps xs : List AV) : cloR P H σ dst (.clo (.func f) caps) xs = callR P H σ dst f (xs ++ caps) := rfl
theorem e_ev_tmp (t : List AV) (o : List AObj) (i : Nat) : St.eval ⟨t, o⟩ (.tmp i) = t.getD i .any := rfl
theorem e_ev_int (k : IntKind) (n : Int) : σ.eval (.const (.int k n)) = .d (.lit (.int k n)) := rfl
theorem e_ev_bool (b : Bool) : σ.eval (.const (.bool b)) = .d (.lit (.bool b)) := rfl
theorem e_ev_string (b : ByteArray) : σ.eval (.const (.string b)) = .d (.lit (.string b)) := rfl
theorem e_ev_slice (a : Option Addr) (n c : Nat) : σ.eval (.const (.slice a n c)) = .d (.lit (.slice a n c)) := rfl
theorem e_ev_nilFunc : σ.eval (.const .nilFunc) = .d (.lit .nilFunc) := rfl
theorem e_ev_nilIface : σ.eval (.const .nilIface) = .d (.lit .nilIface) := rfl
theorem e_ev_pointer (a : Option Addr) : σ.eval (.const (.pointer a)) = .d (.lit (.pointer a)) := rfl
theorem e_ev_agg (cs : List Value) : σ.eval (.const (.agg cs.toArray)) = .agg (cs.map fun c => .d (.lit c)) := rfl
theorem e_ev_func (f : FuncId) : σ.eval (.func f) = .d (.lit (.func (.func f) #[] #[])) := rfl
theorem e_pickT (x y : AV) : pickR (.d (.lit (.bool true))) x y = R0 True x := rfl
theorem e_pickF (x y : AV) : pickR (.d (.lit (.bool false))) x y = R0 True y := rfl
theorem e_not (b : Bool) : unR .not (.d (.lit (.bool b))) = R0 True (.d (.lit (.bool !b))) := rfl
theorem e_neg (k : IntKind) (n : Int) : unR .neg (.d (.lit (.int k n))) = R0 True (.d (.lit (.int k (k.wrap (0 - n))))) := rfl
section
variable {t : Nat} {k : IntKind} {a b : Int}
theorem e_add : binR T .add t (.d (.lit (.int k a))) (.d (.lit (.int k b))) = R0 (k = k ∧ True) (.d (.lit (.int k (k.wrap (a + b))))) := rfl
theorem e_sub : binR T .sub t (.d (.lit (.int k a))) (.d (.lit (.int k b))) = R0 (k = k ∧ True) (.d (.lit (.int k (k.wrap (a - b))))) := rfl
theorem e_mul : binR T .mul t (.d (.lit (.int k a))) (.d (.lit (.int k b))) = R0 (k = k ∧ True) (.d (.lit (.int k (k.wrap (a * b))))) := rfl
theorem e_quo : binR T .quo t (.d (.lit (.int k a))) (.d (.lit (.int k b))) = R0 (k = k ∧ b ≠ 0) (.d (.lit (.int k (k.wrap (a.tdiv b))))) := rfl
theorem e_rem : binR T .rem t (.d (.lit (.int k a))) (.d (.lit (.int k b))) = R0 (k = k ∧ b ≠ 0) (.d (.lit (.int k (a.tmod b)))) := rfl
theorem e_eql : binR T .eql t (.d (.lit (.int k a))) (.d (.lit (.int k b))) = R0 (k = k ∧ True) (.d (.lit (.bool (a == b)))) := rfl
theorem e_neq : binR T .neq t (.d (.lit (.int k a))) (.d (.lit (.int k b))) = R0 (k = k ∧ True) (.d (.lit (.bool (a != b)))) := rfl
theorem e_lss : binR T .lss t (.d (.lit (.int k a))) (.d (.lit (.int k b))) = R0 (k = k ∧ True) (.d (.lit (.bool (decide (a < b))))) := rfl
theorem e_leq : binR T .leq t (.d (.lit (.int k a))) (.d (.lit (.int k b))) = R0 (k = k ∧ True) (.d (.lit (.bool (decide (a ≤ b))))) := rfl
theorem e_gtr : binR T .gtr t (.d (.lit (.int k a))) (.d (.lit (.int k b))) = R0 (k = k ∧ True) (.d (.lit (.bool (decide (a > b))))) := rfl
theorem e_geq : binR T .geq t (.d (.lit (.int k a))) (.d (.lit (.int k b))) = R0 (k = k ∧ True) (.d (.lit (.bool (decide (a ≥ b))))) := rfl
theorem e_shl {k' : IntKind} : binR T .shl t (.d (.lit (.int k a))) (.d (.lit (.int k' b))) = R0 (True ∧ 0 ≤ b) (.d (.lit (.int k (k.wrap (a * 2 ^ (min b.toNat k.bits)))))) := rfl
theorem e_shr {k' : IntKind} : binR T .shr t (.d (.lit (.int k a))) (.d (.lit (.int k' b))) = R0 (True ∧ 0 ≤ b) (.d (.lit (.int k (shrI k a b)))) := rfl
theorem e_and : binR T .and t (.d (.lit (.int k a))) (.d (.lit (.int k b))) = R0 (k = k ∧ True) (.d (.lit (.int k (andI k a b)))) := rfl
theorem e_or : binR T .or t (.d (.lit (.int k a))) (.d (.lit (.int k b))) = R0 (k = k ∧ True) (.d (.lit (.int k (orI k a b)))) := rfl
theorem e_xor : binR T .xor t (.d (.lit (.int k a))) (.d (.lit (.int k b))) = R0 (k = k ∧ True) (.d (.lit (.int k (xorI k a b)))) := rfl
theorem e_andNot : binR T .andNot t (.d (.lit (.int k a))) (.d (.lit (.int k b))) = R0 (k = k ∧ True) (.d (.lit (.int k (andNotI k a b)))) := rfl
theorem e_beq {x y : Bool} : binR T .eql t (.d (.lit (.bool x))) (.d (.lit (.bool y))) = R0 ((T t).known = true ∧ (T t).kind = 6) (.d (.lit (.bool (x == y)))) := rfl
theorem e_bne {x y : Bool} : binR T .neq t (.d (.lit (.bool x))) (.d (.lit (.bool y))) = R0 ((T t).known = true ∧ (T t).kind = 6) (.d (.lit (.bool (!(x == y))))) := rfl
theorem e_sadd {x y : ByteArray} : binR T .add t (.d (.lit (.string x))) (.d (.lit (.string y))) = R0 (x.size + y.size ≤ 9223372036854775807) (.d (.lit (.string (x ++ y)))) := rfl
theorem e_seql {x y : ByteArray} : binR T .eql t (.d (.lit (.string x))) (.d (.lit (.string y))) = R0 True (.d (.lit (.bool (x.toList == y.toList)))) := rfl
theorem e_sneq {x y : ByteArray} : binR T .neq t (.d (.lit (.string x))) (.d (.lit (.string y))) = R0 True (.d (.lit (.bool (!(x.toList == y.toList))))) := rfl
end
theorem e_b2_d (op : BinOp) (t : Nat) (x : Value) (y : AV) : binR2 T op t (.d (.lit x)) y = binR T op t (.d (.lit x)) y := rfl
theorem e_b2_nil (t sz : Nat) (rows : List (List Dat)) : binR2 T .eql t (.d (.sl sz rows)) (.d (.lit (.slice none 0 0))) = ⟨(T t).known = true ∧ (T t).kind = 1, fun g _ => .d (.lit (.bool (rows.isEmpty && g == 0))), fun _ _ => []⟩ := rfl
theorem e_b2_nnil (t sz : Nat) (rows : List (List Dat)) : binR2 T .neq t (.d (.sl sz rows)) (.d (.lit (.slice none 0 0))) = ⟨(T t).known = true ∧ (T t).kind = 1, fun g _ => .d (.lit (.bool (!(rows.isEmpty && g == 0)))), fun _ _ => []⟩ := rfl
theorem e_b2_agg (op : BinOp) (t : Nat) (xs ys : List AV) : binR2 T op t (.agg xs) (.agg ys) = eqR T op t (litsA xs) (litsA ys) := rfl
def litC (v : Value) (r : Option (List Value)) : Option (List Value) := match r with | some vs => some (v :: vs) | none => none
theorem e_lits_nil : litsA [] = some [] := rfl
theorem e_lits_cons (v : Value) (r : List AV) : litsA (.d (.lit v) :: r) = litC v (litsA r) := rfl
theorem e_litC (v : Value) (vs : List Value) : litC v (some vs) = some (v :: vs) := rfl
def eqO (op : BinOp) (c : Prop) (b : Option Bool) : Res := match op, b with | .eql, some b => R0 c (.d (.lit (.bool b))) | .neq, some b => R0 c (.d (.lit (.bool !b))) | _, _ => Rno
theorem e_eqR (op : BinOp) (t : Nat) (xs ys : List Value) : eqR T op t (some xs) (some ys) = if (T t).kind = 3 then eqO op ((T t).known = true ∧ (T t).eqk = true ∧ (T (T t).elem).known = true) (eqArr T t xs ys) else eqO op ((T t).kind = 2) (eqV T 4 t xs ys) := by
  dsimp only [eqR, eqO, litB]
  split
  · generalize eqArr T t xs ys = b; cases b <;> cases op <;> rfl
  · generalize eqV T 4 t xs ys = b; cases b <;> cases op <;> rfl
theorem e_eqArr (t : Nat) (xs ys : List Value) : eqArr T t xs ys = if (T (T t).elem).agg = false ∧ (T (T t).elem).size = 1 ∧ xs.length = (T t).alen ∧ ys.length = (T t).alen then eqOnes (T (T t).elem).kind xs ys else none := rfl
theorem e_eqOnes_nil (k : Nat) : eqOnes k [] [] = some true := rfl
theorem e_eqOnes_cons (k : Nat) (x y : Value) (xs ys : List Value) : eqOnes k (x :: xs) (y :: ys) = and2 (eqL k x y) (eqOnes k xs ys) := rfl
theorem e_eqO_e (c : Prop) (b : Bool) : eqO .eql c (some b) = R0 c (.d (.lit (.bool b))) := rfl
theorem e_eqO_n (c : Prop) (b : Bool) : eqO .neq c (some b) = R0 c (.d (.lit (.bool !b))) := rfl
theorem e_eqV4 (t : Nat) (xs ys : List Value) : eqV T 4 t xs ys = if (T t).kind = 2 then (if (T t).known = true ∧ (T t).eqk = true then eqFs (eqV T 3) T xs ys (T t).fields else none) else if (T t).known = true ∧ (T t).agg = false then eq1 (T t).kind xs ys else none := rfl
theorem e_eqV3 (t : Nat) (xs ys : List Value) : eqV T 3 t xs ys = if (T t).kind = 2 then (if (T t).known = true ∧ (T t).eqk = true then eqFs (eqV T 2) T xs ys (T t).fields else none) else if (T t).known = true ∧ (T t).agg = false then eq1 (T t).kind xs ys else none := rfl
theorem e_eqV2 (t : Nat) (xs ys : List Value) : eqV T 2 t xs ys = if (T t).kind = 2 then (if (T t).known = true ∧ (T t).eqk = true then eqFs (eqV T 1) T xs ys (T t).fields else none) else if (T t).known = true ∧ (T t).agg = false then eq1 (T t).kind xs ys else none := rfl
theorem e_eqV1 (t : Nat) (xs ys : List Value) : eqV T 1 t xs ys = if (T t).kind = 2 then (if (T t).known = true ∧ (T t).eqk = true then eqFs (eqV T 0) T xs ys (T t).fields else none) else if (T t).known = true ∧ (T t).agg = false then eq1 (T t).kind xs ys else none := rfl
theorem e_eqFs_nil (rec : Nat → List Value → List Value → Option Bool) (xs ys : List Value) : eqFs rec T xs ys [] = some true := rfl
theorem e_eqFs_cons (rec : Nat → List Value → List Value → Option Bool) (xs ys : List Value) (off ft : Nat) (fs : List (Nat × Nat)) : eqFs rec T xs ys ((off, ft) :: fs) = if (T ft).known = true ∧ off + (T ft).size ≤ xs.length ∧ off + (T ft).size ≤ ys.length then
      and2 (rec ft ((xs.drop off).take (T ft).size) ((ys.drop off).take (T ft).size)) (eqFs rec T xs ys fs) else none := rfl
theorem e_and2 (a b : Bool) : and2 (some a) (some b) = some (a && b) := rfl
theorem e_eq1 (k : Nat) (x y : Value) : eq1 k [x] [y] = eqL k x y := rfl
theorem e_eqL_i (k : Nat) (ik : IntKind) (a b : Int) : eqL k (.int ik a) (.int ik b) = if k = 5 then some (a == b) else none := by simp [eqL]
theorem e_eqL_s (k : Nat) (a b : ByteArray) : eqL k (.string a) (.string b) = if k = 4 then some (a.toList == b.toList) else none := rfl
theorem e_eqL_b (k : Nat) (a b : Bool) : eqL k (.bool a) (.bool b) = if k = 6 then some (a == b) else none := rfl
theorem e_allocR (n d t : Nat) : allocR T n (some d) t = ⟨(T t).known = true ∧ d < n, fun g _ => .ptr d g 0, fun g _ => [(d, .box g ((T t).zero.map fun z => .d (.lit z)))]⟩ := rfl
def boxR' (n d : Nat) (cs : List AV) : Res := ⟨d < n ∧ oneCells cs = true, fun g _ => .ptr d g 0, fun g _ => [(d, .box g cs)]⟩
theorem e_boxR (n d : Nat) (cs : List AV) : boxR' n d cs = ⟨d < n ∧ oneCells cs = true, fun g _ => .ptr d g 0, fun g _ => [(d, .box g cs)]⟩ := rfl
theorem e_box_agg (n d : Nat) (cs : List AV) : boxR n (some d) (.agg cs) = boxR' n d cs := rfl
theorem e_box_d (n d : Nat) (x : Dat) : boxR n (some d) (.d x) = boxR' n d [.d x] := rfl
theorem e_box_own (n d t : Nat) (u : Value) : boxR n (some d) (.own t u) = boxR' n d [.own t u] := rfl
theorem e_box_clo (n d : Nat) (f : Fn) (cs : List AV) : boxR n (some d) (.clo f cs) = boxR' n d [.clo f cs] := rfl
theorem e_one_nil : oneCells [] = true := rfl
theorem e_one_d (x : Dat) (cs : List AV) : oneCells (.d x :: cs) = oneCells cs := rfl
theorem e_one_own (t : Nat) (u : Value) (cs : List AV) : oneCells (.own t u :: cs) = oneCells cs := rfl
theorem e_one_clo (f : Fn) (ds cs : List AV) : oneCells (.clo f ds :: cs) = oneCells cs := rfl
theorem e_one_ptr (t g o : Nat) (cs : List AV) : oneCells (.ptr t g o :: cs) = oneCells cs := rfl
theorem e_cells_agg (cs : List AV) : cellsA (.agg cs) = some cs := rfl
theorem e_cells_d (x : Dat) : cellsA (.d x) = some [.d x] := rfl
theorem e_cells_own (t : Nat) (u : Value) : cellsA (.own t u) = some [.own t u] := rfl
theorem e_cells_clo (f : Fn) (cs : List AV) : cellsA (.clo f cs) = some [.clo f cs] := rfl
theorem e_cells_ptr (t g o : Nat) : cellsA (.ptr t g o) = some [.ptr t g o] := rfl
theorem e_ob_own (t : Nat) (u : Value) : obOf σ (.own t u) = objD σ.o t := rfl
theorem e_ob_ptr (t g off : Nat) : obOf σ (.ptr t g off) = objD σ.o t := rfl
theorem e_ob_elo (t : Nat) (u : Value) (s n off : Nat) : obOf σ (.elo t u s n off) = objD σ.o t := rfl
theorem e_ob_d (x : Dat) : obOf σ (.d x) = .no := rfl
theorem e_ob_el (r : List Dat) (off : Nat) : obOf σ (.el r off) = .no := rfl
theorem e_ob_agg (cs : List AV) : obOf σ (.agg cs) = .no := rfl
theorem e_load_box (t d g off : Nat) (cs : List AV) : loadR T t (.ptr d g off) (.box g cs) = R0 (g = g ∧ (T t).known = true ∧ off + (T t).size ≤ cs.length ∧ ((T t).agg = true ∨ (T t).size = 1)) (takeA T t cs off) := rfl
theorem e_load_fzb (t d g off : Nat) (ds : List Dat) : loadR T t (.ptr d g off) (.fzb g ds) = R0 (g = g ∧ (T t).known = true ∧ off + (T t).size ≤ ds.length ∧ ((T t).agg = true ∨ (T t).size = 1)) (takeA T t (ds.map .d) off) := rfl
theorem e_load_el (t off : Nat) (row : List Dat) (ob : AObj) : loadR T t (.el row off) ob = R0 ((T t).known = true ∧ off + (T t).size ≤ row.length ∧ ((T t).agg = true ∨ (T t).size = 1)) (takeA T t (row.map .d) off) := by cases ob <;> rfl
theorem e_load_elo (t d sz n off : Nat) (v : Value) (e : TypeId) (rows : List (List Dat)) : loadR T t (.elo d v sz n off) (.row v e sz rows) = R0 (v = v ∧ sz = sz ∧ n < rows.length ∧ (T t).known = true ∧ off + (T t).size ≤ sz ∧ ((T t).agg = true ∨ (T t).size = 1)) (takeA T t ((rows.getD n []).map .d) off) := rfl
def storeB (T : Tab) (n t d off : Nat) (g : Nat) (cs : List AV) (ys : Option (List AV)) : Res := match ys with
  | some ys => ⟨g = g ∧ d < n ∧ (T t).known = true ∧ ys.length = (T t).size ∧ off + ys.length ≤ cs.length ∧ oneCells ys = true, fun _ _ => .any, fun _ _ => [(d, .box g (setMany cs off ys))]⟩
  | none => Rno
theorem e_storeX_ptr (ob : List AObj) (t d g off : Nat) (x : AObj) (y : AV) : storeX T ob t (.ptr d g off) x y = storeR T ob.length t (.ptr d g off) x y := rfl
theorem e_storeX_d (ob : List AObj) (t d sz i off : Nat) (v : Value) (x : AObj) (y : Dat) : storeX T ob t (.elo d v sz i off) x (.d y) = storeR T ob.length t (.elo d v sz i off) x (.d y) := rfl
def storeC' (ok : Prop) (ni : Prop) (es : List (Nat × AObj)) (r : Res) : Res := ⟨ok ∧ ni ∧ r.cond, fun _ _ => .any, fun g u => es ++ r.eff g u⟩
theorem e_storeX_own (ob : List AObj) (t d sz i off t' : Nat) (v u : Value) (x : AObj) : storeX T ob t (.elo d v sz i off) x (.own t' u) = storeC' (clOk ob (.own t' u)) (notIn d (idsOf (.own t' u))) (frzEff ob (idsOf (.own t' u))) (storeR T ob.length t (.elo d v sz i off) x (cl ob (.own t' u))) := rfl
theorem e_storeX_agg (ob : List AObj) (t d sz i off : Nat) (v : Value) (x : AObj) (cs : List AV) : storeX T ob t (.elo d v sz i off) x (.agg cs) = storeC' (clOk ob (.agg cs)) (notIn d (idsOf (.agg cs))) (frzEff ob (idsOf (.agg cs))) (storeR T ob.length t (.elo d v sz i off) x (cl ob (.agg cs))) := rfl
theorem e_storeX_el (ob : List AObj) (t d sz i off o' : Nat) (v : Value) (x : AObj) (row : List Dat) : storeX T ob t (.elo d v sz i off) x (.el row o') = storeC' True (notIn d []) [] (storeR T ob.length t (.elo d v sz i off) x (.el row o')) := rfl
theorem e_storeC' (ok ni : Prop) (es : List (Nat × AObj)) (c : Prop) (av : Nat → Value → AV) (eff : Nat → Value → List (Nat × AObj)) : storeC' ok ni es ⟨c, av, eff⟩ = ⟨ok ∧ ni ∧ c, fun _ _ => .any, fun g u => es ++ eff g u⟩ := rfl
theorem e_notIn_nil (d : Nat) : notIn d [] = True := rfl
theorem e_notIn_cons (d a : Nat) (r : List Nat) : notIn d (a :: r) = (a ≠ d ∧ notIn d r) := rfl
theorem e_store_box (n t d g off : Nat) (cs : List AV) (y : AV) : storeR T n t (.ptr d g off) (.box g cs) y = storeB T n t d off g cs (cellsA y) := by
  unfold storeR storeB
  cases cellsA y <;> rfl
theorem e_storeB (n t d g off : Nat) (cs ys : List AV) : storeB T n t d off g cs (some ys) = ⟨g = g ∧ d < n ∧ (T t).known = true ∧ ys.length = (T t).size ∧ off + ys.length ≤ cs.length ∧ oneCells ys = true, fun _ _ => .any, fun _ _ => [(d, .box g (setMany cs off ys))]⟩ := rfl
def storeE (T : Tab) (n t d : Nat) (v : Value) (e : TypeId) (sz i off : Nat) (rows : List (List Dat)) (m : Nat) (ds : Option (List Dat)) : Res := match ds with
  | some ds => ⟨v = v ∧ sz = sz ∧ d < n ∧ i < rows.length ∧ (T t).known = true ∧ m = (T t).size ∧ off + m ≤ sz, fun _ _ => .any, fun _ _ => [(d, .row v e sz (rows.set i (setMany (rows.getD i []) off ds)))]⟩
  | none => Rno
theorem e_store_elo (n t d sz i off : Nat) (v : Value) (e : TypeId) (rows : List (List Dat)) (x : Dat) : storeR T n t (.elo d v sz i off) (.row v e sz rows) (.d x) = storeE T n t d v e sz i off rows 1 (some [x]) := rfl
theorem e_store_elo_agg (n t d sz i off : Nat) (v : Value) (e : TypeId) (rows : List (List Dat)) (ys : List AV) : storeR T n t (.elo d v sz i off) (.row v e sz rows) (.agg ys) = storeE T n t d v e sz i off rows ys.length (allD ys) := by
  show (match allD ys with | some ds => _ | none => _) = _
  unfold storeE
  cases allD ys <;> rfl
theorem e_storeE (n t d : Nat) (v : Value) (e : TypeId) (sz i off : Nat) (rows : List (List Dat)) (m : Nat) (ds : List Dat) : storeE T n t d v e sz i off rows m (some ds) = ⟨v = v ∧ sz = sz ∧ d < n ∧ i < rows.length ∧ (T t).known = true ∧ m = (T t).size ∧ off + m ≤ sz, fun _ _ => .any, fun _ _ => [(d, .row v e sz (rows.set i (setMany (rows.getD i []) off ds)))]⟩ := rfl
def faR (T : Tab) (s : Nat) (p : Option (Nat × Nat)) (f : Nat → AV) : Res := match p with
  | some (fo, ft) => R0 ((T s).known = true ∧ (T s).kind = 2 ∧ (T ft).known = true ∧ (T ft).size ≠ 0) (f fo)
  | none => Rno
theorem e_fa_ptr (s f d g off : Nat) : fieldAddrR T s f (.ptr d g off) = faR T s ((T s).fields[f]?) (fun fo => .ptr d g (off + fo)) := by
  unfold fieldAddrR faR; cases (T s).fields[f]? <;> rfl
theorem e_fa_el (s f off : Nat) (r : List Dat) : fieldAddrR T s f (.el r off) = faR T s ((T s).fields[f]?) (fun fo => .el r (off + fo)) := by
  unfold fieldAddrR faR; cases (T s).fields[f]? <;> rfl
theorem e_fa_elo (s f d sz n off : Nat) (u : Value) : fieldAddrR T s f (.elo d u sz n off) = faR T s ((T s).fields[f]?) (fun fo => .elo d u sz n (off + fo)) := by
  unfold fieldAddrR faR; cases (T s).fields[f]? <;> rfl
theorem e_faR (s fo ft : Nat) (f : Nat → AV) : faR T s (some (fo, ft)) f = R0 ((T s).known = true ∧ (T s).kind = 2 ∧ (T ft).known = true ∧ (T ft).size ≠ 0) (f fo) := rfl
def fdR (T : Tab) (s : Nat) (p : Option (Nat × Nat)) (cs : List AV) : Res := match p with
  | some (fo, ft) => R0 ((T s).known = true ∧ (T s).kind = 2 ∧ (T ft).known = true ∧ fo + (T ft).size ≤ cs.length ∧ ((T ft).agg = true ∨ (T ft).size = 1)) (takeA T ft cs fo)
  | none => Rno
theorem e_fd (s f : Nat) (cs : List AV) : fieldR T s f (.agg cs) = fdR T s ((T s).fields[f]?) cs := by
  unfold fieldR fdR; cases (T s).fields[f]? <;> rfl
theorem e_fdR (s fo ft : Nat) (cs : List AV) : fdR T s (some (fo, ft)) cs = R0 ((T s).known = true ∧ (T s).kind = 2 ∧ (T ft).known = true ∧ fo + (T ft).size ≤ cs.length ∧ ((T ft).agg = true ∨ (T ft).size = 1)) (takeA T ft cs fo) := rfl
section
variable {t : Nat} {k : IntKind} {n : Int}
theorem e_ia_d (sz : Nat) (rows : List (List Dat)) (ob : AObj) : indexAddrR T t (.d (.sl sz rows)) ob (.d (.lit (.int k n))) = R0 ((T t).known = true ∧ (T t).kind = 1 ∧ (T (T t).elem).known = true ∧ sz = (T (T t).elem).size ∧ inB n rows.length) (.el (rows.getD n.toNat []) 0) := by cases ob <;> rfl
theorem e_ia_row (d : Nat) (v : Value) (e : TypeId) (sz : Nat) (rows : List (List Dat)) : indexAddrR T t (.own d v) (.row v e sz rows) (.d (.lit (.int k n))) = R0 ((T t).known = true ∧ (T t).kind = 1 ∧ (T (T t).elem).known = true ∧ sz = (T (T t).elem).size ∧ v = v ∧ inB n rows.length) (.elo d v sz n.toNat 0) := rfl
theorem e_ia_fz (d : Nat) (v : Value) (sz : Nat) (rows : List (List Dat)) : indexAddrR T t (.own d v) (.fz v sz rows) (.d (.lit (.int k n))) = R0 ((T t).known = true ∧ (T t).kind = 1 ∧ (T (T t).elem).known = true ∧ sz = (T (T t).elem).size ∧ v = v ∧ inB n rows.length) (.el (rows.getD n.toNat []) 0) := rfl
theorem e_ia_ptr (d g off : Nat) (ob : AObj) : indexAddrR T t (.ptr d g off) ob (.d (.lit (.int k n))) = R0 ((T t).known = true ∧ (T t).kind = 3 ∧ (T (T t).elem).known = true ∧ inB n (T t).alen) (.ptr d g (off + n.toNat * (T (T t).elem).size)) := by cases ob <;> rfl
theorem e_ia_el (r : List Dat) (off : Nat) (ob : AObj) : indexAddrR T t (.el r off) ob (.d (.lit (.int k n))) = R0 ((T t).known = true ∧ (T t).kind = 3 ∧ (T (T t).elem).known = true ∧ inB n (T t).alen) (.el r (off + n.toNat * (T (T t).elem).size)) := by cases ob <;> rfl
theorem e_ix_s (s : ByteArray) : indexR T t (.d (.lit (.string s))) (.d (.lit (.int k n))) = R0 ((T t).known = true ∧ (T t).kind = 4 ∧ inB n s.size) (.d (.lit (.int .u8 (byteAt s n)))) := rfl
theorem e_ix_a (cs : List AV) : indexR T t (.agg cs) (.d (.lit (.int k n))) = R0 ((T t).known = true ∧ (T t).kind = 3 ∧ (T (T t).elem).known = true ∧ inB n (T t).alen ∧ n.toNat * (T (T t).elem).size + (T (T t).elem).size ≤ cs.length ∧ ((T (T t).elem).agg = true ∨ (T (T t).elem).size = 1)) (takeA T (T t).elem cs (n.toNat * (T (T t).elem).size)) := rfl
theorem e_len_s (s : ByteArray) (ob : AObj) : lenR T t (.d (.lit (.string s))) ob = R0 ((T t).known = true ∧ (T t).kind = 4) (.d (.lit (.int .i64 s.size))) := by cases ob <;> rfl
theorem e_len_nil (ob : AObj) : lenR T t (.d (.lit (.slice none 0 0))) ob = R0 ((T t).known = true ∧ (T t).kind = 1) (.d (.lit (.int .i64 0))) := by cases ob <;> rfl
theorem e_len_d (sz : Nat) (rows : List (List Dat)) (ob : AObj) : lenR T t (.d (.sl sz rows)) ob = R0 ((T t).known = true ∧ (T t).kind = 1) (.d (.lit (.int .i64 rows.length))) := by cases ob <;> rfl
theorem e_len_row (d : Nat) (v : Value) (e : TypeId) (sz : Nat) (rows : List (List Dat)) : lenR T t (.own d v) (.row v e sz rows) = R0 ((T t).known = true ∧ (T t).kind = 1 ∧ v = v) (.d (.lit (.int .i64 rows.length))) := rfl
theorem e_len_fz (d : Nat) (v : Value) (sz : Nat) (rows : List (List Dat)) : lenR T t (.own d v) (.fz v sz rows) = R0 ((T t).known = true ∧ (T t).kind = 1 ∧ v = v) (.d (.lit (.int .i64 rows.length))) := rfl
theorem e_conv_i (s : Nat) (ob : AObj) : convertR2 T s t (.d (.lit (.int k n))) ob = R0 ((T s).known = true ∧ (T t).known = true ∧ (T t).kind = 5) (.d (.lit (.int (T t).ik ((T t).ik.wrap n)))) := rfl
theorem e_conv_s (s : Nat) (b : ByteArray) (ob : AObj) : convertR2 T s t (.d (.lit (.string b))) ob = R0 ((T s).known = true ∧ (T t).known = true ∧ (T t).kind = 4) (.d (.lit (.string b))) := rfl
theorem e_conv_own (s d : Nat) (v : Value) (e : TypeId) (sz : Nat) (rows : List (List Dat)) : convertR2 T s t (.own d v) (.row v e sz rows) = R0 ((T s).known = true ∧ (T s).kind = 1 ∧ (T (T s).elem).known = true ∧ (T (T s).elem).kind = 5 ∧ (T (T s).elem).ik = .u8 ∧ (T t).known = true ∧ (T t).kind = 4 ∧ (v = v ∧ sz = 1) ∧ ∀ r ∈ rows, isByteR r) (.d (.lit (.string ⟨(rows.map byteR).toArray⟩))) := rfl
theorem e_extr (i : Nat) (cs : List AV) : extractR i (.tup cs) = R0 (i < cs.length) (cs.getD i .any) := rfl
theorem e_maxR (k' : IntKind) (a b : Int) : maxR (.d (.lit (.int k a))) (.d (.lit (.int k' b))) = R0 True (.d (.lit (.int k (if b > a then b else a)))) := rfl
theorem e_minR (k' : IntKind) (a b : Int) : minR (.d (.lit (.int k a))) (.d (.lit (.int k' b))) = R0 True (.d (.lit (.int k (if b < a then b else a)))) := rfl
theorem e_nil_ptr (d g off : Nat) : nilR (.ptr d g off) = R0 True (.ptr d g off) := rfl
theorem e_nil_el (r : List Dat) (off : Nat) : nilR (.el r off) = R0 True (.el r off) := rfl
theorem e_nil_elo (d : Nat) (u : Value) (s n off : Nat) : nilR (.elo d u s n off) = R0 True (.elo d u s n off) := rfl
theorem e_rows_d (sz s : Nat) (rows : List (List Dat)) (ob : AObj) : rowsA sz (.d (.sl s rows)) ob = some rows := by cases ob <;> rfl
theorem e_rows_row (sz d : Nat) (v u : Value) (e : TypeId) (s : Nat) (rows : List (List Dat)) : rowsA sz (.own d u) (.row v e s rows) = some rows := rfl
theorem e_rows_fz (sz d : Nat) (v u : Value) (s : Nat) (rows : List (List Dat)) : rowsA sz (.own d u) (.fz v s rows) = some rows := rfl
theorem e_rok_row (sz d : Nat) (v u : Value) (e : TypeId) (s : Nat) (rows : List (List Dat)) : rowsOk sz (.own d u) (.row v e s rows) = (u = v ∧ s = sz) := rfl
theorem e_rok_fz (sz d : Nat) (v u : Value) (s : Nat) (rows : List (List Dat)) : rowsOk sz (.own d u) (.fz v s rows) = (u = v ∧ s = sz) := rfl
def appR (T : Tab) (n : Nat) (t : Nat) (d : Nat) (v : Value) (e : TypeId) (sz : Nat) (rows : List (List Dat)) (ok : Prop) (ys : Option (List (List Dat))) : Res := match ys with
  | some ys => ⟨appendOk T t rows.length ys.length ∧ ok ∧ v = v ∧ e = (T t).elem ∧ sz = (T (T t).elem).size ∧ d < n, fun _ v' => .own d v', fun _ v' => [(d, .row v' e sz (rows ++ ys))]⟩
  | none => Rno
theorem e_app_row (m d : Nat) (v : Value) (e : TypeId) (sz : Nat) (rows : List (List Dat)) (x : AV) (ox : AObj) : appendR T m dst t (.own d v) (.row v e sz rows) x ox = appR T m t d v e sz rows (rowsOk sz x ox) (rowsA (T (T t).elem).size x ox) := by
  unfold appendR appR; cases rowsA (T (T t).elem).size x ox <;> rfl
theorem e_appR (m d : Nat) (v : Value) (e : TypeId) (sz : Nat) (rows : List (List Dat)) (ok : Prop) (ys : List (List Dat)) : appR T m t d v e sz rows ok (some ys) = ⟨appendOk T t rows.length ys.length ∧ ok ∧ v = v ∧ e = (T t).elem ∧ sz = (T (T t).elem).size ∧ d < m, fun _ v' => .own d v', fun _ v' => [(d, .row v' e sz (rows ++ ys))]⟩ := rfl
def appN (T : Tab) (n : Nat) (t : Nat) (d : Nat) (ok : Prop) (ys : Option (List (List Dat))) : Res := match ys with
  | some ys => ⟨appendOk T t 0 ys.length ∧ ok ∧ d < n, fun _ v' => .own d v', fun _ v' => [(d, .row v' (T t).elem (T (T t).elem).size ys)]⟩
  | none => Rno
theorem e_app_nil (m d : Nat) (os : AObj) (x : AV) (ox : AObj) : appendR T m (some d) t (.d (.lit (.slice none 0 0))) os x ox = appN T m t d (rowsOk (T (T t).elem).size x ox) (rowsA (T (T t).elem).size x ox) := by
  unfold appendR appN; cases rowsA (T (T t).elem).size x ox <;> cases os <;> rfl
theorem e_appH_row (m d : Nat) (dst : Option Nat) (u v : Value) (e : TypeId) (sz : Nat) (rows : List (List Dat)) (x : AV) (ox : AObj) : appendH T false m dst t (.own d u) (.row v e sz rows) x ox = appendR T m dst t (.own d u) (.row v e sz rows) x ox := rfl
theorem e_appH_nil (m : Nat) (dst : Option Nat) (os : AObj) (x : AV) (ox : AObj) : appendH T false m dst t (.d (.lit (.slice none 0 0))) os x ox = appendR T m dst t (.d (.lit (.slice none 0 0))) os x ox := rfl
def appK (T : Tab) (n t d : Nat) (v : Value) (e sz : Nat) (rows : List (List Dat)) (ok : Prop) (ys : Option (List (List Dat))) : Res := match ys with
  | some ys => ⟨appendOk T t rows.length ys.length ∧ ok ∧ v = v ∧ e = (T t).elem ∧ sz = (T (T t).elem).size ∧ d < n, fun _ _ => .d (.sl sz (rows ++ ys)), fun _ _ => [(d, .room v e sz rows ys)]⟩
  | none => Rno
theorem e_appHK (m d : Nat) (dst : Option Nat) (v : Value) (e : TypeId) (sz : Nat) (rows : List (List Dat)) (x : AV) (ox : AObj) : appendH T true m dst t (.own d v) (.row v e sz rows) x ox = appK T m t d v e sz rows (rowsOk sz x ox) (rowsA (T (T t).elem).size x ox) := by
  show appendK T m t (.own d v) (.row v e sz rows) x ox = _
  unfold appendK appK; cases rowsA (T (T t).elem).size x ox <;> rfl
theorem e_appK (m d : Nat) (v : Value) (e : TypeId) (sz : Nat) (rows : List (List Dat)) (ok : Prop) (ys : List (List Dat)) : appK T m t d v e sz rows ok (some ys) = ⟨appendOk T t rows.length ys.length ∧ ok ∧ v = v ∧ e = (T t).elem ∧ sz = (T (T t).elem).size ∧ d < m, fun _ _ => .d (.sl sz (rows ++ ys)), fun _ _ => [(d, .room v e sz rows ys)]⟩ := rfl
def roomX (T : Tab) (n t d : Nat) (v : Value) (e sz : Nat) (rows ys : List (List Dat)) (ok : Prop) (zs : Option (List (List Dat))) : Res := match zs with
  | some zs => ⟨appendOk T t rows.length ys.length ∧ ok ∧ v = v ∧ zs = ys ∧ flatRows ys ∧ e = (T t).elem ∧ sz = (T (T t).elem).size ∧ d < n, fun _ _ => .d (.sl sz (rows ++ ys)), fun _ _ => []⟩
  | none => Rno
theorem e_appH_room (m d : Nat) (dst : Option Nat) (v : Value) (e : TypeId) (sz : Nat) (rows ys : List (List Dat)) (x : AV) (ox : AObj) : appendH T false m dst t (.own d v) (.room v e sz rows ys) x ox = roomX T m t d v e sz rows ys (rowsOk sz x ox) (rowsA (T (T t).elem).size x ox) := by
  show roomR T m t d v v e sz rows ys x ox = _
  unfold roomR roomX; cases rowsA (T (T t).elem).size x ox <;> rfl
theorem e_roomX (m d : Nat) (v : Value) (e : TypeId) (sz : Nat) (rows ys : List (List Dat)) (ok : Prop) (zs : List (List Dat)) : roomX T m t d v e sz rows ys ok (some zs) = ⟨appendOk T t rows.length ys.length ∧ ok ∧ v = v ∧ zs = ys ∧ flatRows ys ∧ e = (T t).elem ∧ sz = (T (T t).elem).size ∧ d < m, fun _ _ => .d (.sl sz (rows ++ ys)), fun _ _ => []⟩ := rfl
theorem e_appN (m d : Nat) (ok : Prop) (ys : List (List Dat)) : appN T m t d ok (some ys) = ⟨appendOk T t 0 ys.length ∧ ok ∧ d < m, fun _ v' => .own d v', fun _ v' => [(d, .row v' (T t).elem (T (T t).elem).size ys)]⟩ := rfl
theorem e_make (m d : Nat) (k' : IntKind) (a b : Int) : makeR T m (some d) t (.d (.lit (.int k a))) (.d (.lit (.int k' b))) = ⟨(T t).known = true ∧ (T t).kind = 1 ∧ (T (T t).elem).known = true ∧ 0 < (T (T t).elem).size ∧ d < m ∧ a = b ∧ 0 ≤ a ∧ a * (T (T t).elem).bytes ≤ 281474976710656 ∧ a ≤ 9223372036854775807,
      fun _ v => .own d v, fun _ v => [(d, .row v (T t).elem (T (T t).elem).size (List.replicate a.toNat ((T (T t).elem).zero.map .lit)))]⟩ := rfl
end
theorem e_bnd_none (d : Int) : bnd none d = some d := rfl
theorem e_bnd_some (d n : Int) (k : IntKind) : bnd (some (.d (.lit (.int k n)))) d = some n := rfl
theorem e_optmap_none (f : Operand → AV) : Option.map f none = none := rfl
theorem e_optmap_some (f : Operand → AV) (x : Operand) : Option.map f (some x) = some (f x) := rfl
def slR (c : Int → Int → Prop) (r : Int → Int → AV) (e : List (Nat × AObj)) (l h : Option Int) : Res := match l, h with
  | some l, some h => ⟨c l h, fun _ _ => r l h, fun _ _ => e⟩
  | _, _ => Rno
theorem e_slR (c : Int → Int → Prop) (r : Int → Int → AV) (l h : Int) : slR c r [] (some l) (some h) = R0 (c l h) (r l h) := rfl
theorem e_slRe (c : Int → Int → Prop) (r : Int → Int → AV) (e : Nat × AObj) (es : List (Nat × AObj)) (l h : Int) : slR c r (e :: es) (some l) (some h) = ⟨c l h, fun _ _ => r l h, fun _ _ => e :: es⟩ := rfl
theorem e_sl_s (n t : Nat) (s : ByteArray) (ob : AObj) (lo hi : Option AV) : sliceR T n t (.d (.lit (.string s))) ob lo hi = slR (fun l h => (T t).known = true ∧ (T t).kind = 4 ∧ sliceOk l h s.size) (fun l h => .d (.lit (.string (s.extract l.toNat h.toNat)))) [] (bnd lo 0) (bnd hi s.size) := by
  cases ob <;> dsimp only [sliceR, slR] <;> (cases bnd lo 0 <;> cases bnd hi s.size <;> rfl)
theorem e_sl_d (n t sz : Nat) (rows : List (List Dat)) (ob : AObj) (lo hi : Option AV) : sliceR T n t (.d (.sl sz rows)) ob lo hi = slR (fun l h => (T t).known = true ∧ (T t).kind = 1 ∧ (T (T t).elem).known = true ∧ sz = (T (T t).elem).size ∧ sliceOk l h rows.length) (fun l h => .d (.sl sz (cutRows rows l h))) [] (bnd lo 0) (bnd hi rows.length) := by
  cases ob <;> dsimp only [sliceR, slR] <;> (cases bnd lo 0 <;> cases bnd hi rows.length <;> rfl)
theorem e_slM_d (t sz : Nat) (rows : List (List Dat)) (k k' : IntKind) (h m : Int) : sliceMR T t (.d (.sl sz rows)) (some (.d (.lit (.int k h)))) (some (.d (.lit (.int k' m)))) = R0 ((T t).known = true ∧ (T t).kind = 1 ∧ (T (T t).elem).known = true ∧ h = rows.length ∧ m = rows.length ∧ true = true ∧ true = true) (.d (.sl sz rows)) := rfl
def fill1 (place : Nat → Option (Nat × Nat)) (cs : List AV) (p : Option (Nat × Nat)) (ys : Option (List AV)) (rest : List (Nat × AV)) : Option (List AV) := match p, ys with
  | some (off, size), some ys => if ys.length = size ∧ off + size ≤ cs.length ∧ oneCells ys = true then fillA place (setMany cs off ys) rest else none
  | _, _ => none
theorem e_fill_nil (place : Nat → Option (Nat × Nat)) (cs : List AV) : fillA place cs [] = some cs := rfl
theorem e_fill_cons (place : Nat → Option (Nat × Nat)) (cs : List AV) (i : Nat) (x : AV) (rest : List (Nat × AV)) : fillA place cs ((i, x) :: rest) = fill1 place cs (place i) (cellsA x) rest := rfl
theorem e_fill1 (place : Nat → Option (Nat × Nat)) (cs ys : List AV) (off size : Nat) (rest : List (Nat × AV)) : fill1 place cs (some (off, size)) (some ys) rest = if ys.length = size ∧ off + size ≤ cs.length ∧ oneCells ys = true then fillA place (setMany cs off ys) rest else none := rfl
def plS (T : Tab) (p : Option (Nat × Nat)) : Option (Nat × Nat) := match p with | some (fo, ft) => some (fo, (T ft).size) | none => none
theorem e_placeS (t i : Nat) : placeS T t i = plS T ((T t).fields[i]?) := rfl
theorem e_plS (fo ft : Nat) : plS T (some (fo, ft)) = some (fo, (T ft).size) := rfl
theorem e_placeE (e i : Nat) : placeE T e i = some (i * (T e).size, (T e).size) := rfl
def buildO (c : Prop) (cs : Option (List AV)) : Res := match cs with | some cs => R0 c (.agg cs) | none => Rno
theorem e_buildO (c : Prop) (cs : List AV) : buildO c (some cs) = R0 c (.agg cs) := rfl
def buildK (T : Tab) (t k : Nat) (ps : List (Nat × AV)) : Res := match k with
  | 2 => buildO ((T t).known = true ∧ ((T t).fields.all fun f => (T f.2).known) = true) (fillA (placeS T t) ((T t).zero.map fun z => .d (.lit z)) ps)
  | 3 => buildO ((T t).known = true ∧ (T (T t).elem).known = true) (fillA (placeE T (T t).elem) ((T t).zero.map fun z => .d (.lit z)) ps)
  | _ => Rno
theorem e_build1 (t : Nat) (ps : List (Nat × AV)) : buildR T t ps = buildK T t (T t).kind ps := by
  unfold buildR buildK buildO
  generalize (T t).kind = k
  split
  · cases fillA (placeS T t) ((T t).zero.map fun z => .d (.lit z)) ps <;> rfl
  · cases fillA (placeE T (T t).elem) ((T t).zero.map fun z => .d (.lit z)) ps <;> rfl
  · rename_i h2 h3; split
    · exact absurd rfl h2
    · exact absurd rfl h3
    · rfl
theorem e_build2 (t : Nat) (ps : List (Nat × AV)) : buildK T t 2 ps = buildO ((T t).known = true ∧ ((T t).fields.all fun f => (T f.2).known) = true) (fillA (placeS T t) ((T t).zero.map fun z => .d (.lit z)) ps) := rfl
theorem e_build3 (t : Nat) (ps : List (Nat × AV)) : buildK T t 3 ps = buildO ((T t).known = true ∧ (T (T t).elem).known = true) (fillA (placeE T (T t).elem) ((T t).zero.map fun z => .d (.lit z)) ps) := rfl
def bsR (T : Tab) (n d t len : Nat) (ok : Prop) (es : List (Nat × AObj)) (ds : Option (List Dat)) : Res := match ds with
  | some ds => ⟨(T t).known = true ∧ (T t).kind = 1 ∧ (T (T t).elem).known = true ∧ 0 < (T (T t).elem).size ∧ len * (T (T t).elem).size ≤ 16777216 ∧ ds.length = len * (T (T t).elem).size ∧ d < n ∧ ok,
        fun _ v => .own d v, fun _ v => es ++ [(d, .row v (T t).elem (T (T t).elem).size (chunks (T (T t).elem).size len ds))]⟩
  | none => Rno
def bindD (cs : Option (List AV)) : Option (List Dat) := match cs with | some cs => allD cs | none => none
theorem e_bindD (cs : List AV) : bindD (some cs) = allD cs := rfl
theorem e_bs (ob : List AObj) (n d t len : Nat) (ps : List (Nat × AV)) : buildSliceR T ob n (some d) t len ps = bsR T n d t len (clOkL ob (ps.map (·.2))) (frzEff ob (idsOfL (ps.map (·.2)))) (bindD (fillA (placeE T (T t).elem) (zerosA T (T t).elem len) (clP ob ps))) := by
  unfold buildSliceR bsR bindD
  cases fillA (placeE T (T t).elem) (zerosA T (T t).elem len) (clP ob ps) with
  | none => rfl
  | some cs => dsimp only; cases allD cs <;> rfl
theorem e_bsR (n d t len : Nat) (ok : Prop) (es : List (Nat × AObj)) (ds : List Dat) : bsR T n d t len ok es (some ds) = ⟨(T t).known = true ∧ (T t).kind = 1 ∧ (T (T t).elem).known = true ∧ 0 < (T (T t).elem).size ∧ len * (T (T t).elem).size ≤ 16777216 ∧ ds.length = len * (T (T t).elem).size ∧ d < n ∧ ok,
        fun _ v => .own d v, fun _ v => es ++ [(d, .row v (T t).elem (T (T t).elem).size (chunks (T (T t).elem).size len ds))]⟩ := rfl
def allD1 (x : Dat) (r : Option (List Dat)) : Option (List Dat) := match r with | some ds => some (x :: ds) | none => none
theorem e_allD_nil : allD [] = some [] := rfl
theorem e_allD_cons (x : Dat) (r : List AV) : allD (.d x :: r) = allD1 x (allD r) := rfl
theorem e_allD_el (row : List Dat) (off : Nat) (r : List AV) : allD (.el row off :: r) = allD1 (.ptr row off) (allD r) := rfl
def allD2 (f : Fn) (c r : Option (List Dat)) : Option (List Dat) := match c with | some ds => allD1 (.fn f ds) r | none => none
theorem e_allD2 (f : Fn) (ds : List Dat) (r : Option (List Dat)) : allD2 f (some ds) r = allD1 (.fn f ds) r := rfl
theorem e_allD1 (x : Dat) (r : List Dat) : allD1 x (some r) = some (x :: r) := rfl
theorem e_chunk0 (sz : Nat) (ds : List Dat) : chunks sz 0 ds = [] := rfl
theorem e_chunkS (sz n : Nat) (ds : List Dat) : chunks sz (n + 1) ds = ds.take sz :: chunks sz n (ds.drop sz) := rfl
theorem e_clP_nil (o : List AObj) : clP o [] = [] := rfl
theorem e_clP_cons (o : List AObj) (i : Nat) (x : AV) (ps : List (Nat × AV)) : clP o ((i, x) :: ps) = (i, cl o x) :: clP o ps := rfl
theorem e_cl_d (o : List AObj) (x : Dat) : cl o (.d x) = .d x := rfl
theorem e_cl_any (o : List AObj) : cl o .any = .any := rfl
theorem e_cl_el (o : List AObj) (r : List Dat) (off : Nat) : cl o (.el r off) = .el r off := rfl
theorem e_cl_agg (o : List AObj) (cs : List AV) : cl o (.agg cs) = .agg (clL o cs) := rfl
theorem e_cl_tup (o : List AObj) (cs : List AV) : cl o (.tup cs) = .tup (clL o cs) := rfl
theorem e_cl_clo (o : List AObj) (f : Fn) (cs : List AV) : cl o (.clo f cs) = .clo f (clL o cs) := rfl
def clOwn (x : AObj) : AV := match x with | .row _ _ sz rows => .d (.sl sz rows) | .fz _ sz rows => .d (.sl sz rows) | _ => .any
theorem e_cl_own (o : List AObj) (t : Nat) (u : Value) : cl o (.own t u) = clOwn (objD o t) := rfl
theorem e_clOwn_row (v : Value) (e : TypeId) (sz : Nat) (rows : List (List Dat)) : clOwn (.row v e sz rows) = .d (.sl sz rows) := rfl
theorem e_clOwn_fz (v : Value) (sz : Nat) (rows : List (List Dat)) : clOwn (.fz v sz rows) = .d (.sl sz rows) := rfl
def clPtr (x : AObj) (off : Nat) : AV := match x with | .box _ cs => (match allD cs with | some ds => .el ds off | none => .any) | .fzb _ ds => .el ds off | _ => .any
theorem e_cl_ptr (o : List AObj) (t g off : Nat) : cl o (.ptr t g off) = clPtr (objD o t) off := rfl
def clBox (ds : Option (List Dat)) (off : Nat) : AV := match ds with | some ds => .el ds off | none => .any
theorem e_clPtr_box (g : Nat) (cs : List AV) (off : Nat) : clPtr (.box g cs) off = clBox (allD cs) off := rfl
theorem e_clBox (ds : List Dat) (off : Nat) : clBox (some ds) off = .el ds off := rfl
theorem e_clPtr_fzb (g : Nat) (ds : List Dat) (off : Nat) : clPtr (.fzb g ds) off = .el ds off := rfl
theorem e_clL_nil (o : List AObj) : clL o [] = [] := rfl
theorem e_clL_cons (o : List AObj) (x : AV) (xs : List AV) : clL o (x :: xs) = cl o x :: clL o xs := rfl
theorem e_ok_d (o : List AObj) (x : Dat) : clOk o (.d x) = True := rfl
theorem e_ok_any (o : List AObj) : clOk o .any = True := rfl
theorem e_ok_el (o : List AObj) (r : List Dat) (off : Nat) : clOk o (.el r off) = True := rfl
theorem e_ok_agg (o : List AObj) (cs : List AV) : clOk o (.agg cs) = clOkL o cs := rfl
theorem e_ok_tup (o : List AObj) (cs : List AV) : clOk o (.tup cs) = clOkL o cs := rfl
theorem e_ok_clo (o : List AObj) (f : Fn) (cs : List AV) : clOk o (.clo f cs) = clOkL o cs := rfl
def okOwn (u : Value) (x : AObj) : Prop := match x with | .row v _ _ _ => u = v | .fz v _ _ => u = v | _ => True
theorem e_ok_own (o : List AObj) (t : Nat) (u : Value) : clOk o (.own t u) = okOwn u (objD o t) := rfl
theorem e_okOwn_row (u v : Value) (e : TypeId) (sz : Nat) (rows : List (List Dat)) : okOwn u (.row v e sz rows) = (u = v) := rfl
theorem e_okOwn_fz (u v : Value) (sz : Nat) (rows : List (List Dat)) : okOwn u (.fz v sz rows) = (u = v) := rfl
def okPtr (g : Nat) (x : AObj) : Prop := match x with | .box g' _ => g = g' | .fzb g' _ => g = g' | _ => True
theorem e_ok_ptr (o : List AObj) (t g off : Nat) : clOk o (.ptr t g off) = okPtr g (objD o t) := rfl
theorem e_okPtr_box (g g' : Nat) (cs : List AV) : okPtr g (.box g' cs) = (g = g') := rfl
theorem e_okPtr_fzb (g g' : Nat) (ds : List Dat) : okPtr g (.fzb g' ds) = (g = g') := rfl
theorem e_okL_nil (o : List AObj) : clOkL o [] = True := rfl
theorem e_okL_cons (o : List AObj) (x : AV) (xs : List AV) : clOkL o (x :: xs) = (clOk o x ∧ clOkL o xs) := rfl
theorem e_ids_d (x : Dat) : idsOf (.d x) = [] := rfl
theorem e_ids_any : idsOf .any = [] := rfl
theorem e_ids_el (r : List Dat) (off : Nat) : idsOf (.el r off) = [] := rfl
theorem e_ids_own (t : Nat) (u : Value) : idsOf (.own t u) = [t] := rfl
theorem e_ids_ptr (t g off : Nat) : idsOf (.ptr t g off) = [t] := rfl
theorem e_ids_agg (cs : List AV) : idsOf (.agg cs) = idsOfL cs := rfl
theorem e_ids_tup (cs : List AV) : idsOf (.tup cs) = idsOfL cs := rfl
theorem e_ids_clo (f : Fn) (cs : List AV) : idsOf (.clo f cs) = idsOfL cs := rfl
theorem e_idsL_nil : idsOfL [] = [] := rfl
theorem e_idsL_cons (x : AV) (xs : List AV) : idsOfL (x :: xs) = idsOf x ++ idsOfL xs := rfl
theorem e_frz_nil (o : List AObj) : frzEff o [] = [] := rfl
theorem e_frz_cons (o : List AObj) (t : Nat) (ts : List Nat) : frzEff o (t :: ts) = (t, A.frz (objD o t)) :: frzEff o ts := rfl
theorem e_frz_row (v : Value) (e : TypeId) (sz : Nat) (rows : List (List Dat)) : A.frz (.row v e sz rows) = .fz v sz rows := rfl
theorem e_frz_fz (v : Value) (sz : Nat) (rows : List (List Dat)) : A.frz (.fz v sz rows) = .fz v sz rows := rfl
theorem e_frz_fzb (g : Nat) (ds : List Dat) : A.frz (.fzb g ds) = .fzb g ds := rfl
def frzB (g : Nat) (cs : List AV) (ds : Option (List Dat)) : AObj := match ds with | some ds => .fzb g ds | none => .box g cs
theorem e_frz_box (g : Nat) (cs : List AV) : A.frz (.box g cs) = frzB g cs (allD cs) := rfl
theorem e_frzB (g : Nat) (cs : List AV) (ds : List Dat) : frzB g cs (some ds) = .fzb g ds := rfl
theorem e_flat_lit (v : Value) : flat (.d (.lit v)) = true := rfl
theorem e_flat_sl (sz : Nat) (rows : List (List Dat)) : flat (.d (.sl sz rows)) = false := rfl
theorem e_flat_agg (cs : List AV) : flat (.agg cs) = flatL cs := rfl
theorem e_flat_tup (cs : List AV) : flat (.tup cs) = flatL cs := rfl
theorem e_flat_any : flat .any = true := rfl
theorem e_flat_clo (f : Fn) (cs : List AV) : flat (.clo f cs) = false := rfl
theorem e_flatL_nil : flatL [] = true := rfl
theorem e_flatL_cons (x : AV) (xs : List AV) : flatL (x :: xs) = (flat x && flatL xs) := rfl
theorem e_new_lit (o : List AObj) (v : Value) : newOk o (.d (.lit v)) = True := rfl
theorem e_new_agg (o : List AObj) (cs : List AV) : newOk o (.agg cs) = newOkL o cs := rfl
theorem e_new_tup (o : List AObj) (cs : List AV) : newOk o (.tup cs) = newOkL o cs := rfl
def newOwn (u : Value) (x : AObj) : Prop := match x with | .row v _ _ rows => u = v ∧ flatRows rows | _ => False
theorem e_new_own (o : List AObj) (t : Nat) (u : Value) : newOk o (.own t u) = newOwn u (objD o t) := rfl
theorem e_newOwn_row (u v : Value) (e : TypeId) (sz : Nat) (rows : List (List Dat)) : newOwn u (.row v e sz rows) = (u = v ∧ flatRows rows) := rfl
theorem e_newL_nil (o : List AObj) : newOkL o [] = True := rfl
theorem e_newL_cons (o : List AObj) (x : AV) (xs : List AV) : newOkL o (x :: xs) = (newOk o x ∧ newOkL o xs) := rfl
theorem e_objD (o : List AObj) (t : Nat) : objD o t = o.getD t .no := rfl
theorem e_setMany {α : Type} (cs : List α) (off : Nat) (ys : List α) : setMany cs off ys = cs.take off ++ ys ++ cs.drop (off + ys.length) := rfl
theorem e_takeA (t : Nat) (cs : List AV) (off : Nat) : takeA T t cs off = if (T t).agg = true then .agg ((cs.drop off).take (T t).size) else cs.getD off .any := rfl
theorem e_zerosA (e n : Nat) : zerosA T e n = (List.replicate n ((T e).zero.map fun z => AV.d (.lit z))).flatten := rfl
theorem e_gdL (l : List (Option Nat)) (j : Nat) : gdL l j = l.getD j none := rfl
end
end Go.Proofs.YtopigomfhggkoaaDoor.A
