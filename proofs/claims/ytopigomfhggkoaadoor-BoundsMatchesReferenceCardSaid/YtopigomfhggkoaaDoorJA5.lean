/- The operations that compute: what each yields, of what is known of its operands. -/
import Derived.Test.YtopigomfhggkoaaDoorJA4
set_option linter.unusedVariables false
set_option linter.unusedSimpArgs false
namespace Go.Proofs.YtopigomfhggkoaaDoor.A
open Go.RowKit
structure TI where
  known : Bool := false
  agg : Bool := false
  size : Nat := 1
  bytes : Nat := 8
  zero : List Value := []
  fields : List (Nat × Nat) := []
  elem : Nat := 0
  kind : Nat := 0
  alen : Nat := 0
  ik : IntKind := .i64
  eqk : Bool := false
def TI.ok (P : Program) (t : Nat) (i : TI) : Prop :=
  ∃ info d, P.info? t = some info ∧ P.underlying t = some d ∧ info.size = i.size ∧ info.bytes = i.bytes ∧ (info.zero.map fun z => z.cells.toList) = some i.zero ∧
    (i.zero.all (·.oneCell') = true) ∧ i.zero.length = i.size ∧
    (match d with | .struct _ | .array _ _ => true | _ => false) = i.agg ∧
    (i.kind = 1 → d = .slice i.elem) ∧ (i.kind = 2 → ∃ fs, d = .struct fs ∧ fs.toList.map (fun f => (f.offset, f.type)) = i.fields) ∧
    (i.kind = 3 → d = .array i.alen i.elem) ∧ (i.kind = 4 → d = .string) ∧ (i.kind = 5 → d = .int i.ik) ∧ (i.kind = 6 → d = .bool) ∧ ((i.kind = 7 → d = .pointer i.elem) ∧ (i.kind = 9 → d = .map i.alen i.elem)) ∧
    (i.eqk = true → P.stoodInHeld t = false ∧ P.eqGuardType P.depth t = false ∧ ∀ fs, d = .struct fs → (fs.toList.all fun f => f.name != "_") = true)
abbrev Tab := Nat → TI
def TabOk (P : Program) (T : Tab) : Prop := ∀ t, (T t).known = true → TI.ok P t (T t)
structure Res where
  cond : Prop
  av : Nat → Value → AV
  eff : Nat → Value → List (Nat × AObj)
def R0 (c : Prop) (x : AV) : Res := ⟨c, fun _ _ => x, fun _ _ => []⟩
def Rno : Res := R0 False .any
def Sound (E : Env) (o : Oper) (σ : St) (r : Res) : Prop :=
  r.cond → ∀ a w Q, Sat E σ a w → o.wp E.P a w (fun a' w' => ∃ g u v, a' = a.put o.dst v ∧ Sat E ⟨σ.t, applyEff (r.eff g u) σ.o⟩ a w' ∧ Has (E.mem (applyEff (r.eff g u) σ.o) w') (r.av g u) v) Q
section
variable {E : Env} {o : Oper} {σ : St} {r : Res} {T : Tab}
theorem Sound.no : Sound E o σ Rno := fun h => h.elim
theorem Sound.of (h : r.cond → ∀ a w, Sat E σ a w → ∃ g u v w', (execOp a.eval o).run E.P w = .ok (.value v) w' ∧ Sat E ⟨σ.t, applyEff (r.eff g u) σ.o⟩ a w' ∧ Has (E.mem (applyEff (r.eff g u) σ.o) w') (r.av g u) v) : Sound E o σ r := fun hc a w Q hs => by
  obtain ⟨g, u, v, w', hr, h1, h2⟩ := h hc a w hs
  unfold Oper.wp
  rw [hr]
  exact ⟨g, u, v, rfl, h1, h2⟩
theorem Sound.pure {c : Prop} {x : AV} (h : c → ∀ a w, Sat E σ a w → ∃ v, (execOp a.eval o).run E.P w = .ok (.value v) w ∧ Has (E.mem σ.o w) x v) : Sound E o σ (R0 c x) :=
  Sound.of fun hc a w hs => by
    obtain ⟨v, h1, h2⟩ := h hc a w hs
    exact ⟨0, .nilFunc, v, w, h1, hs, h2⟩
theorem has_lit {m : Mem} {x v : Value} (h : Has m (.d (.lit x)) v) : v = x := by simp only [Has, Rep] at h; exact h.1
theorem has_lit_mk (m : Mem) {x : Value} (h : x.oneCell' = true) : Has m (.d (.lit x)) x := by simp only [Has, Rep]; exact ⟨trivial, h⟩
theorem sound_move {x : Operand} (ho : o.op = .move x ∨ o.op = .assign x) (hx : opOk x = true) : Sound E o σ (R0 True (σ.eval x)) :=
  Sound.pure fun _ a w hs => ⟨a.eval x, by rcases ho with ho | ho <;> simp [execOp, ho, Sem.run], hs.eval x hx⟩
def pickR (c x y : AV) : Res := match c with | .d (.lit (.bool q)) => R0 True (if q = true then x else y) | _ => Rno
theorem sound_pick {c x y : Operand} (ho : o.op = .pick c x y) (hc : opOk c = true) (hx : opOk x = true) (hy : opOk y = true) : Sound E o σ (pickR (σ.eval c) (σ.eval x) (σ.eval y)) := by
  unfold pickR
  split
  · rename_i q hq
    refine Sound.pure fun _ a w hs => ?_
    have h1 := hs.eval c hc
    rw [hq] at h1
    refine ⟨if q = true then a.eval x else a.eval y, by simp [execOp, ho, has_lit h1, asBool], ?_⟩
    cases q
    · exact hs.eval y hy
    · exact hs.eval x hx
  · exact Sound.no
def unR (op : UnOp) (x : AV) : Res := match op, x with
  | .not, .d (.lit (.bool b)) => R0 True (.d (.lit (.bool !b)))
  | .neg, .d (.lit (.int k n)) => R0 True (.d (.lit (.int k (k.wrap (0 - n)))))
  | _, _ => Rno
theorem sound_un {op : UnOp} {t : TypeId} {x : Operand} (ho : o.op = .unOp op t x) (hx : opOk x = true) : Sound E o σ (unR op (σ.eval x)) := by
  unfold unR
  split
  · rename_i b hb
    refine Sound.pure fun _ a w hs => ?_
    have h1 := hs.eval x hx
    rw [hb] at h1
    exact ⟨.bool !b, by simp [execOp, ho, has_lit h1, Op.unary], has_lit_mk _ rfl⟩
  · rename_i k n hb
    refine Sound.pure fun _ a w hs => ?_
    have h1 := hs.eval x hx
    rw [hb] at h1
    exact ⟨.int k (k.wrap (0 - n)), by simp [execOp, ho, has_lit h1, Op.unary, Op.intArith], has_lit_mk _ rfl⟩
  · exact Sound.no
def litB (b : Bool) : AV := .d (.lit (.bool b))
def litI (k : IntKind) (n : Int) : AV := .d (.lit (.int k n))
def litS (s : ByteArray) : AV := .d (.lit (.string s))
def shrI (k : IntKind) (a b : Int) : Int := a.fdiv (2 ^ (min b.toNat k.bits))
def andI (k : IntKind) (a b : Int) : Int := k.wrap ((BitVec.ofInt k.bits a &&& BitVec.ofInt k.bits b).toNat : Int)
def orI (k : IntKind) (a b : Int) : Int := k.wrap ((BitVec.ofInt k.bits a ||| BitVec.ofInt k.bits b).toNat : Int)
def xorI (k : IntKind) (a b : Int) : Int := k.wrap ((BitVec.ofInt k.bits a ^^^ BitVec.ofInt k.bits b).toNat : Int)
def andNotI (k : IntKind) (a b : Int) : Int := k.wrap ((BitVec.ofInt k.bits a &&& ~~~ BitVec.ofInt k.bits b).toNat : Int)
def binIntR (op : BinOp) (k : IntKind) (a b : Int) : Res := match op with
  | .add => R0 True (litI k (k.wrap (a + b)))
  | .sub => R0 True (litI k (k.wrap (a - b)))
  | .mul => R0 True (litI k (k.wrap (a * b)))
  | .quo => R0 (b ≠ 0) (litI k (k.wrap (a.tdiv b)))
  | .rem => R0 (b ≠ 0) (litI k (a.tmod b))
  | .eql => R0 True (litB (a == b))
  | .neq => R0 True (litB (a != b))
  | .lss => R0 True (litB (decide (a < b)))
  | .leq => R0 True (litB (decide (a ≤ b)))
  | .gtr => R0 True (litB (decide (a > b)))
  | .geq => R0 True (litB (decide (a ≥ b)))
  | .shl => R0 (0 ≤ b) (litI k (k.wrap (a * 2 ^ (min b.toNat k.bits))))
  | .shr => R0 (0 ≤ b) (litI k (shrI k a b))
  | .and => R0 True (litI k (andI k a b))
  | .or => R0 True (litI k (orI k a b))
  | .xor => R0 True (litI k (xorI k a b))
  | .andNot => R0 True (litI k (andNotI k a b))
def shK (op : BinOp) (k k' : IntKind) : Prop := match op with | .shl => True | .shr => True | _ => k = k'
def binStrR (op : BinOp) (a b : ByteArray) : Res := match op with
  | .add => R0 (a.size + b.size ≤ 9223372036854775807) (litS (a ++ b))
  | .eql => R0 True (litB (a.toList == b.toList))
  | .neq => R0 True (litB (!(a.toList == b.toList)))
  | .lss => R0 True (litB (Op.bytesLess a.toList b.toList))
  | .leq => R0 True (litB (Op.bytesLess a.toList b.toList || a.toList == b.toList))
  | .gtr => R0 True (litB (!(Op.bytesLess a.toList b.toList || a.toList == b.toList)))
  | .geq => R0 True (litB (!Op.bytesLess a.toList b.toList))
  | _ => Rno
def binBoolR (T : Tab) (t : Nat) (op : BinOp) (a b : Bool) : Res := match op with
  | .eql => R0 ((T t).known = true ∧ (T t).kind = 6) (litB (a == b))
  | .neq => R0 ((T t).known = true ∧ (T t).kind = 6) (litB (!(a == b)))
  | _ => Rno
def binR (T : Tab) (op : BinOp) (t : Nat) (x y : AV) : Res := match x, y with
  | .d (.lit (.int k a)), .d (.lit (.int k' b)) => ⟨shK op k k' ∧ (binIntR op k a b).cond, (binIntR op k a b).av, (binIntR op k a b).eff⟩
  | .d (.lit (.string a)), .d (.lit (.string b)) => binStrR op a b
  | .d (.lit (.bool a)), .d (.lit (.bool b)) => binBoolR T t op a b
  | _, _ => Rno
theorem eqGuard_int {P : Program} (op : BinOp) (t : TypeId) (x y : Operand) (k k' : IntKind) (a b : Int) (w : World) : (eqGuard op t x y (.int k a) (.int k' b)).run P w = .ok () w := by
  unfold eqGuard; cases op <;> simp
theorem eqGuard_string {P : Program} (op : BinOp) (t : TypeId) (x y : Operand) (a b : ByteArray) (w : World) : (eqGuard op t x y (.string a) (.string b)).run P w = .ok () w := by
  unfold eqGuard; cases op <;> simp
theorem eqGuard_bool {P : Program} (op : BinOp) (t : TypeId) (x y : Operand) (a b : Bool) (w : World) : (eqGuard op t x y (.bool a) (.bool b)).run P w = .ok () w := by
  unfold eqGuard; cases op <;> simp
theorem equal_succ (t : TypeId) (x y : Value) : Op.equal t x y = Op.equalIn (9999 + 1) t x y := rfl
theorem run_eq_bool {P : Program} {t : TypeId} (h : P.underlying t = some .bool) (a b : Bool) (w : World) : (Op.equal t (.bool a) (.bool b)).run P w = .ok (a == b) w := by
  rw [equal_succ, Op.equalIn]
  simp [run_underlying h]
theorem run_bin {P : Program} {a : Act} {w : World} {op : BinOp} {t yt : TypeId} {x y : Operand} {vx vy v : Value} (ho : o.op = .binOp op t x y yt) (hx : a.eval x = vx) (hy : a.eval y = vy)
    (hg : (eqGuard op t x y vx vy).run P w = .ok () w) (hb : (binOp op t vx vy).run P w = .ok v w) : (execOp a.eval o).run P w = .ok (.value v) w := by
  simp [execOp, ho, hx, hy, hg, hb, Sem.run_bind]
theorem sound_bin (hT : TabOk E.P T) {op : BinOp} {t yt : TypeId} {x y : Operand} (ho : o.op = .binOp op t x y yt) (hx : opOk x = true) (hy : opOk y = true) : Sound E o σ (binR T op t (σ.eval x) (σ.eval y)) := by
  unfold binR
  split
  · rename_i k a k' b e1 e2
    refine Sound.of ?_
    rintro ⟨hkk, hc⟩ ac w hs
    have h1 := has_lit (by have := hs.eval x hx; rwa [e1] at this)
    have h2 := has_lit (by have := hs.eval y hy; rwa [e2] at this)
    refine ⟨0, .nilFunc, ?_⟩
    cases op <;> simp only [shK] at hkk <;> (try subst hkk) <;> simp only [binIntR, Rno, R0] at hc ⊢ <;> first
      | exact hc.elim
      | exact ⟨_, w, run_bin ho h1 h2 (eqGuard_int _ _ _ _ _ _ _ _ _) (by
          have hc' : ¬ (b < 0) := Int.not_lt.2 hc
          simp only [binOp, Op.shift, if_neg hc']; rfl), hs, has_lit_mk _ rfl⟩
      | exact ⟨_, w, run_bin ho h1 h2 (eqGuard_int _ _ _ _ _ _ _ _ _) (by simp only [binOp, Op.intBits, ne_eq, not_true_eq_false, if_false]; rfl), hs, has_lit_mk _ rfl⟩
      | exact ⟨_, w, run_bin ho h1 h2 (eqGuard_int _ _ _ _ _ _ _ _ _) (by
          have hc' : ¬ (b = 0) := hc
          simp only [binOp, Op.intDiv, if_neg hc', ne_eq, not_true_eq_false, if_false]; rfl), hs, has_lit_mk _ rfl⟩
      | exact ⟨_, w, run_bin ho h1 h2 (eqGuard_int _ _ _ _ _ _ _ _ _) (by simp only [binOp, Op.intArith, Op.intCmp, if_neg, not_true_eq_false, not_false_eq_true, ne_eq]; rfl), hs, has_lit_mk _ rfl⟩
  · rename_i a b e1 e2
    unfold binStrR
    refine Sound.of ?_
    intro hc ac w hs
    have h1 := has_lit (by have := hs.eval x hx; rwa [e1] at this)
    have h2 := has_lit (by have := hs.eval y hy; rwa [e2] at this)
    refine ⟨0, .nilFunc, ?_⟩
    cases op
    case add =>
      have hm : ¬ ((a.size + b.size : Nat) : Int) > IntKind.i64.max := by
        have : IntKind.i64.max = 9223372036854775807 := by decide
        rw [this]
        simp only [R0] at hc
        omega
      refine ⟨_, w, run_bin ho h1 h2 (eqGuard_string _ _ _ _ _ _ _) (v := .string (a ++ b)) ?_, hs, has_lit_mk _ rfl⟩
      simp only [binOp, Op.stringOp, if_neg hm]
      rfl
    all_goals
      first
        | exact hc.elim
        | exact ⟨_, w, run_bin ho h1 h2 (eqGuard_string _ _ _ _ _ _ _) (by simp only [binOp, Op.stringOp]; rfl), hs, has_lit_mk _ rfl⟩
  · rename_i a b e1 e2
    unfold binBoolR
    refine Sound.of ?_
    intro hc ac w hs
    have h1 := has_lit (by have := hs.eval x hx; rwa [e1] at this)
    have h2 := has_lit (by have := hs.eval y hy; rwa [e2] at this)
    refine ⟨0, .nilFunc, ?_⟩
    have hb : (T t).known = true ∧ (T t).kind = 6 → E.P.underlying t = some .bool := fun hc => by
      obtain ⟨info, d, _, hu, _, _, _, _, _, _, _, _, _, _, _, hb, _⟩ := hT t hc.1
      rw [hu, hb hc.2]
    cases op <;> first
      | exact hc.elim
      | exact ⟨_, w, run_bin ho h1 h2 (eqGuard_bool _ _ _ _ _ _ _) (by simp only [binOp, Sem.run_bind, run_eq_bool (hb hc), Result.andThen_ok]; rfl), hs, has_lit_mk _ rfl⟩
  · exact Sound.no
end
end Go.Proofs.YtopigomfhggkoaaDoor.A
