/- Words for values, memory and own objects, over any program: what a value reads as, what lies in memory. -/
import Derived.Below
import Derived.WalkKit
import Derived.KernelRfl
import Derived.Orders
import Derived.OrdersIn
import Derived.CallsIn
import Derived.Laws.AppendOwn
import Derived.Laws.AppendOwnNone
import Derived.Laws.MakeOwn
import Derived.Laws.ResultCell
set_option linter.unusedVariables false
set_option linter.unusedSimpArgs false
namespace Go.Proofs.YtopigomfhggkoaaDoor.A
open Go.RowKit
inductive Dat where
  | lit (v : Value)
  | sl (sz : Nat) (rows : List (List Dat))
  | ptr (row : List Dat) (off : Nat)
  | fn (f : Fn) (caps : List Dat)
  | mp (es : List (Value × Value))
structure Mem where
  heap : Array Obj
  C : Nat → Prop
def cellH (h : Array Obj) (b o : Nat) : Option Value :=
  match h[b]? with
  | some (.cells c _ _) => c[o]?
  | _ => none
theorem cellH_cell (w : World) (b o : Nat) : w.cell? ⟨b, o, none⟩ = cellH w.heap b o := by
  simp only [World.cell?, cellH]
  cases w.heap[b]? with
  | none => rfl
  | some x => cases x <;> rfl
mutual
def Rep (m : Mem) : Dat → Value → Prop
  | .lit v, x => x = v ∧ v.oneCell' = true
  | .sl sz rows, x => ∃ A c, x = .slice A rows.length c ∧ rows.length ≤ c ∧ c ≤ maxLen ∧ (rows = [] ∨ ∃ b o, A = some ⟨b, o, none⟩ ∧ RepRows m sz b o rows)
  | .ptr row off, x => ∃ b o, x = .pointer (some ⟨b, o + off, none⟩) ∧ RepCells m b o row
  | .fn f caps, x => ∃ vs : List Value, x = .func f #[] vs.toArray ∧ RepL m caps vs
  | .mp es, x => ∃ (r : Nat) (en : Array MapEntry) (cl : Nat), x = .map (some r) ∧ m.C r ∧ m.heap[r]? = some (.map en cl) ∧ (en.toList.map fun e => (e.key, e.val)).Perm es
def RepL (m : Mem) : List Dat → List Value → Prop
  | [], [] => True
  | d :: ds, v :: vs => Rep m d v ∧ RepL m ds vs
  | _, _ => False
def RepRows (m : Mem) (sz : Nat) : Nat → Nat → List (List Dat) → Prop
  | _, _, [] => True
  | b, o, r :: rs => (r.length = sz ∧ RepCells m b o r) ∧ RepRows m sz b (o + sz) rs
def RepCells (m : Mem) : Nat → Nat → List Dat → Prop
  | _, _, [] => True
  | b, o, d :: ds => (m.C b ∧ ∃ v, cellH m.heap b o = some v ∧ Rep m d v) ∧ RepCells m b (o + 1) ds
end
structure MemLe (m m' : Mem) : Prop where
  C : ∀ b, m.C b → m'.C b
  same : ∀ b, m.C b → m'.heap[b]? = m.heap[b]?
theorem MemLe.refl (m : Mem) : MemLe m m := ⟨fun _ h => h, fun _ _ => rfl⟩
theorem MemLe.trans {a b c : Mem} (h : MemLe a b) (k : MemLe b c) : MemLe a c := ⟨fun x hx => k.C x (h.C x hx), fun x hx => (k.same x (h.C x hx)).trans (h.same x hx)⟩
theorem MemLe.cell {m m' : Mem} (h : MemLe m m') {b : Nat} (hb : m.C b) (o : Nat) : cellH m'.heap b o = cellH m.heap b o := by simp only [cellH, h.same b hb]
mutual
theorem Rep.mono {m m' : Mem} (h : MemLe m m') : ∀ (d : Dat) (v : Value), Rep m d v → Rep m' d v
  | .lit _, _, hr => by simpa only [Rep] using hr
  | .sl sz rows, x, hr => by
    simp only [Rep] at hr ⊢
    obtain ⟨A, c, e, h1, h2, h3⟩ := hr
    refine ⟨A, c, e, h1, h2, ?_⟩
    rcases h3 with h3 | ⟨b, o, e2, h3⟩
    · exact .inl h3
    · exact .inr ⟨b, o, e2, RepRows.mono h sz b o rows h3⟩
  | .ptr row off, x, hr => by
    simp only [Rep] at hr ⊢
    obtain ⟨b, o, e, hr⟩ := hr
    exact ⟨b, o, e, RepCells.mono h b o row hr⟩
  | .fn f caps, x, hr => by
    simp only [Rep] at hr ⊢
    obtain ⟨vs, e, hr⟩ := hr
    exact ⟨vs, e, RepL.mono h caps vs hr⟩
  | .mp es, x, hr => by
    simp only [Rep] at hr ⊢
    obtain ⟨r, en, cl, e, h1, h2, h3⟩ := hr
    exact ⟨r, en, cl, e, h.C r h1, (h.same r h1).trans h2, h3⟩
theorem RepL.mono {m m' : Mem} (h : MemLe m m') : ∀ (ds : List Dat) (vs : List Value), RepL m ds vs → RepL m' ds vs
  | [], [], _ => by simp only [RepL]
  | a :: as, v :: vs, hr => by
    simp only [RepL] at hr ⊢
    exact ⟨Rep.mono h a v hr.1, RepL.mono h as vs hr.2⟩
  | [], _ :: _, hr => by simp only [RepL] at hr
  | _ :: _, [], hr => by simp only [RepL] at hr
theorem RepRows.mono {m m' : Mem} (h : MemLe m m') (sz : Nat) : ∀ (b o : Nat) (rows : List (List Dat)), RepRows m sz b o rows → RepRows m' sz b o rows
  | _, _, [], _ => by simp only [RepRows]
  | b, o, r :: rs, hr => by
    simp only [RepRows] at hr ⊢
    exact ⟨⟨hr.1.1, RepCells.mono h b o r hr.1.2⟩, RepRows.mono h sz b (o + sz) rs hr.2⟩
theorem RepCells.mono {m m' : Mem} (h : MemLe m m') : ∀ (b o : Nat) (ds : List Dat), RepCells m b o ds → RepCells m' b o ds
  | _, _, [], _ => by simp only [RepCells]
  | b, o, d :: ds, hr => by
    simp only [RepCells] at hr ⊢
    obtain ⟨⟨hc, v, hv, hd⟩, ht⟩ := hr
    exact ⟨⟨h.C b hc, v, (h.cell hc o).trans hv, Rep.mono h d v hd⟩, RepCells.mono h b (o + 1) ds ht⟩
end
inductive AV where
  | any
  | d (x : Dat)
  | own (t : Nat) (v : Value)
  | ptr (t g off : Nat)
  | el (row : List Dat) (off : Nat)
  | elo (t : Nat) (v : Value) (sz n off : Nat)
  | agg (cs : List AV)
  | tup (cs : List AV)
  | clo (fn : Fn) (caps : List AV)
mutual
def Has (m : Mem) : AV → Value → Prop
  | .any, _ => True
  | .d x, v => Rep m x v
  | .own _ u, v => v = u ∧ v.oneCell' = true
  | .ptr _ g off, v => v = .pointer (some ⟨g, off, none⟩)
  | .el row off, v => ∃ b o, v = .pointer (some ⟨b, o + off, none⟩) ∧ RepCells m b o row
  | .elo _ u sz n off, v => ∃ b len c, u = .slice (some ⟨b, 0, none⟩) len c ∧ v = .pointer (some ⟨b, n * sz + off, none⟩)
  | .agg cs, v => ∃ vs : List Value, v = .agg vs.toArray ∧ HasL m cs vs
  | .tup cs, v => ∃ vs : List Value, v = .tuple vs.toArray ∧ HasL m cs vs
  | .clo fn caps, v => ∃ vs : List Value, v = .func fn #[] vs.toArray ∧ HasL m caps vs
def HasL (m : Mem) : List AV → List Value → Prop
  | [], [] => True
  | a :: as, v :: vs => Has m a v ∧ HasL m as vs
  | _, _ => False
end
mutual
theorem Has.mono {m m' : Mem} (h : MemLe m m') : ∀ (a : AV) (v : Value), Has m a v → Has m' a v
  | .any, _, _ => by simp only [Has]
  | .d x, v, hr => by simp only [Has] at hr ⊢; exact Rep.mono h x v hr
  | .own _ _, _, hr => by simpa only [Has] using hr
  | .ptr _ _ _, _, hr => by simpa only [Has] using hr
  | .el row off, v, hr => by
    simp only [Has] at hr ⊢
    obtain ⟨b, o, e, hr⟩ := hr
    exact ⟨b, o, e, RepCells.mono h b o row hr⟩
  | .elo _ _ _ _ _, _, hr => by simpa only [Has] using hr
  | .agg cs, v, hr => by
    simp only [Has] at hr ⊢
    obtain ⟨vs, e, hr⟩ := hr
    exact ⟨vs, e, HasL.mono h cs vs hr⟩
  | .tup cs, v, hr => by
    simp only [Has] at hr ⊢
    obtain ⟨vs, e, hr⟩ := hr
    exact ⟨vs, e, HasL.mono h cs vs hr⟩
  | .clo fn cs, v, hr => by
    simp only [Has] at hr ⊢
    obtain ⟨vs, e, hr⟩ := hr
    exact ⟨vs, e, HasL.mono h cs vs hr⟩
theorem HasL.mono {m m' : Mem} (h : MemLe m m') : ∀ (as : List AV) (vs : List Value), HasL m as vs → HasL m' as vs
  | [], [], _ => by simp only [HasL]
  | a :: as, v :: vs, hr => by
    simp only [HasL] at hr ⊢
    exact ⟨Has.mono h a v hr.1, HasL.mono h as vs hr.2⟩
  | [], _ :: _, hr => by simp only [HasL] at hr
  | _ :: _, [], hr => by simp only [HasL] at hr
end
theorem HasL.length {m : Mem} : ∀ {as : List AV} {vs : List Value}, HasL m as vs → vs.length = as.length
  | [], [], _ => rfl
  | a :: as, v :: vs, hr => by simp only [HasL] at hr; simp [HasL.length hr.2]
  | [], _ :: _, hr => by simp only [HasL] at hr
  | _ :: _, [], hr => by simp only [HasL] at hr
theorem HasL.get {m : Mem} : ∀ {as : List AV} {vs : List Value}, HasL m as vs → ∀ (i : Nat) (a : AV), as[i]? = some a → ∃ v, vs[i]? = some v ∧ Has m a v
  | [], _, _, i, a, h => by simp at h
  | x :: as, v :: vs, hr, i, a, h => by
    simp only [HasL] at hr
    cases i with
    | zero => simp at h; subst h; exact ⟨v, by simp, hr.1⟩
    | succ i => simpa using HasL.get hr.2 i a (by simpa using h)
  | _ :: _, [], hr, _, _, _ => by simp only [HasL] at hr
theorem HasL.set {m : Mem} {a : AV} {v : Value} (ha : Has m a v) : ∀ {as : List AV} {vs : List Value}, HasL m as vs → ∀ (i : Nat), HasL m (as.set i a) (vs.set i v)
  | [], [], _, i => by simp only [List.set_nil, HasL]
  | x :: as, y :: vs, hr, i => by
    simp only [HasL] at hr
    cases i with
    | zero => simp only [List.set_cons_zero, HasL]; exact ⟨ha, hr.2⟩
    | succ i => simp only [List.set_cons_succ, HasL]; exact ⟨hr.1, HasL.set ha hr.2 i⟩
  | [], _ :: _, hr, _ => by simp only [HasL] at hr
  | _ :: _, [], hr, _ => by simp only [HasL] at hr
theorem HasL.append {m : Mem} : ∀ {as : List AV} {vs : List Value}, HasL m as vs → ∀ {as' : List AV} {vs' : List Value}, HasL m as' vs' → HasL m (as ++ as') (vs ++ vs')
  | [], [], _, _, _, h' => h'
  | x :: as, y :: vs, hr, as', vs', h' => by
    simp only [HasL] at hr
    simp only [List.cons_append, HasL]
    exact ⟨hr.1, HasL.append hr.2 h'⟩
  | [], _ :: _, hr, _, _, _ => by simp only [HasL] at hr
  | _ :: _, [], hr, _, _, _ => by simp only [HasL] at hr
theorem HasL.drop {m : Mem} : ∀ {as : List AV} {vs : List Value}, HasL m as vs → ∀ n, HasL m (as.drop n) (vs.drop n)
  | [], [], h, n => by simpa using h
  | x :: as, y :: vs, hr, n => by
    simp only [HasL] at hr
    cases n with
    | zero => simp only [List.drop_zero, HasL]; exact hr
    | succ n => simpa using HasL.drop hr.2 n
  | [], _ :: _, hr, _ => by simp only [HasL] at hr
  | _ :: _, [], hr, _ => by simp only [HasL] at hr
theorem HasL.take {m : Mem} : ∀ {as : List AV} {vs : List Value}, HasL m as vs → ∀ n, HasL m (as.take n) (vs.take n)
  | [], [], h, n => by simpa using h
  | x :: as, y :: vs, hr, n => by
    simp only [HasL] at hr
    cases n with
    | zero => simp only [List.take_zero, HasL]
    | succ n => simp only [List.take_succ_cons, HasL]; exact ⟨hr.1, HasL.take hr.2 n⟩
  | [], _ :: _, hr, _ => by simp only [HasL] at hr
  | _ :: _, [], hr, _ => by simp only [HasL] at hr
theorem HasL.replicate_any {m : Mem} (v : Value) : ∀ n, HasL m (List.replicate n .any) (List.replicate n v)
  | 0 => by simp only [List.replicate, HasL]
  | n + 1 => by simp only [List.replicate_succ, HasL, Has]; exact ⟨trivial, HasL.replicate_any v n⟩
def DatL (m : Mem) : List Dat → List Value → Prop
  | [], [] => True
  | a :: as, v :: vs => Rep m a v ∧ DatL m as vs
  | _, _ => False
theorem DatL.mono {m m' : Mem} (h : MemLe m m') : ∀ {as : List Dat} {vs : List Value}, DatL m as vs → DatL m' as vs
  | [], [], _ => trivial
  | a :: as, v :: vs, hr => ⟨Rep.mono h a v hr.1, DatL.mono h hr.2⟩
  | [], _ :: _, hr => hr.elim
  | _ :: _, [], hr => hr.elim
theorem DatL.length {m : Mem} : ∀ {as : List Dat} {vs : List Value}, DatL m as vs → vs.length = as.length
  | [], [], _ => rfl
  | a :: as, v :: vs, hr => by simp [DatL.length hr.2]
  | [], _ :: _, hr => hr.elim
  | _ :: _, [], hr => hr.elim
theorem DatL.hasL {m : Mem} : ∀ {as : List Dat} {vs : List Value}, DatL m as vs → HasL m (as.map .d) vs
  | [], [], _ => by simp only [List.map_nil, HasL]
  | a :: as, v :: vs, hr => by simp only [List.map_cons, HasL, Has]; exact ⟨hr.1, DatL.hasL hr.2⟩
  | [], _ :: _, hr => hr.elim
  | _ :: _, [], hr => hr.elim
theorem DatL.append {m : Mem} : ∀ {as : List Dat} {vs : List Value}, DatL m as vs → ∀ {as' : List Dat} {vs' : List Value}, DatL m as' vs' → DatL m (as ++ as') (vs ++ vs')
  | [], [], _, _, _, h => h
  | _ :: _, _ :: _, hr, _, _, h => ⟨hr.1, DatL.append hr.2 h⟩
  | [], _ :: _, hr, _, _, _ => hr.elim
  | _ :: _, [], hr, _, _, _ => hr.elim
theorem DatL.set {m : Mem} {d : Dat} {x : Value} (hd : Rep m d x) : ∀ {as : List Dat} {vs : List Value}, DatL m as vs → ∀ i, DatL m (as.set i d) (vs.set i x)
  | [], [], _, i => trivial
  | a :: as, v :: vs, hr, 0 => ⟨hd, hr.2⟩
  | a :: as, v :: vs, hr, i + 1 => ⟨hr.1, DatL.set hd hr.2 i⟩
  | [], _ :: _, hr, _ => hr.elim
  | _ :: _, [], hr, _ => hr.elim
theorem DatL.get {m : Mem} : ∀ {as : List Dat} {vs : List Value}, DatL m as vs → ∀ (i : Nat) (d : Dat), as[i]? = some d → ∃ v, vs[i]? = some v ∧ Rep m d v
  | [], [], _, i, d, h => by simp at h
  | a :: as, v :: vs, hr, 0, d, h => by simp at h; subst h; exact ⟨v, rfl, hr.1⟩
  | a :: as, v :: vs, hr, i + 1, d, h => by simpa using DatL.get hr.2 i d (by simpa using h)
  | [], _ :: _, hr, _, _, _ => hr.elim
  | _ :: _, [], hr, _, _, _ => hr.elim
theorem DatL.take {m : Mem} : ∀ {as : List Dat} {vs : List Value}, DatL m as vs → ∀ n, DatL m (as.take n) (vs.take n)
  | [], [], h, n => by simpa using h
  | a :: as, v :: vs, hr, 0 => trivial
  | a :: as, v :: vs, hr, n + 1 => ⟨hr.1, DatL.take hr.2 n⟩
  | [], _ :: _, hr, _ => hr.elim
  | _ :: _, [], hr, _ => hr.elim
theorem DatL.drop {m : Mem} : ∀ {as : List Dat} {vs : List Value}, DatL m as vs → ∀ n, DatL m (as.drop n) (vs.drop n)
  | [], [], h, n => by simpa using h
  | a :: as, v :: vs, hr, 0 => hr
  | a :: as, v :: vs, hr, n + 1 => DatL.drop hr.2 n
  | [], _ :: _, hr, _ => hr.elim
  | _ :: _, [], hr, _ => hr.elim
theorem Rep.one {m : Mem} : ∀ {d : Dat} {v : Value}, Rep m d v → v.oneCell' = true
  | .lit _, _, h => by simp only [Rep] at h; rw [h.1]; exact h.2
  | .sl _ _, _, h => by simp only [Rep] at h; obtain ⟨A, c, rfl, _⟩ := h; rfl
  | .ptr _ _, _, h => by simp only [Rep] at h; obtain ⟨b, o, rfl, _⟩ := h; rfl
  | .fn _ _, _, h => by simp only [Rep] at h; obtain ⟨vs, rfl, _⟩ := h; rfl
  | .mp _, _, h => by simp only [Rep] at h; obtain ⟨r, en, cl, rfl, _⟩ := h; rfl
def capA : Dat → AV
  | .ptr row off => .el row off
  | d => .d d
theorem RepL.has {m : Mem} : ∀ {ds : List Dat} {vs : List Value}, RepL m ds vs → HasL m (ds.map capA) vs
  | [], [], _ => by simp only [List.map_nil, HasL]
  | d :: ds, v :: vs, hr => by
    simp only [RepL] at hr
    simp only [List.map_cons, HasL]
    refine ⟨?_, RepL.has hr.2⟩
    have h1 := hr.1
    cases d with
    | ptr row off => simp only [Rep] at h1; simp only [capA, Has]; exact h1
    | lit v => simp only [capA, Has]; exact h1
    | sl sz rows => simp only [capA, Has]; exact h1
    | fn f caps => simp only [capA, Has]; exact h1
    | mp es => simp only [capA, Has]; exact h1
  | [], _ :: _, hr => by simp only [RepL] at hr
  | _ :: _, [], hr => by simp only [RepL] at hr
theorem DatL.repL {m : Mem} : ∀ {ds : List Dat} {vs : List Value}, DatL m ds vs → RepL m ds vs
  | [], [], _ => by simp only [RepL]
  | d :: ds, v :: vs, hr => by simp only [RepL]; exact ⟨hr.1, DatL.repL hr.2⟩
  | [], _ :: _, hr => hr.elim
  | _ :: _, [], hr => hr.elim
theorem DatL.one {m : Mem} : ∀ {as : List Dat} {vs : List Value}, DatL m as vs → ∀ v ∈ vs, v.oneCell' = true
  | [], [], _, v, h => by simp at h
  | a :: as, x :: vs, hr, v, h => by
    rcases List.mem_cons.1 h with rfl | h
    · exact hr.1.one
    · exact DatL.one hr.2 v h
  | [], _ :: _, hr, _, _ => hr.elim
  | _ :: _, [], hr, _, _ => hr.elim
theorem RepCells.get {m : Mem} : ∀ {b o : Nat} {ds : List Dat}, RepCells m b o ds → ∀ (i : Nat) (d : Dat), ds[i]? = some d → m.C b ∧ ∃ v, cellH m.heap b (o + i) = some v ∧ Rep m d v
  | _, _, [], _, i, d, h => by simp at h
  | b, o, x :: ds, hr, i, d, h => by
    simp only [RepCells] at hr
    cases i with
    | zero => simp at h; subst h; exact hr.1
    | succ i =>
      have := RepCells.get hr.2 i d (by simpa using h)
      rw [show o + (i + 1) = o + 1 + i from by omega]
      exact this
theorem RepCells.mk {m : Mem} {b : Nat} (hC : m.C b) : ∀ {o : Nat} {ds : List Dat} {vs : List Value}, DatL m ds vs → (∀ i v, vs[i]? = some v → cellH m.heap b (o + i) = some v) → RepCells m b o ds
  | o, [], [], _, _ => by simp only [RepCells]
  | o, d :: ds, v :: vs, hr, h => by
    simp only [RepCells]
    refine ⟨⟨hC, v, by simpa using h 0 v rfl, hr.1⟩, RepCells.mk hC hr.2 fun i x hx => ?_⟩
    rw [show o + 1 + i = o + (i + 1) from by omega]
    exact h (i + 1) x (by simpa using hx)
  | _, [], _ :: _, hr, _ => hr.elim
  | _, _ :: _, [], hr, _ => hr.elim
theorem RepCells.drop {m : Mem} {b o : Nat} {ds : List Dat} (h : RepCells m b o ds) (n : Nat) : RepCells m b (o + n) (ds.drop n) := by
  induction n generalizing o ds with
  | zero => simpa using h
  | succ n ih =>
    cases ds with
    | nil => simp only [List.drop_nil, RepCells]
    | cons d ds =>
      simp only [RepCells] at h
      rw [show o + (n + 1) = o + 1 + n from by omega]
      simpa using ih h.2
theorem RepCells.take {m : Mem} {b : Nat} : ∀ {o : Nat} {ds : List Dat}, RepCells m b o ds → ∀ n, RepCells m b o (ds.take n)
  | o, [], h, n => by simpa using h
  | o, d :: ds, h, 0 => by simp only [List.take_zero, RepCells]
  | o, d :: ds, h, n + 1 => by
    simp only [RepCells] at h
    simp only [List.take_succ_cons, RepCells]
    exact ⟨h.1, RepCells.take h.2 n⟩
theorem RepCells.vals {m : Mem} {b : Nat} : ∀ {o : Nat} {ds : List Dat}, RepCells m b o ds → ∃ vs, DatL m ds vs ∧ ∀ i v, vs[i]? = some v → cellH m.heap b (o + i) = some v
  | o, [], _ => ⟨[], trivial, fun i v h => by simp at h⟩
  | o, d :: ds, h => by
    simp only [RepCells] at h
    obtain ⟨⟨hC, v, hv, hd⟩, ht⟩ := h
    obtain ⟨vs, h1, h2⟩ := RepCells.vals ht
    refine ⟨v :: vs, ⟨hd, h1⟩, fun i x hx => ?_⟩
    cases i with
    | zero => simp at hx; subst hx; simpa using hv
    | succ i =>
      rw [show o + (i + 1) = o + 1 + i from by omega]
      exact h2 i x (by simpa using hx)
theorem RepRows.get {m : Mem} {sz b : Nat} : ∀ {o : Nat} {rows : List (List Dat)}, RepRows m sz b o rows → ∀ (i : Nat) (r : List Dat), rows[i]? = some r → r.length = sz ∧ RepCells m b (o + i * sz) r
  | o, [], _, i, r, h => by simp at h
  | o, x :: rs, hr, i, r, h => by
    simp only [RepRows] at hr
    cases i with
    | zero => simp at h; subst h; simpa using hr.1
    | succ i =>
      have := RepRows.get hr.2 i r (by simpa using h)
      rw [show o + (i + 1) * sz = o + sz + i * sz from by rw [Nat.add_mul]; omega]
      exact this
theorem RepRows.drop {m : Mem} {sz b : Nat} (n : Nat) : ∀ {o : Nat} {rows : List (List Dat)}, RepRows m sz b o rows → RepRows m sz b (o + n * sz) (rows.drop n) := by
  induction n with
  | zero => intro o rows h; simpa using h
  | succ n ih =>
    intro o rows h
    cases rows with
    | nil => simp only [List.drop_nil, RepRows]
    | cons r rs =>
      simp only [RepRows] at h
      rw [show o + (n + 1) * sz = o + sz + n * sz from by rw [Nat.add_mul]; omega]
      simpa using ih h.2
theorem RepRows.take {m : Mem} {sz b : Nat} : ∀ {o : Nat} {rows : List (List Dat)}, RepRows m sz b o rows → ∀ n, RepRows m sz b o (rows.take n)
  | o, [], h, n => by simpa using h
  | o, r :: rs, h, 0 => by simp only [List.take_zero, RepRows]
  | o, r :: rs, h, n + 1 => by
    simp only [RepRows] at h
    simp only [List.take_succ_cons, RepRows]
    exact ⟨h.1, RepRows.take h.2 n⟩
def RowVals (m : Mem) (sz : Nat) : List (List Dat) → List Value → Prop
  | [], xs => xs = []
  | r :: rs, xs => r.length = sz ∧ DatL m r (xs.take sz) ∧ RowVals m sz rs (xs.drop sz)
theorem RowVals.mono {m m' : Mem} (h : MemLe m m') {sz : Nat} : ∀ {rows : List (List Dat)} {xs : List Value}, RowVals m sz rows xs → RowVals m' sz rows xs
  | [], _, hr => hr
  | _ :: _, _, hr => ⟨hr.1, hr.2.1.mono h, RowVals.mono h hr.2.2⟩
theorem RowVals.length {m : Mem} {sz : Nat} : ∀ {rows : List (List Dat)} {xs : List Value}, RowVals m sz rows xs → xs.length = rows.length * sz
  | [], _, hr => by rw [show _ = ([] : List Value) from hr]; simp
  | r :: rs, xs, hr => by
    have h1 := hr.2.1.length
    have h2 := RowVals.length hr.2.2
    rw [List.length_take, hr.1] at h1
    rw [List.length_drop] at h2
    rw [List.length_cons, Nat.add_mul]
    omega
theorem RowVals.get {m : Mem} {sz : Nat} : ∀ {rows : List (List Dat)} {xs : List Value}, RowVals m sz rows xs → ∀ (i : Nat) (r : List Dat), rows[i]? = some r → r.length = sz ∧ DatL m r ((xs.drop (i * sz)).take sz)
  | [], _, _, i, r, h => by simp at h
  | x :: rs, xs, hr, i, r, h => by
    cases i with
    | zero => simp at h; subst h; simpa using ⟨hr.1, hr.2.1⟩
    | succ i =>
      have := RowVals.get hr.2.2 i r (by simpa using h)
      rw [List.drop_drop] at this
      rw [show (i + 1) * sz = sz + i * sz from by rw [Nat.add_mul]; omega]
      exact this
theorem RowVals.append {m : Mem} {sz : Nat} : ∀ {rows : List (List Dat)} {xs : List Value}, RowVals m sz rows xs → ∀ {rows' : List (List Dat)} {xs' : List Value}, RowVals m sz rows' xs' → RowVals m sz (rows ++ rows') (xs ++ xs')
  | [], _, hr, _, _, h => by rw [show _ = ([] : List Value) from hr]; simpa using h
  | r :: rs, xs, hr, rows', xs', h => by
    have hl : sz ≤ xs.length := by
      have h1 := hr.2.1.length
      rw [List.length_take, hr.1] at h1
      omega
    refine ⟨hr.1, ?_, ?_⟩
    · rw [List.take_append_of_le_length hl]; exact hr.2.1
    · rw [List.drop_append_of_le_length hl]; exact RowVals.append hr.2.2 h
theorem RowVals.one {m : Mem} {sz : Nat} : ∀ {rows : List (List Dat)} {xs : List Value}, RowVals m sz rows xs → ∀ v ∈ xs, v.oneCell' = true
  | [], _, hr, v, h => by rw [show _ = ([] : List Value) from hr] at h; simp at h
  | r :: rs, xs, hr, v, h => by
    rw [← List.take_append_drop sz xs] at h
    rcases List.mem_append.1 h with h | h
    · exact hr.2.1.one v h
    · exact RowVals.one hr.2.2 v h
theorem RowVals.single {m : Mem} {r : List Dat} {xs : List Value} (h : DatL m r xs) : RowVals m r.length [r] xs := by
  have hl := h.length
  refine ⟨rfl, ?_, ?_⟩
  · rw [← hl, List.take_length]; exact h
  · show _ = _; rw [← hl, List.drop_length]
theorem RowVals.cons {m : Mem} {sz : Nat} {r : List Dat} {xs : List Value} (h : DatL m r xs) (hs : r.length = sz) {rows : List (List Dat)} {ys : List Value} (h' : RowVals m sz rows ys) : RowVals m sz (r :: rows) (xs ++ ys) := by
  subst hs
  exact RowVals.append (RowVals.single h) h'
theorem RepRows.mk {m : Mem} {b sz : Nat} (hC : m.C b) : ∀ {o : Nat} {rows : List (List Dat)} {xs : List Value}, RowVals m sz rows xs → (∀ i v, xs[i]? = some v → cellH m.heap b (o + i) = some v) → RepRows m sz b o rows
  | o, [], _, _, _ => by simp only [RepRows]
  | o, r :: rs, xs, hr, h => by
    simp only [RepRows]
    refine ⟨⟨hr.1, RepCells.mk hC hr.2.1 fun i v hv => ?_⟩, RepRows.mk hC hr.2.2 fun i v hv => ?_⟩
    · rw [List.getElem?_take] at hv
      split at hv
      · exact h i v hv
      · cases hv
    · rw [List.getElem?_drop] at hv
      rw [show o + sz + i = o + (sz + i) from by omega]
      exact h (sz + i) v hv
theorem RepRows.vals {m : Mem} {b sz : Nat} : ∀ {o : Nat} {rows : List (List Dat)}, RepRows m sz b o rows → ∃ xs, RowVals m sz rows xs ∧ ∀ i v, xs[i]? = some v → cellH m.heap b (o + i) = some v
  | o, [], _ => ⟨[], rfl, fun i v h => by simp at h⟩
  | o, r :: rs, h => by
    simp only [RepRows] at h
    obtain ⟨⟨hl, hc⟩, ht⟩ := h
    obtain ⟨vs, h1, h2⟩ := RepCells.vals hc
    obtain ⟨xs, h3, h4⟩ := RepRows.vals ht
    have hvl : vs.length = sz := by rw [h1.length, hl]
    refine ⟨vs ++ xs, RowVals.cons h1 hl h3, fun i v hv => ?_⟩
    by_cases hi : i < vs.length
    · rw [List.getElem?_append_left hi] at hv
      exact h2 i v hv
    · rw [List.getElem?_append_right (by omega)] at hv
      have := h4 _ v hv
      rwa [show o + sz + (i - vs.length) = o + i from by omega] at this
end Go.Proofs.YtopigomfhggkoaaDoor.A
