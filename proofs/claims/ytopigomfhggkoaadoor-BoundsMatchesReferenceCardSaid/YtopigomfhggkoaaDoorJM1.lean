/- What a variable holds, of what it reads as. -/
import Derived.Test.YtopigomfhggkoaaDoorJR2
import Derived.LaidMore
import Derived.OpenShut
import Derived.ChangeArms
import Derived.WideShapes
import Derived.FnData
set_option linter.unusedVariables false
set_option linter.unusedSimpArgs false
namespace Go.Proofs.YtopigomfhggkoaaDoor.A
open Go.RowKit
theorem mapM_map {α β γ : Type} {f : α → Option β} {A : α → γ} {B : β → γ} : ∀ {l : List α} {r : List β}, l.mapM f = some r → (∀ x y, f x = some y → y ∈ r → A x = B y) → l.map A = r.map B
  | [], r, h, _ => by
    simp only [List.mapM_nil] at h
    cases h; rfl
  | x :: l, r, h, hxy => by
    simp only [List.mapM_cons, Option.bind_eq_bind, Option.bind_eq_some_iff, Option.pure_def, Option.some.injEq] at h
    obtain ⟨y, hy, r', hr, rfl⟩ := h
    rw [List.map_cons, List.map_cons, hxy x y hy (List.mem_cons_self ..), mapM_map hr fun a b h1 h2 => hxy a b h1 (List.mem_cons_of_mem _ h2)]
theorem map_open {H : Type} {enc : TypeId × Value → H} {P : Program} {w : World} {base : Nat} {sp : Nat → Bool} {held : Bool} {fuel t k e : Nat} {cs : List Value} {D : List (Lit × DataW H)} {p : List MemPlace} (ht : P.underlying t = some (.map k e))
    (h : DataW.trod enc P w base sp held fuel t cs = some (.map D, p)) (g : Lit × DataW H → Value × Value)
    (hg : ∀ (n : Nat) (x : MapEntry) key d q, keyOf P k x.key = some key → x.val.formed P e = true → DataW.trod enc P w base sp held n e x.val.cells.toList = some (d, q) → (key, d) ∈ D → (x.key, x.val) = g (key, d)) :
    ∃ b es clock, cs = [.map (some b)] ∧ w.heap[b]? = some (.map es clock) ∧ (es.toList.map fun e => (e.key, e.val)).Perm (D.map g) := by
  cases fuel with
  | zero => simp [DataW.trod] at h
  | succ n =>
    have hc : ∃ b, cs = [.map (some b)] := by
      rcases cs with _ | ⟨c, _ | ⟨c', cs⟩⟩
      · simp [DataW.trod, ht] at h
      · cases c <;> simp [DataW.trod, ht] at h
        rename_i r
        cases r with
        | none => simp [DataW.trod, ht] at h
        | some r => exact ⟨_, rfl⟩
      · simp [DataW.trod, ht] at h
    obtain ⟨b, rfl⟩ := hc
    simp only [DataW.trod, ht] at h
    split at h
    · rename_i es clock hb
      split at h
      · simp only [Option.bind_eq_some_iff] at h
        obtain ⟨entries, hm, h⟩ := h
        split at h
        · simp only [Option.some.injEq, Prod.mk.injEq, DataW.map.injEq] at h
          obtain ⟨rfl, rfl⟩ := h
          refine ⟨b, es, clock, rfl, hb, ?_⟩
          have hp := WideShapes.sorted_perm (entries.map (·.1))
          have e1 : (es.toList.map fun e => (e.key, e.val)) = entries.map fun y => g y.1 := by
            refine mapM_map hm fun x y hxy hy => ?_
            simp only [Option.bind_eq_some_iff] at hxy
            obtain ⟨key, hk, hxy⟩ := hxy
            split at hxy
            · rename_i hf
              simp only [Option.map_eq_some_iff] at hxy
              obtain ⟨z, hz, rfl⟩ := hxy
              exact hg n x key z.1 z.2 hk hf hz (hp.symm.mem_iff.1 (List.mem_map.2 ⟨_, hy, rfl⟩))
            · cases hxy
          rw [e1]
          have e2 : (entries.map fun y => g y.1) = (entries.map (·.1)).map g := by rw [List.map_map]; rfl
          rw [e2]
          exact (hp.map g).symm
        · cases h
      · cases h
    · cases h
theorem key_int {P : Program} {k : Nat} {q q' : IntKind} {v : Value} {n : Int} (hk : P.underlying k = some (.int q)) (h : keyOf P k v = some (.int q' n)) : v = .int q n := by
  unfold keyOf at h
  rw [hk] at h
  simp only [mapKey, hk] at h
  cases v <;> simp at h
  obtain ⟨⟨rfl, _⟩, _, rfl⟩ := h
  rfl
theorem key_bool {P : Program} {k : Nat} {v : Value} {b : Bool} (hk : P.underlying k = some .bool) (h : keyOf P k v = some (.bool b)) : v = .bool b := by
  unfold keyOf at h
  rw [hk] at h
  simp only [mapKey, hk] at h
  cases v <;> simp at h
  subst h; rfl
theorem formed_one {P : Program} {t : Nat} {d : TypeDesc} {v : Value} (ht : P.underlying t = some d) (hd : (match d with | .struct _ | .array _ _ => true | _ => false) = false) (h : v.formed P t = true) : v.cells.toList = [v] := by
  cases v <;> first
    | rfl
    | (exfalso; simp only [Value.formed, ht] at h; cases d <;> simp at hd h)
    | (exfalso; simp only [Value.formed] at h; cases h)
theorem formed_agg {P : Program} {t : Nat} {fs : Array Field} {v : Value} (ht : P.underlying t = some (.struct fs)) (h : v.formed P t = true) : ∃ cs, v = .agg cs := by
  cases v <;> first
    | exact ⟨_, rfl⟩
    | (exfalso; simp [Value.formed, ht] at h)
theorem repCell {w : World} {g i : Nat} {c : Value} {d : Dat} (h : w.cell? ⟨g, i, none⟩ = some c) (hr : Rep (M0 w) d c) : (M0 w).C g ∧ ∃ v, cellH (M0 w).heap g i = some v ∧ Rep (M0 w) d v := by
  rw [cellH_cell] at h
  refine ⟨?_, c, h, hr⟩
  show g < w.heap.size
  unfold cellH at h
  by_cases hg : g < w.heap.size
  · exact hg
  · rw [Array.getElem?_eq_none (by omega)] at h
    simp at h
end Go.Proofs.YtopigomfhggkoaaDoor.A
