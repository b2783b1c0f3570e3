/- The package's variables, of what the rows tell of them. (Written by mk28.py.) The rows' condition gives the walks' one; a world that meets it. BoundsMatchesReference, for whatever reads as its arguments. -/
import Derived.Test.YtopigomfhggkoaaDoorJV14
import Derived.Test.YtopigomfhggkoaaDoorJT
import Derived.Test.YtopigomfhggkoaaDoorJM1
import Derived.Test.YtopigomfhggkoaaDoorRows
import Derived.LaidSub
import Derived.LaidHandle
import Derived.LaidLaws
namespace Go.Proofs.YtopigomfhggkoaaDoor.A
section
set_option linter.unusedVariables false
set_option linter.unusedSimpArgs false
open Go.RowKit
theorem gNull : Tryd.prog.globalNamed "chapman/bounds.null" = some 0 := by kernel_rfl
theorem tNull : (Tryd.prog.globals[0]?).map (·.type) = some 26 := by kernel_rfl
theorem gLogic : Tryd.prog.globalNamed "chapman/bounds.logic" = some 1 := by kernel_rfl
theorem tLogic : (Tryd.prog.globals[1]?).map (·.type) = some 111 := by kernel_rfl
theorem gStrict : Tryd.prog.globalNamed "chapman/bounds.strict" = some 2 := by kernel_rfl
theorem tStrict : (Tryd.prog.globals[2]?).map (·.type) = some 111 := by kernel_rfl
theorem gBools : Tryd.prog.globalNamed "chapman/bounds.bools" = some 3 := by kernel_rfl
theorem tBools : (Tryd.prog.globals[3]?).map (·.type) = some 112 := by kernel_rfl
theorem gChecks : Tryd.prog.globalNamed "chapman/value.checks" = some 4 := by kernel_rfl
theorem tChecks : (Tryd.prog.globals[4]?).map (·.type) = some 124 := by kernel_rfl
theorem c3 : Tryd.prog.cellsOf 3 = 1 := by kernel_rfl
theorem c9 : Tryd.prog.cellsOf 9 = 1 := by kernel_rfl
theorem c26 : Tryd.prog.cellsOf 26 = 3 := by kernel_rfl
theorem c103 : Tryd.prog.cellsOf 103 = 1 := by kernel_rfl
theorem c124 : Tryd.prog.cellsOf 124 = 4 := by kernel_rfl
theorem list3 {α : Type} {l : List α} (h : l.length = 3) : ∃ a b c, l = [a, b, c] := by
  match l, h with
  | [a, b, c], _ => exact ⟨a, b, c, rfl⟩
theorem list4 {α : Type} {l : List α} (h : l.length = 4) : ∃ a b c d, l = [a, b, c, d] := by
  match l, h with
  | [a, b, c, d], _ => exact ⟨a, b, c, d, rfl⟩
theorem val26 {H : Type} {enc : TypeId × Value → H} {w : World} {base : Nat} {sp : Nat → Bool} {held : Bool} {fuel : Nat} {cs : List Value} {a b : Int} {s : List UInt8} {p : List MemPlace}
    (h : DataW.trod enc Tryd.prog w base sp held fuel 26 cs = some (.agg [.lit (.int .i64 a), .lit (.int .i64 b), .lit (.string s)], p)) : cs = [.int .i64 a, .int .i64 b, .string ⟨s.toArray⟩] := by
  obtain ⟨xs, m, rfl, hx, hlen, hxl, hel⟩ := DataW.trod_struct Tryd.underlying26 h
  rw [c26] at hlen
  obtain ⟨k0, k1, k2, rfl⟩ := list3 hlen
  have hxl : xs.length = 3 := hxl
  obtain ⟨x0, x1, x2, rfl⟩ := list3 hxl
  have h0 := hel 0 { name := "K", type := 3, offset := 0, embedded := false, tag := "", pkgPath := "", byteOffset := 0 } rfl
  have h1 := hel 1 { name := "I", type := 3, offset := 1, embedded := false, tag := "", pkgPath := "", byteOffset := 8 } rfl
  have h2 := hel 2 { name := "S", type := 9, offset := 2, embedded := false, tag := "", pkgPath := "", byteOffset := 16 } rfl
  simp only [c3, c9, List.drop_zero, List.drop_succ_cons, List.take_succ_cons, List.take_zero, List.getElem?_cons_zero, List.getElem?_cons_succ] at h0 h1 h2
  obtain ⟨n0, e0, r0, _⟩ := DataW.trod_int Tryd.underlying3 h0
  obtain ⟨n1, e1, r1, _⟩ := DataW.trod_int Tryd.underlying3 h1
  obtain ⟨s2, e2, r2, _⟩ := DataW.trod_string Tryd.underlying9 h2
  simp only [Prod.mk.injEq, DataW.agg.injEq, List.map_cons, List.map_nil, List.cons.injEq, r0, r1, r2, DataW.lit.injEq, Lit.int.injEq, Lit.string.injEq, true_and, and_true] at hx
  obtain ⟨⟨hx0, hx1, hx2⟩, _⟩ := hx
  replace e0 := (List.cons.inj e0).1
  replace e1 := (List.cons.inj e1).1
  replace e2 := (List.cons.inj e2).1
  rw [e0, e1, e2, hx0, hx1, hx2]
theorem fn_name {w : World} {base : Nat} {sp : Nat → Bool} {fuel t : Nat} {x : Value} {b : UInt8} {r : List UInt8} {q : List MemPlace} {f0 : FuncId} {ps rs : Array TypeId} {va : Bool} (ht : Tryd.prog.underlying t = some (.func ps rs va)) (hone : ((List.range Tryd.prog.funcs.size).filter fun f => (Tryd.prog.funcs[f]?).any (·.name.toUTF8.data.toList == b :: r)) = [f0])
    (hf : x.formed Tryd.prog t = true) (h : DataW.trod (funcToken Tryd.prog) Tryd.prog w base sp true fuel t x.cells.toList = some (.held (b :: r), q)) : x = .func (.func f0) #[] #[] := by
  rw [formed_one ht rfl hf] at h
  exact func_of_trod ht hone h
theorem one105 : ((List.range Tryd.prog.funcs.size).filter fun f => (Tryd.prog.funcs[f]?).any (·.name.toUTF8.data.toList == [40, 99, 104, 97, 112, 109, 97, 110, 47, 98, 111, 117, 110, 100, 115, 46, 115, 112, 97, 110, 41, 46, 97, 110, 100])) = [105] := by kernel_rfl
theorem one106 : ((List.range Tryd.prog.funcs.size).filter fun f => (Tryd.prog.funcs[f]?).any (·.name.toUTF8.data.toList == [40, 99, 104, 97, 112, 109, 97, 110, 47, 98, 111, 117, 110, 100, 115, 46, 115, 112, 97, 110, 41, 46, 111, 114])) = [106] := by kernel_rfl
theorem one107 : ((List.range Tryd.prog.funcs.size).filter fun f => (Tryd.prog.funcs[f]?).any (·.name.toUTF8.data.toList == [40, 99, 104, 97, 112, 109, 97, 110, 47, 98, 111, 117, 110, 100, 115, 46, 115, 112, 97, 110, 41, 46, 110, 111, 116])) = [107] := by kernel_rfl
theorem one108 : ((List.range Tryd.prog.funcs.size).filter fun f => (Tryd.prog.funcs[f]?).any (·.name.toUTF8.data.toList == [40, 99, 104, 97, 112, 109, 97, 110, 47, 98, 111, 117, 110, 100, 115, 46, 115, 112, 97, 110, 41, 46, 105, 115, 78, 117, 108, 108])) = [108] := by kernel_rfl
def glogicF : Lit × DataW (List UInt8) → Value × Value := fun x => match x.1 with
  | .int _ n => (.int .i64 n, if n = 6 then .func (.func 105) #[] #[] else if n = 7 then .func (.func 106) #[] #[] else if n = 8 then .func (.func 107) #[] #[] else if n = 9 then .func (.func 108) #[] #[] else .nilFunc)
  | _ => (.nilFunc, .nilFunc)
theorem laid_logic {W : World} (h : funcsAt Tryd.prog W "chapman/bounds.logic" (.map [(.int .i64 6, .iface "func" (.lit (.string [40, 99, 104, 97, 112, 109, 97, 110, 47, 98, 111, 117, 110, 100, 115, 46, 115, 112, 97, 110, 41, 46, 97, 110, 100]))), (.int .i64 7, .iface "func" (.lit (.string [40, 99, 104, 97, 112, 109, 97, 110, 47, 98, 111, 117, 110, 100, 115, 46, 115, 112, 97, 110, 41, 46, 111, 114]))), (.int .i64 8, .iface "func" (.lit (.string [40, 99, 104, 97, 112, 109, 97, 110, 47, 98, 111, 117, 110, 100, 115, 46, 115, 112, 97, 110, 41, 46, 110, 111, 116]))), (.int .i64 9, .iface "func" (.lit (.string [40, 99, 104, 97, 112, 109, 97, 110, 47, 98, 111, 117, 110, 100, 115, 46, 115, 112, 97, 110, 41, 46, 105, 115, 78, 117, 108, 108])))])) : ∃ b en cl, W.cell? ⟨1, 0, none⟩ = some (.map (some b)) ∧ W.heap[b]? = some (.map en cl) ∧ (en.toList.map fun e => (e.key, e.val)).Perm [(.int .i64 6, .func (.func 105) #[] #[]), (.int .i64 7, .func (.func 106) #[] #[]), (.int .i64 8, .func (.func 107) #[] #[]), (.int .i64 9, .func (.func 108) #[] #[])] := by
  obtain ⟨g, t, cs, fuel, p, hg, ht, hv, hd⟩ := h
  obtain rfl := Option.some.inj (gLogic.symm.trans hg)
  obtain rfl := Option.some.inj (tLogic.symm.trans ht)
  have hd' : DataW.trod (funcToken Tryd.prog) Tryd.prog W 0 (fun _ => true) true fuel 111 cs.toList = some (.map [(.int .i64 6, .held [40, 99, 104, 97, 112, 109, 97, 110, 47, 98, 111, 117, 110, 100, 115, 46, 115, 112, 97, 110, 41, 46, 97, 110, 100]), (.int .i64 7, .held [40, 99, 104, 97, 112, 109, 97, 110, 47, 98, 111, 117, 110, 100, 115, 46, 115, 112, 97, 110, 41, 46, 111, 114]), (.int .i64 8, .held [40, 99, 104, 97, 112, 109, 97, 110, 47, 98, 111, 117, 110, 100, 115, 46, 115, 112, 97, 110, 41, 46, 110, 111, 116]), (.int .i64 9, .held [40, 99, 104, 97, 112, 109, 97, 110, 47, 98, 111, 117, 110, 100, 115, 46, 115, 112, 97, 110, 41, 46, 105, 115, 78, 117, 108, 108])], p) := hd
  obtain ⟨b, es, cl, hcs, hb, hp⟩ := map_open Tryd.underlying111 hd' glogicF (fun n x key d q hk hf hr hm => by
    simp only [List.mem_cons, List.not_mem_nil, or_false, Prod.mk.injEq] at hm
    rcases hm with ⟨rfl, rfl⟩ | ⟨rfl, rfl⟩ | ⟨rfl, rfl⟩ | ⟨rfl, rfl⟩
    · rw [key_int Tryd.underlying3 hk, fn_name Tryd.underlying109 one105 hf hr]; rfl
    · rw [key_int Tryd.underlying3 hk, fn_name Tryd.underlying109 one106 hf hr]; rfl
    · rw [key_int Tryd.underlying3 hk, fn_name Tryd.underlying109 one107 hf hr]; rfl
    · rw [key_int Tryd.underlying3 hk, fn_name Tryd.underlying109 one108 hf hr]; rfl)
  refine ⟨b, es, cl, ?_, hb, hp⟩
  have := World.var?_cell hg hv 0
  rw [Array.eq_one_of_toList hcs] at this
  simpa using this
theorem one110 : ((List.range Tryd.prog.funcs.size).filter fun f => (Tryd.prog.funcs[f]?).any (·.name.toUTF8.data.toList == [40, 99, 104, 97, 112, 109, 97, 110, 47, 98, 111, 117, 110, 100, 115, 46, 115, 112, 97, 110, 41, 46, 101, 113, 117, 97, 108])) = [110] := by kernel_rfl
theorem one111 : ((List.range Tryd.prog.funcs.size).filter fun f => (Tryd.prog.funcs[f]?).any (·.name.toUTF8.data.toList == [40, 99, 104, 97, 112, 109, 97, 110, 47, 98, 111, 117, 110, 100, 115, 46, 115, 112, 97, 110, 41, 46, 108, 101, 115, 115])) = [111] := by kernel_rfl
theorem one112 : ((List.range Tryd.prog.funcs.size).filter fun f => (Tryd.prog.funcs[f]?).any (·.name.toUTF8.data.toList == [40, 99, 104, 97, 112, 109, 97, 110, 47, 98, 111, 117, 110, 100, 115, 46, 115, 112, 97, 110, 41, 46, 109, 111, 115, 116])) = [112] := by kernel_rfl
theorem one114 : ((List.range Tryd.prog.funcs.size).filter fun f => (Tryd.prog.funcs[f]?).any (·.name.toUTF8.data.toList == [40, 99, 104, 97, 112, 109, 97, 110, 47, 98, 111, 117, 110, 100, 115, 46, 115, 112, 97, 110, 41, 46, 112, 108, 117, 115])) = [114] := by kernel_rfl
theorem one115 : ((List.range Tryd.prog.funcs.size).filter fun f => (Tryd.prog.funcs[f]?).any (·.name.toUTF8.data.toList == [40, 99, 104, 97, 112, 109, 97, 110, 47, 98, 111, 117, 110, 100, 115, 46, 115, 112, 97, 110, 41, 46, 109, 105, 110, 117, 115])) = [115] := by kernel_rfl
theorem one113 : ((List.range Tryd.prog.funcs.size).filter fun f => (Tryd.prog.funcs[f]?).any (·.name.toUTF8.data.toList == [40, 99, 104, 97, 112, 109, 97, 110, 47, 98, 111, 117, 110, 100, 115, 46, 115, 112, 97, 110, 41, 46, 112, 114, 101, 102, 105, 120])) = [113] := by kernel_rfl
def gstrictF : Lit × DataW (List UInt8) → Value × Value := fun x => match x.1 with
  | .int _ n => (.int .i64 n, if n = 3 then .func (.func 110) #[] #[] else if n = 4 then .func (.func 111) #[] #[] else if n = 5 then .func (.func 112) #[] #[] else if n = 10 then .func (.func 114) #[] #[] else if n = 11 then .func (.func 115) #[] #[] else if n = 12 then .func (.func 113) #[] #[] else .nilFunc)
  | _ => (.nilFunc, .nilFunc)
theorem laid_strict {W : World} (h : funcsAt Tryd.prog W "chapman/bounds.strict" (.map [(.int .i64 3, .iface "func" (.lit (.string [40, 99, 104, 97, 112, 109, 97, 110, 47, 98, 111, 117, 110, 100, 115, 46, 115, 112, 97, 110, 41, 46, 101, 113, 117, 97, 108]))), (.int .i64 4, .iface "func" (.lit (.string [40, 99, 104, 97, 112, 109, 97, 110, 47, 98, 111, 117, 110, 100, 115, 46, 115, 112, 97, 110, 41, 46, 108, 101, 115, 115]))), (.int .i64 5, .iface "func" (.lit (.string [40, 99, 104, 97, 112, 109, 97, 110, 47, 98, 111, 117, 110, 100, 115, 46, 115, 112, 97, 110, 41, 46, 109, 111, 115, 116]))), (.int .i64 10, .iface "func" (.lit (.string [40, 99, 104, 97, 112, 109, 97, 110, 47, 98, 111, 117, 110, 100, 115, 46, 115, 112, 97, 110, 41, 46, 112, 108, 117, 115]))), (.int .i64 11, .iface "func" (.lit (.string [40, 99, 104, 97, 112, 109, 97, 110, 47, 98, 111, 117, 110, 100, 115, 46, 115, 112, 97, 110, 41, 46, 109, 105, 110, 117, 115]))), (.int .i64 12, .iface "func" (.lit (.string [40, 99, 104, 97, 112, 109, 97, 110, 47, 98, 111, 117, 110, 100, 115, 46, 115, 112, 97, 110, 41, 46, 112, 114, 101, 102, 105, 120])))])) : ∃ b en cl, W.cell? ⟨2, 0, none⟩ = some (.map (some b)) ∧ W.heap[b]? = some (.map en cl) ∧ (en.toList.map fun e => (e.key, e.val)).Perm [(.int .i64 3, .func (.func 110) #[] #[]), (.int .i64 4, .func (.func 111) #[] #[]), (.int .i64 5, .func (.func 112) #[] #[]), (.int .i64 10, .func (.func 114) #[] #[]), (.int .i64 11, .func (.func 115) #[] #[]), (.int .i64 12, .func (.func 113) #[] #[])] := by
  obtain ⟨g, t, cs, fuel, p, hg, ht, hv, hd⟩ := h
  obtain rfl := Option.some.inj (gStrict.symm.trans hg)
  obtain rfl := Option.some.inj (tStrict.symm.trans ht)
  have hd' : DataW.trod (funcToken Tryd.prog) Tryd.prog W 0 (fun _ => true) true fuel 111 cs.toList = some (.map [(.int .i64 3, .held [40, 99, 104, 97, 112, 109, 97, 110, 47, 98, 111, 117, 110, 100, 115, 46, 115, 112, 97, 110, 41, 46, 101, 113, 117, 97, 108]), (.int .i64 4, .held [40, 99, 104, 97, 112, 109, 97, 110, 47, 98, 111, 117, 110, 100, 115, 46, 115, 112, 97, 110, 41, 46, 108, 101, 115, 115]), (.int .i64 5, .held [40, 99, 104, 97, 112, 109, 97, 110, 47, 98, 111, 117, 110, 100, 115, 46, 115, 112, 97, 110, 41, 46, 109, 111, 115, 116]), (.int .i64 10, .held [40, 99, 104, 97, 112, 109, 97, 110, 47, 98, 111, 117, 110, 100, 115, 46, 115, 112, 97, 110, 41, 46, 112, 108, 117, 115]), (.int .i64 11, .held [40, 99, 104, 97, 112, 109, 97, 110, 47, 98, 111, 117, 110, 100, 115, 46, 115, 112, 97, 110, 41, 46, 109, 105, 110, 117, 115]), (.int .i64 12, .held [40, 99, 104, 97, 112, 109, 97, 110, 47, 98, 111, 117, 110, 100, 115, 46, 115, 112, 97, 110, 41, 46, 112, 114, 101, 102, 105, 120])], p) := hd
  obtain ⟨b, es, cl, hcs, hb, hp⟩ := map_open Tryd.underlying111 hd' gstrictF (fun n x key d q hk hf hr hm => by
    simp only [List.mem_cons, List.not_mem_nil, or_false, Prod.mk.injEq] at hm
    rcases hm with ⟨rfl, rfl⟩ | ⟨rfl, rfl⟩ | ⟨rfl, rfl⟩ | ⟨rfl, rfl⟩ | ⟨rfl, rfl⟩ | ⟨rfl, rfl⟩
    · rw [key_int Tryd.underlying3 hk, fn_name Tryd.underlying109 one110 hf hr]; rfl
    · rw [key_int Tryd.underlying3 hk, fn_name Tryd.underlying109 one111 hf hr]; rfl
    · rw [key_int Tryd.underlying3 hk, fn_name Tryd.underlying109 one112 hf hr]; rfl
    · rw [key_int Tryd.underlying3 hk, fn_name Tryd.underlying109 one114 hf hr]; rfl
    · rw [key_int Tryd.underlying3 hk, fn_name Tryd.underlying109 one115 hf hr]; rfl
    · rw [key_int Tryd.underlying3 hk, fn_name Tryd.underlying109 one113 hf hr]; rfl)
  refine ⟨b, es, cl, ?_, hb, hp⟩
  have := World.var?_cell hg hv 0
  rw [Array.eq_one_of_toList hcs] at this
  simpa using this
def gboolsF {H : Type} : Lit × DataW H → Value × Value := fun x => match x.1 with
  | .bool b => (.bool b, .agg #[.int .i64 1, .int .i64 (if b = true then 1 else 0), .string ⟨#[]⟩])
  | _ => (.nilFunc, .nilFunc)
theorem laid_bools {W : World} {t cs fuel p} (ht : (Tryd.prog.globals[3]?).map (·.type) = some t) (hv : W.var? Tryd.prog "chapman/bounds.bools" = some cs) (hd : DataW.trod (fun _ => ()) Tryd.prog W 0 (fun _ => true) false fuel t cs.toList = some (.map [(.bool false, .agg [.lit (.int .i64 1), .lit (.int .i64 0), .lit (.string [])]), (.bool true, .agg [.lit (.int .i64 1), .lit (.int .i64 1), .lit (.string [])])], p)) :
    ∃ b en cl, W.cell? ⟨3, 0, none⟩ = some (.map (some b)) ∧ W.heap[b]? = some (.map en cl) ∧ (en.toList.map fun e => (e.key, e.val)).Perm [(.bool false, .agg #[.int .i64 1, .int .i64 0, .string ⟨#[]⟩]), (.bool true, .agg #[.int .i64 1, .int .i64 1, .string ⟨#[]⟩])] := by
  obtain rfl := Option.some.inj (tBools.symm.trans ht)
  obtain ⟨b, es, cl, hcs, hb, hp⟩ := map_open Tryd.underlying112 hd gboolsF (fun n x key d q hk hf hr hm => by
    obtain ⟨ar, har⟩ := formed_agg Tryd.underlying26 hf
    simp only [List.mem_cons, List.not_mem_nil, or_false, Prod.mk.injEq] at hm
    rcases hm with ⟨rfl, rfl⟩ | ⟨rfl, rfl⟩
    · have e := val26 hr
      rw [har] at e ⊢
      have e' : ar.toList = _ := e
      rw [key_bool Tryd.underlying4 hk, ← Array.toArray_toList (xs := ar), e']; rfl
    · have e := val26 hr
      rw [har] at e ⊢
      have e' : ar.toList = _ := e
      rw [key_bool Tryd.underlying4 hk, ← Array.toArray_toList (xs := ar), e']; rfl)
  refine ⟨b, es, cl, ?_, hb, hp⟩
  have := World.var?_cell gBools hv 0
  rw [Array.eq_one_of_toList hcs] at this
  simpa using this
theorem laid_null {W : World} {t cs fuel p} (ht : (Tryd.prog.globals[0]?).map (·.type) = some t) (hv : W.var? Tryd.prog "chapman/bounds.null" = some cs) (hd : DataW.trod (fun _ => ()) Tryd.prog W 0 (fun _ => true) false fuel t cs.toList = some (.agg [.lit (.int .i64 0), .lit (.int .i64 0), .lit (.string [])], p)) :
    ∀ i v, [Value.int .i64 0, .int .i64 0, .string ⟨#[]⟩][i]? = some v → W.cell? ⟨0, i, none⟩ = some v := by
  obtain rfl := Option.some.inj (tNull.symm.trans ht)
  have e := val26 hd
  intro i v hi
  rw [World.var?_cell gNull hv i, ← Array.getElem?_toList, e]
  exact hi
theorem one120 : ((List.range Tryd.prog.funcs.size).filter fun f => (Tryd.prog.funcs[f]?).any (·.name.toUTF8.data.toList == [99, 104, 97, 112, 109, 97, 110, 47, 118, 97, 108, 117, 101, 46, 99, 104, 101, 99, 107, 115, 36, 49])) = [120] := by kernel_rfl
theorem one121 : ((List.range Tryd.prog.funcs.size).filter fun f => (Tryd.prog.funcs[f]?).any (·.name.toUTF8.data.toList == [99, 104, 97, 112, 109, 97, 110, 47, 118, 97, 108, 117, 101, 46, 99, 104, 101, 99, 107, 115, 36, 50])) = [121] := by kernel_rfl
theorem one122 : ((List.range Tryd.prog.funcs.size).filter fun f => (Tryd.prog.funcs[f]?).any (·.name.toUTF8.data.toList == [99, 104, 97, 112, 109, 97, 110, 47, 118, 97, 108, 117, 101, 46, 99, 104, 101, 99, 107, 115, 36, 51])) = [122] := by kernel_rfl
theorem one123 : ((List.range Tryd.prog.funcs.size).filter fun f => (Tryd.prog.funcs[f]?).any (·.name.toUTF8.data.toList == [99, 104, 97, 112, 109, 97, 110, 47, 118, 97, 108, 117, 101, 46, 99, 104, 101, 99, 107, 115, 36, 52])) = [123] := by kernel_rfl
theorem laid_checks {W : World} (h : funcsAt Tryd.prog W "chapman/value.checks" (.agg [.iface "func" (.lit (.string [99, 104, 97, 112, 109, 97, 110, 47, 118, 97, 108, 117, 101, 46, 99, 104, 101, 99, 107, 115, 36, 49])), .iface "func" (.lit (.string [99, 104, 97, 112, 109, 97, 110, 47, 118, 97, 108, 117, 101, 46, 99, 104, 101, 99, 107, 115, 36, 50])), .iface "func" (.lit (.string [99, 104, 97, 112, 109, 97, 110, 47, 118, 97, 108, 117, 101, 46, 99, 104, 101, 99, 107, 115, 36, 51])), .iface "func" (.lit (.string [99, 104, 97, 112, 109, 97, 110, 47, 118, 97, 108, 117, 101, 46, 99, 104, 101, 99, 107, 115, 36, 52]))])) : ∀ i v, [Value.func (.func 120) #[] #[], Value.func (.func 121) #[] #[], Value.func (.func 122) #[] #[], Value.func (.func 123) #[] #[]][i]? = some v → W.cell? ⟨4, i, none⟩ = some v := by
  obtain ⟨g, t, cs, fuel, p, hg, ht, hv, hd⟩ := h
  obtain rfl := Option.some.inj (gChecks.symm.trans hg)
  obtain rfl := Option.some.inj (tChecks.symm.trans ht)
  have hd' : DataW.trod (funcToken Tryd.prog) Tryd.prog W 0 (fun _ => true) true fuel 124 cs.toList = some (.agg [.held [99, 104, 97, 112, 109, 97, 110, 47, 118, 97, 108, 117, 101, 46, 99, 104, 101, 99, 107, 115, 36, 49], .held [99, 104, 97, 112, 109, 97, 110, 47, 118, 97, 108, 117, 101, 46, 99, 104, 101, 99, 107, 115, 36, 50], .held [99, 104, 97, 112, 109, 97, 110, 47, 118, 97, 108, 117, 101, 46, 99, 104, 101, 99, 107, 115, 36, 51], .held [99, 104, 97, 112, 109, 97, 110, 47, 118, 97, 108, 117, 101, 46, 99, 104, 101, 99, 107, 115, 36, 52]], p) := hd
  obtain ⟨xs, m, rfl, hx, hlen, hxl, hel⟩ := DataW.trod_array Tryd.underlying124 hd'
  rw [c124] at hlen
  obtain ⟨k0, k1, k2, k3, e⟩ := list4 hlen
  obtain ⟨x0, x1, x2, x3, rfl⟩ := list4 hxl
  have h0 := hel 0 (by decide)
  have h1 := hel 1 (by decide)
  have h2 := hel 2 (by decide)
  have h3 := hel 3 (by decide)
  rw [e] at h0 h1 h2 h3
  simp only [c103, Nat.zero_mul, Nat.one_mul, Nat.mul_one, List.drop_zero, List.drop_succ_cons, List.take_succ_cons, List.take_zero, List.getElem?_cons_zero, List.getElem?_cons_succ] at h0 h1 h2 h3
  simp only [Prod.mk.injEq, DataW.agg.injEq, List.map_cons, List.map_nil, List.cons.injEq, and_true] at hx
  obtain ⟨⟨hx0, hx1, hx2, hx3⟩, _⟩ := hx
  obtain ⟨d0, p0⟩ := x0
  obtain ⟨d1, p1⟩ := x1
  obtain ⟨d2, p2⟩ := x2
  obtain ⟨d3, p3⟩ := x3
  simp only at hx0 hx1 hx2 hx3
  subst hx0 hx1 hx2 hx3
  obtain rfl := func_of_trod Tryd.underlying103 one120 h0
  obtain rfl := func_of_trod Tryd.underlying103 one121 h1
  obtain rfl := func_of_trod Tryd.underlying103 one122 h2
  obtain rfl := func_of_trod Tryd.underlying103 one123 h3
  intro i v hi
  rw [World.var?_cell hg hv i, ← Array.getElem?_toList, e]
  exact hi
end
section
set_option linter.unusedVariables false
set_option linter.unusedSimpArgs false
open Go.RowKit
abbrev laidL : List (String × DataW Unit) := [("chapman/value.checks", Rows.laid_chapman_value_checks), ("chapman/bounds.null", Rows.laid_chapman_bounds_null), ("chapman/bounds.bools", Rows.laid_chapman_bounds_bools), ("chapman/bounds.logic", Rows.laid_chapman_bounds_logic), ("chapman/bounds.strict", Rows.laid_chapman_bounds_strict)]
theorem heap_lt {W : World} {b : Nat} {o : Obj} (h : W.heap[b]? = some o) : b < W.heap.size := by
  by_cases hg : b < W.heap.size
  · exact hg
  · rw [Array.getElem?_eq_none (by omega)] at h; cases h
theorem laid_M0 {W : World} (h : laidMetH Tryd.prog laidL W) : Laid (M0 W) := by
  have h1 := (laidMetH_iff.1 h).1
  have e : (laidL.filter fun x => x.2.handleName?.isNone) = [("chapman/bounds.null", Rows.laid_chapman_bounds_null), ("chapman/bounds.bools", Rows.laid_chapman_bounds_bools)] := by kernel_rfl
  rw [e] at h1
  obtain ⟨ps, ⟨g0, t0, cs0, f0, p0, q0, hg0, ht0, hv0, hd0, ⟨g3, t3, cs3, f3, p3, q3, hg3, ht3, hv3, hd3, _, _⟩, _⟩, _, _⟩ := h1
  obtain rfl := Option.some.inj (gNull.symm.trans hg0)
  obtain rfl := Option.some.inj (gBools.symm.trans hg3)
  have a0 := laid_null ht0 hv0 hd0
  obtain ⟨b3, en3, cl3, c3', hb3, hp3⟩ := laid_bools ht3 hv3 hd3
  have a4 := laid_checks (h.funcs (n := "chapman/value.checks") (.head _))
  obtain ⟨b1, en1, cl1, c1', hb1, hp1⟩ := laid_logic (h.funcs (n := "chapman/bounds.logic") (.tail _ (.tail _ (.tail _ (.head _)))))
  obtain ⟨b2, en2, cl2, c2', hb2, hp2⟩ := laid_strict (h.funcs (n := "chapman/bounds.strict") (.tail _ (.tail _ (.tail _ (.tail _ (.head _))))))
  intro p hp
  simp only [globs, List.mem_cons, List.not_mem_nil, or_false] at hp
  rcases hp with rfl | rfl | rfl | rfl | rfl
  · refine ⟨repCell (a0 0 _ rfl) ?_, repCell (a0 1 _ rfl) ?_, repCell (a0 2 _ rfl) ?_, trivial⟩
    all_goals (simp only [Rep]; exact ⟨trivial, rfl⟩)
  · refine ⟨repCell c1' ?_, trivial⟩
    simp only [Rep]
    exact ⟨b1, en1, cl1, rfl, heap_lt hb1, hb1, hp1⟩
  · refine ⟨repCell c2' ?_, trivial⟩
    simp only [Rep]
    exact ⟨b2, en2, cl2, rfl, heap_lt hb2, hb2, hp2⟩
  · refine ⟨repCell c3' ?_, trivial⟩
    simp only [Rep]
    exact ⟨b3, en3, cl3, rfl, heap_lt hb3, hb3, hp3⟩
  · refine ⟨repCell (a4 0 _ rfl) ?_, repCell (a4 1 _ rfl) ?_, repCell (a4 2 _ rfl) ?_, repCell (a4 3 _ rfl) ?_, trivial⟩
    all_goals (simp only [Rep]; exact ⟨trivial, rfl⟩)
set_option maxRecDepth 100000 in
theorem door_met (os : Os) (args : Array Value) : laidMetH Tryd.prog laidL ((World.doorLaid Tryd.prog 96 os).forCall (fun _ _ => 0) ⟨#[], args, []⟩).memory :=
  laidMetH_of_parts3 (fuel := 8) (laidMet_of_run' 8 (by kernel_rfl) (by kernel_rfl)) (by kernel_rfl) (by kernel_rfl)
end
section
set_option linter.unusedVariables false
set_option linter.unusedSimpArgs false
open Go.RowKit
theorem law3_spec : ∀ dss, tyRs T 8 [22, 24, 29] dss → Spec Tryd.prog 3 (avTys T [22, 24, 29] dss) (.d (.lit (.bool true))) := by
  intro dss h
  obtain ⟨d0, r0, rfl, h0, h⟩ := tyRs_one h
  obtain ⟨d1, r1, rfl, h1, h⟩ := tyRs_one h
  obtain ⟨d2, r2, rfl, h2, h⟩ := tyRs_one h
  obtain rfl := tyRs_nil h
  obtain ⟨l, rfl, hv⟩ := ty22 h0
  obtain ⟨b, c, d, rfl, hb, hc, hd⟩ := ty24 h1
  obtain ⟨x, y, z, rfl, hx, hy, hz⟩ := ty29 h2
  have := f3_spec l hv b c d hb hc hd x y z hx hy hz
  simp only [avTys, avTy, T22, ti22, T24, ti24, T29, ti29, List.map_cons, List.map_nil, List.headD_cons, List.cons_append, List.nil_append, if_true, Bool.false_eq_true, if_false]
  exact this
end
end Go.Proofs.YtopigomfhggkoaaDoor.A
