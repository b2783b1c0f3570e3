/- The package's variables, as data. -/
import Derived.Test.YtopigomfhggkoaaDoorJA1
set_option linter.unusedVariables false
set_option linter.unusedSimpArgs false
namespace Go.Proofs.YtopigomfhggkoaaDoor.A
open Go.RowKit
def globs : List (Nat × List Dat) := [(0, [.lit (.int .i64 0), .lit (.int .i64 0), .lit (.string ⟨#[]⟩)]),
  (1, [.mp [(.int .i64 6, .func (.func 105) #[] #[]), (.int .i64 7, .func (.func 106) #[] #[]), (.int .i64 8, .func (.func 107) #[] #[]), (.int .i64 9, .func (.func 108) #[] #[])]]),
  (2, [.mp [(.int .i64 3, .func (.func 110) #[] #[]), (.int .i64 4, .func (.func 111) #[] #[]), (.int .i64 5, .func (.func 112) #[] #[]), (.int .i64 10, .func (.func 114) #[] #[]), (.int .i64 11, .func (.func 115) #[] #[]), (.int .i64 12, .func (.func 113) #[] #[])]]),
  (3, [.mp [(.bool false, .agg #[.int .i64 1, .int .i64 0, .string ⟨#[]⟩]), (.bool true, .agg #[.int .i64 1, .int .i64 1, .string ⟨#[]⟩])]]),
  (4, [.lit (.func (.func 120) #[] #[]), .lit (.func (.func 121) #[] #[]), .lit (.func (.func 122) #[] #[]), .lit (.func (.func 123) #[] #[])])]
def globF (g : Nat) : List (Nat × List Dat) → AV
  | [] => .d (.lit (.pointer (some ⟨g, 0, none⟩)))
  | p :: l => if p.1 = g then .el p.2 0 else globF g l
def globA (g : Nat) : AV := globF g globs
theorem globF_has {m : Mem} (g : Nat) : ∀ (l : List (Nat × List Dat)), (∀ p ∈ l, RepCells m p.1 0 p.2) → Has m (globF g l) (.pointer (some ⟨g, 0, none⟩))
  | [], _ => by simp only [globF, Has, Rep]; exact ⟨trivial, rfl⟩
  | p :: l, h => by
    simp only [globF]
    split
    · rename_i hg
      subst hg
      simp only [Has]
      exact ⟨p.1, 0, rfl, h p (List.mem_cons_self ..)⟩
    · exact globF_has g l fun q hq => h q (List.mem_cons_of_mem _ hq)
theorem globA_has {m : Mem} (g : Nat) (h : ∀ p ∈ globs, RepCells m p.1 0 p.2) : Has m (globA g) (.pointer (some ⟨g, 0, none⟩)) := globF_has g globs h
end Go.Proofs.YtopigomfhggkoaaDoor.A
