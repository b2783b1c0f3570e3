/- The types of the program: what is known of each. (Written by tab.py.) -/
import Derived.Test.YtalbfikfbejnfaaProg
import Derived.Test.YtalbfikfbejnfaaC7
set_option linter.unusedVariables false
set_option linter.unusedSimpArgs false
namespace Go.Proofs.Ytalbfikfbejnfaa.A
open Go.RowKit

def AllOk (P : Program) : List (Nat × TI) → Prop
  | [] => True
  | p :: l => TI.ok P p.1 p.2 ∧ AllOk P l
theorem tabOk_of {P : Program} : ∀ {l : List (Nat × TI)}, AllOk P l → TabOk P (fun t => (l.lookup t).getD {})
  | [], _, t, h => by simp [List.lookup] at h
  | (k, i) :: l, hl, t, h => by
    simp only [List.lookup] at h ⊢
    split
    · rename_i hk
      have := (beq_iff_eq.1 hk)
      subst this
      exact hl.1
    · rename_i hk
      rw [hk] at h
      exact tabOk_of hl.2 t h
theorem TI.ok_mk {P : Program} {t : Nat} {i : TI} {d : TypeDesc} (h1 : (P.info? t).map (fun i => (i.size, i.bytes, i.zero.map fun z => z.cells.toList)) = some (i.size, i.bytes, some i.zero)) (h5 : (match d with | .struct _ | .array _ _ => true | _ => false) = i.agg) (h2 : P.underlying t = some d)
    (h3 : i.zero.all (·.oneCell') = true) (h4 : i.zero.length = i.size)
    (k1 : i.kind = 1 → d = .slice i.elem) (k2 : i.kind = 2 → ∃ fs, d = .struct fs ∧ fs.toList.map (fun f => (f.offset, f.type)) = i.fields) (k3 : i.kind = 3 → d = .array i.alen i.elem) (k4 : i.kind = 4 → d = .string) (k5 : i.kind = 5 → d = .int i.ik) (k6 : i.kind = 6 → d = .bool) (k7 : i.kind = 7 → d = .pointer i.elem) (k8 : i.eqk = true → P.stoodInHeld t = false ∧ P.eqGuardType P.depth t = false ∧ ∀ fs, d = .struct fs → (fs.toList.all fun f => f.name != "_") = true) : TI.ok P t i := by
  obtain ⟨info, e, he⟩ := Option.map_eq_some_iff.1 h1
  simp only [Prod.mk.injEq] at he
  exact ⟨info, d, e, h2, he.1, he.2.1, he.2.2, h3, h4, h5, k1, k2, k3, k4, k5, k6, k7, k8⟩
def ti1 : TI := { known := true, agg := false, size := 1, bytes := 8, zero := [.nilFunc], kind := 8 }
theorem ti1_ok : TI.ok Try.prog 1 ti1 := TI.ok_mk (by kernel_rfl) rfl Try.underlying1 rfl rfl (by simp [ti1]) (by first | (intro _; exact ⟨_, rfl, rfl⟩) | simp [ti1]) (by simp [ti1]) (by simp [ti1]) (by simp [ti1]) (by simp [ti1]) (by simp [ti1]) (by simp [ti1])
def ti2 : TI := { known := true, agg := false, size := 1, bytes := 8, zero := [.int .i64 0], kind := 5, ik := .i64 }
theorem ti2_ok : TI.ok Try.prog 2 ti2 := TI.ok_mk (by kernel_rfl) rfl Try.underlying2 rfl rfl (by simp [ti2]) (by first | (intro _; exact ⟨_, rfl, rfl⟩) | simp [ti2]) (by simp [ti2]) (by simp [ti2]) (by simp [ti2]) (by simp [ti2]) (by simp [ti2]) (by simp [ti2])
def ti3 : TI := { known := true, agg := false, size := 1, bytes := 8, zero := [.int .i64 0], kind := 5, ik := .i64 }
theorem ti3_ok : TI.ok Try.prog 3 ti3 := TI.ok_mk (by kernel_rfl) rfl Try.underlying3 rfl rfl (by simp [ti3]) (by first | (intro _; exact ⟨_, rfl, rfl⟩) | simp [ti3]) (by simp [ti3]) (by simp [ti3]) (by simp [ti3]) (by simp [ti3]) (by simp [ti3]) (by simp [ti3])
def ti4 : TI := { known := true, agg := false, size := 1, bytes := 1, zero := [.bool false], kind := 6 }
theorem ti4_ok : TI.ok Try.prog 4 ti4 := TI.ok_mk (by kernel_rfl) rfl Try.underlying4 rfl rfl (by simp [ti4]) (by first | (intro _; exact ⟨_, rfl, rfl⟩) | simp [ti4]) (by simp [ti4]) (by simp [ti4]) (by simp [ti4]) (by simp [ti4]) (by simp [ti4]) (by simp [ti4])
def ti5 : TI := { known := true, agg := false, size := 1, bytes := 1, zero := [.int .u8 0], kind := 5, ik := .u8 }
theorem ti5_ok : TI.ok Try.prog 5 ti5 := TI.ok_mk (by kernel_rfl) rfl Try.underlying5 rfl rfl (by simp [ti5]) (by first | (intro _; exact ⟨_, rfl, rfl⟩) | simp [ti5]) (by simp [ti5]) (by simp [ti5]) (by simp [ti5]) (by simp [ti5]) (by simp [ti5]) (by simp [ti5])
def ti6 : TI := { known := true, agg := false, size := 1, bytes := 1, zero := [.int .u8 0], kind := 5, ik := .u8 }
theorem ti6_ok : TI.ok Try.prog 6 ti6 := TI.ok_mk (by kernel_rfl) rfl Try.underlying6 rfl rfl (by simp [ti6]) (by first | (intro _; exact ⟨_, rfl, rfl⟩) | simp [ti6]) (by simp [ti6]) (by simp [ti6]) (by simp [ti6]) (by simp [ti6]) (by simp [ti6]) (by simp [ti6])
def ti7 : TI := { known := true, agg := true, size := 4, bytes := 24, zero := [.int .i64 0, .int .i64 0, .bool false, .int .u8 0], kind := 2, fields := [(0, 2), (1, 3), (2, 4), (3, 6)] }
theorem ti7_ok : TI.ok Try.prog 7 ti7 := TI.ok_mk (by kernel_rfl) rfl Try.underlying7 rfl rfl (by simp [ti7]) (by first | (intro _; exact ⟨_, rfl, rfl⟩) | simp [ti7]) (by simp [ti7]) (by simp [ti7]) (by simp [ti7]) (by simp [ti7]) (by simp [ti7]) (by simp [ti7])
def ti8 : TI := { known := true, agg := true, size := 4, bytes := 24, zero := [.int .i64 0, .int .i64 0, .bool false, .int .u8 0], kind := 2, fields := [(0, 2), (1, 3), (2, 4), (3, 6)] }
theorem ti8_ok : TI.ok Try.prog 8 ti8 := TI.ok_mk (by kernel_rfl) rfl Try.underlying8 rfl rfl (by simp [ti8]) (by first | (intro _; exact ⟨_, rfl, rfl⟩) | simp [ti8]) (by simp [ti8]) (by simp [ti8]) (by simp [ti8]) (by simp [ti8]) (by simp [ti8]) (by simp [ti8])
def ti9 : TI := { known := true, agg := false, size := 1, bytes := 16, zero := [.string ⟨#[]⟩], kind := 4 }
theorem ti9_ok : TI.ok Try.prog 9 ti9 := TI.ok_mk (by kernel_rfl) rfl Try.underlying9 rfl rfl (by simp [ti9]) (by first | (intro _; exact ⟨_, rfl, rfl⟩) | simp [ti9]) (by simp [ti9]) (by simp [ti9]) (by simp [ti9]) (by simp [ti9]) (by simp [ti9]) (by simp [ti9])
def ti10 : TI := { known := true, agg := false, size := 1, bytes := 16, zero := [.string ⟨#[]⟩], kind := 4 }
theorem ti10_ok : TI.ok Try.prog 10 ti10 := TI.ok_mk (by kernel_rfl) rfl Try.underlying10 rfl rfl (by simp [ti10]) (by first | (intro _; exact ⟨_, rfl, rfl⟩) | simp [ti10]) (by simp [ti10]) (by simp [ti10]) (by simp [ti10]) (by simp [ti10]) (by simp [ti10]) (by simp [ti10])
def ti11 : TI := { known := true, agg := false, size := 1, bytes := 16, zero := [.string ⟨#[]⟩], kind := 4 }
theorem ti11_ok : TI.ok Try.prog 11 ti11 := TI.ok_mk (by kernel_rfl) rfl Try.underlying11 rfl rfl (by simp [ti11]) (by first | (intro _; exact ⟨_, rfl, rfl⟩) | simp [ti11]) (by simp [ti11]) (by simp [ti11]) (by simp [ti11]) (by simp [ti11]) (by simp [ti11]) (by simp [ti11])
def ti12 : TI := { known := true, agg := false, size := 1, bytes := 8, zero := [.int .u64 0], kind := 5, ik := .u64 }
theorem ti12_ok : TI.ok Try.prog 12 ti12 := TI.ok_mk (by kernel_rfl) rfl Try.underlying12 rfl rfl (by simp [ti12]) (by first | (intro _; exact ⟨_, rfl, rfl⟩) | simp [ti12]) (by simp [ti12]) (by simp [ti12]) (by simp [ti12]) (by simp [ti12]) (by simp [ti12]) (by simp [ti12])
def ti13 : TI := { known := true, agg := true, size := 2, bytes := 24, zero := [.string ⟨#[]⟩, .int .u64 0], kind := 2, fields := [(0, 9), (1, 12)] }
theorem ti13_ok : TI.ok Try.prog 13 ti13 := TI.ok_mk (by kernel_rfl) rfl Try.underlying13 rfl rfl (by simp [ti13]) (by first | (intro _; exact ⟨_, rfl, rfl⟩) | simp [ti13]) (by simp [ti13]) (by simp [ti13]) (by simp [ti13]) (by simp [ti13]) (by simp [ti13]) (by simp [ti13])
def ti14 : TI := { known := true, agg := true, size := 2, bytes := 24, zero := [.string ⟨#[]⟩, .int .u64 0], kind := 2, fields := [(0, 9), (1, 12)] }
theorem ti14_ok : TI.ok Try.prog 14 ti14 := TI.ok_mk (by kernel_rfl) rfl Try.underlying14 rfl rfl (by simp [ti14]) (by first | (intro _; exact ⟨_, rfl, rfl⟩) | simp [ti14]) (by simp [ti14]) (by simp [ti14]) (by simp [ti14]) (by simp [ti14]) (by simp [ti14]) (by simp [ti14])
def ti15 : TI := { known := true, agg := false, size := 1, bytes := 8, zero := [.pointer none], kind := 7, elem := 116 }
theorem ti15_ok : TI.ok Try.prog 15 ti15 := TI.ok_mk (by kernel_rfl) rfl Try.underlying15 rfl rfl (by simp [ti15]) (by first | (intro _; exact ⟨_, rfl, rfl⟩) | simp [ti15]) (by simp [ti15]) (by simp [ti15]) (by simp [ti15]) (by simp [ti15]) (by simp [ti15]) (by simp [ti15])
def ti16 : TI := { known := true, agg := false, size := 1, bytes := 8, zero := [.pointer none], kind := 7, elem := 119 }
theorem ti16_ok : TI.ok Try.prog 16 ti16 := TI.ok_mk (by kernel_rfl) rfl Try.underlying16 rfl rfl (by simp [ti16]) (by first | (intro _; exact ⟨_, rfl, rfl⟩) | simp [ti16]) (by simp [ti16]) (by simp [ti16]) (by simp [ti16]) (by simp [ti16]) (by simp [ti16]) (by simp [ti16])
def ti17 : TI := { known := true, agg := false, size := 1, bytes := 8, zero := [.pointer none], kind := 7, elem := 129 }
theorem ti17_ok : TI.ok Try.prog 17 ti17 := TI.ok_mk (by kernel_rfl) rfl Try.underlying17 rfl rfl (by simp [ti17]) (by first | (intro _; exact ⟨_, rfl, rfl⟩) | simp [ti17]) (by simp [ti17]) (by simp [ti17]) (by simp [ti17]) (by simp [ti17]) (by simp [ti17]) (by simp [ti17])
def ti18 : TI := { known := true, agg := true, size := 1, bytes := 8, zero := [.pointer none], kind := 2, fields := [(0, 17)] }
theorem ti18_ok : TI.ok Try.prog 18 ti18 := TI.ok_mk (by kernel_rfl) rfl Try.underlying18 rfl rfl (by simp [ti18]) (by first | (intro _; exact ⟨_, rfl, rfl⟩) | simp [ti18]) (by simp [ti18]) (by simp [ti18]) (by simp [ti18]) (by simp [ti18]) (by simp [ti18]) (by simp [ti18])
def ti19 : TI := { known := true, agg := true, size := 1, bytes := 8, zero := [.pointer none], kind := 2, fields := [(0, 17)] }
theorem ti19_ok : TI.ok Try.prog 19 ti19 := TI.ok_mk (by kernel_rfl) rfl Try.underlying19 rfl rfl (by simp [ti19]) (by first | (intro _; exact ⟨_, rfl, rfl⟩) | simp [ti19]) (by simp [ti19]) (by simp [ti19]) (by simp [ti19]) (by simp [ti19]) (by simp [ti19]) (by simp [ti19])
def ti20 : TI := { known := true, agg := false, size := 1, bytes := 16, zero := [.nilIface], kind := 0 }
theorem ti20_ok : TI.ok Try.prog 20 ti20 := TI.ok_mk (by kernel_rfl) rfl Try.underlying20 rfl rfl (by simp [ti20]) (by first | (intro _; exact ⟨_, rfl, rfl⟩) | simp [ti20]) (by simp [ti20]) (by simp [ti20]) (by simp [ti20]) (by simp [ti20]) (by simp [ti20]) (by simp [ti20])
def ti21 : TI := { known := true, agg := false, size := 1, bytes := 4, zero := [.int .i32 0], kind := 5, ik := .i32 }
theorem ti21_ok : TI.ok Try.prog 21 ti21 := TI.ok_mk (by kernel_rfl) rfl Try.underlying21 rfl rfl (by simp [ti21]) (by first | (intro _; exact ⟨_, rfl, rfl⟩) | simp [ti21]) (by simp [ti21]) (by simp [ti21]) (by simp [ti21]) (by simp [ti21]) (by simp [ti21]) (by simp [ti21])
def ti22 : TI := { known := true, agg := false, size := 1, bytes := 24, zero := [.slice none 0 0], kind := 1, elem := 5 }
theorem ti22_ok : TI.ok Try.prog 22 ti22 := TI.ok_mk (by kernel_rfl) rfl Try.underlying22 rfl rfl (by simp [ti22]) (by first | (intro _; exact ⟨_, rfl, rfl⟩) | simp [ti22]) (by simp [ti22]) (by simp [ti22]) (by simp [ti22]) (by simp [ti22]) (by simp [ti22]) (by simp [ti22])
def ti23 : TI := { known := true, agg := false, size := 1, bytes := 24, zero := [.slice none 0 0], kind := 1, elem := 25 }
theorem ti23_ok : TI.ok Try.prog 23 ti23 := TI.ok_mk (by kernel_rfl) rfl Try.underlying23 rfl rfl (by simp [ti23]) (by first | (intro _; exact ⟨_, rfl, rfl⟩) | simp [ti23]) (by simp [ti23]) (by simp [ti23]) (by simp [ti23]) (by simp [ti23]) (by simp [ti23]) (by simp [ti23])
def ti24 : TI := { known := true, agg := true, size := 2, bytes := 16, zero := [.int .i64 0, .int .i64 0], kind := 2, fields := [(0, 3), (1, 3)], eqk := true }
theorem ti24_ok : TI.ok Try.prog 24 ti24 := TI.ok_mk (by kernel_rfl) rfl Try.underlying24 rfl rfl (by simp [ti24]) (by first | (intro _; exact ⟨_, rfl, rfl⟩) | simp [ti24]) (by simp [ti24]) (by simp [ti24]) (by simp [ti24]) (by simp [ti24]) (by simp [ti24]) (fun _ => ⟨by kernel_rfl, by kernel_rfl, fun fs h => by cases h; rfl⟩)
def ti25 : TI := { known := true, agg := true, size := 2, bytes := 16, zero := [.int .i64 0, .int .i64 0], kind := 2, fields := [(0, 3), (1, 3)], eqk := true }
theorem ti25_ok : TI.ok Try.prog 25 ti25 := TI.ok_mk (by kernel_rfl) rfl Try.underlying25 rfl rfl (by simp [ti25]) (by first | (intro _; exact ⟨_, rfl, rfl⟩) | simp [ti25]) (by simp [ti25]) (by simp [ti25]) (by simp [ti25]) (by simp [ti25]) (by simp [ti25]) (fun _ => ⟨by kernel_rfl, by kernel_rfl, fun fs h => by cases h; rfl⟩)
def ti26 : TI := { known := true, agg := false, size := 1, bytes := 24, zero := [.slice none 0 0], kind := 1, elem := 3 }
theorem ti26_ok : TI.ok Try.prog 26 ti26 := TI.ok_mk (by kernel_rfl) rfl Try.underlying26 rfl rfl (by simp [ti26]) (by first | (intro _; exact ⟨_, rfl, rfl⟩) | simp [ti26]) (by simp [ti26]) (by simp [ti26]) (by simp [ti26]) (by simp [ti26]) (by simp [ti26]) (by simp [ti26])
def ti27 : TI := { known := true, agg := true, size := 4, bytes := 48, zero := [.int .i64 0, .int .i64 0, .slice none 0 0, .bool false], kind := 2, fields := [(0, 25), (2, 26), (3, 4)] }
theorem ti27_ok : TI.ok Try.prog 27 ti27 := TI.ok_mk (by kernel_rfl) rfl Try.underlying27 rfl rfl (by simp [ti27]) (by first | (intro _; exact ⟨_, rfl, rfl⟩) | simp [ti27]) (by simp [ti27]) (by simp [ti27]) (by simp [ti27]) (by simp [ti27]) (by simp [ti27]) (by simp [ti27])
def ti28 : TI := { known := true, agg := true, size := 4, bytes := 48, zero := [.int .i64 0, .int .i64 0, .slice none 0 0, .bool false], kind := 2, fields := [(0, 25), (2, 26), (3, 4)] }
theorem ti28_ok : TI.ok Try.prog 28 ti28 := TI.ok_mk (by kernel_rfl) rfl Try.underlying28 rfl rfl (by simp [ti28]) (by first | (intro _; exact ⟨_, rfl, rfl⟩) | simp [ti28]) (by simp [ti28]) (by simp [ti28]) (by simp [ti28]) (by simp [ti28]) (by simp [ti28]) (by simp [ti28])
def ti29 : TI := { known := true, agg := true, size := 2, bytes := 48, zero := [.slice none 0 0, .slice none 0 0], kind := 2, fields := [(0, 23), (1, 26)] }
theorem ti29_ok : TI.ok Try.prog 29 ti29 := TI.ok_mk (by kernel_rfl) rfl Try.underlying29 rfl rfl (by simp [ti29]) (by first | (intro _; exact ⟨_, rfl, rfl⟩) | simp [ti29]) (by simp [ti29]) (by simp [ti29]) (by simp [ti29]) (by simp [ti29]) (by simp [ti29]) (by simp [ti29])
def ti30 : TI := { known := true, agg := true, size := 2, bytes := 48, zero := [.slice none 0 0, .slice none 0 0], kind := 2, fields := [(0, 23), (1, 26)] }
theorem ti30_ok : TI.ok Try.prog 30 ti30 := TI.ok_mk (by kernel_rfl) rfl Try.underlying30 rfl rfl (by simp [ti30]) (by first | (intro _; exact ⟨_, rfl, rfl⟩) | simp [ti30]) (by simp [ti30]) (by simp [ti30]) (by simp [ti30]) (by simp [ti30]) (by simp [ti30]) (by simp [ti30])
def ti31 : TI := { known := true, agg := true, size := 9, bytes := 168, zero := [.slice none 0 0, .int .i64 0, .int .i64 0, .slice none 0 0, .bool false, .slice none 0 0, .slice none 0 0, .slice none 0 0, .slice none 0 0], kind := 2, fields := [(0, 23), (1, 28), (5, 30), (7, 30)] }
theorem ti31_ok : TI.ok Try.prog 31 ti31 := TI.ok_mk (by kernel_rfl) rfl Try.underlying31 rfl rfl (by simp [ti31]) (by first | (intro _; exact ⟨_, rfl, rfl⟩) | simp [ti31]) (by simp [ti31]) (by simp [ti31]) (by simp [ti31]) (by simp [ti31]) (by simp [ti31]) (by simp [ti31])
def ti32 : TI := { known := true, agg := true, size := 9, bytes := 168, zero := [.slice none 0 0, .int .i64 0, .int .i64 0, .slice none 0 0, .bool false, .slice none 0 0, .slice none 0 0, .slice none 0 0, .slice none 0 0], kind := 2, fields := [(0, 23), (1, 28), (5, 30), (7, 30)] }
theorem ti32_ok : TI.ok Try.prog 32 ti32 := TI.ok_mk (by kernel_rfl) rfl Try.underlying32 rfl rfl (by simp [ti32]) (by first | (intro _; exact ⟨_, rfl, rfl⟩) | simp [ti32]) (by simp [ti32]) (by simp [ti32]) (by simp [ti32]) (by simp [ti32]) (by simp [ti32]) (by simp [ti32])
def ti33 : TI := { known := true, agg := false, size := 1, bytes := 8, zero := [.nilFunc], kind := 8 }
theorem ti33_ok : TI.ok Try.prog 33 ti33 := TI.ok_mk (by kernel_rfl) rfl Try.underlying33 rfl rfl (by simp [ti33]) (by first | (intro _; exact ⟨_, rfl, rfl⟩) | simp [ti33]) (by simp [ti33]) (by simp [ti33]) (by simp [ti33]) (by simp [ti33]) (by simp [ti33]) (by simp [ti33])
def ti34 : TI := { known := true, agg := false, size := 1, bytes := 8, zero := [.nilFunc], kind := 8 }
theorem ti34_ok : TI.ok Try.prog 34 ti34 := TI.ok_mk (by kernel_rfl) rfl Try.underlying34 rfl rfl (by simp [ti34]) (by first | (intro _; exact ⟨_, rfl, rfl⟩) | simp [ti34]) (by simp [ti34]) (by simp [ti34]) (by simp [ti34]) (by simp [ti34]) (by simp [ti34]) (by simp [ti34])
def ti35 : TI := { known := true, agg := false, size := 1, bytes := 24, zero := [.slice none 0 0], kind := 1, elem := 28 }
theorem ti35_ok : TI.ok Try.prog 35 ti35 := TI.ok_mk (by kernel_rfl) rfl Try.underlying35 rfl rfl (by simp [ti35]) (by first | (intro _; exact ⟨_, rfl, rfl⟩) | simp [ti35]) (by simp [ti35]) (by simp [ti35]) (by simp [ti35]) (by simp [ti35]) (by simp [ti35]) (by simp [ti35])
def ti36 : TI := { known := true, agg := false, size := 1, bytes := 8, zero := [.nilFunc], kind := 8 }
theorem ti36_ok : TI.ok Try.prog 36 ti36 := TI.ok_mk (by kernel_rfl) rfl Try.underlying36 rfl rfl (by simp [ti36]) (by first | (intro _; exact ⟨_, rfl, rfl⟩) | simp [ti36]) (by simp [ti36]) (by simp [ti36]) (by simp [ti36]) (by simp [ti36]) (by simp [ti36]) (by simp [ti36])
def ti37 : TI := { known := true, agg := false, size := 1, bytes := 24, zero := [.slice none 0 0], kind := 1, elem := 79 }
theorem ti37_ok : TI.ok Try.prog 37 ti37 := TI.ok_mk (by kernel_rfl) rfl Try.underlying37 rfl rfl (by simp [ti37]) (by first | (intro _; exact ⟨_, rfl, rfl⟩) | simp [ti37]) (by simp [ti37]) (by simp [ti37]) (by simp [ti37]) (by simp [ti37]) (by simp [ti37]) (by simp [ti37])
def ti38 : TI := { known := true, agg := false, size := 1, bytes := 8, zero := [.nilFunc], kind := 8 }
theorem ti38_ok : TI.ok Try.prog 38 ti38 := TI.ok_mk (by kernel_rfl) rfl Try.underlying38 rfl rfl (by simp [ti38]) (by first | (intro _; exact ⟨_, rfl, rfl⟩) | simp [ti38]) (by simp [ti38]) (by simp [ti38]) (by simp [ti38]) (by simp [ti38]) (by simp [ti38]) (by simp [ti38])
def ti39 : TI := { known := true, agg := false, size := 1, bytes := 8, zero := [.nilFunc], kind := 8 }
theorem ti39_ok : TI.ok Try.prog 39 ti39 := TI.ok_mk (by kernel_rfl) rfl Try.underlying39 rfl rfl (by simp [ti39]) (by first | (intro _; exact ⟨_, rfl, rfl⟩) | simp [ti39]) (by simp [ti39]) (by simp [ti39]) (by simp [ti39]) (by simp [ti39]) (by simp [ti39]) (by simp [ti39])
def ti40 : TI := { known := true, agg := false, size := 1, bytes := 8, zero := [.nilFunc], kind := 8 }
theorem ti40_ok : TI.ok Try.prog 40 ti40 := TI.ok_mk (by kernel_rfl) rfl Try.underlying40 rfl rfl (by simp [ti40]) (by first | (intro _; exact ⟨_, rfl, rfl⟩) | simp [ti40]) (by simp [ti40]) (by simp [ti40]) (by simp [ti40]) (by simp [ti40]) (by simp [ti40]) (by simp [ti40])
def ti41 : TI := { known := true, agg := false, size := 1, bytes := 8, zero := [.nilFunc], kind := 8 }
theorem ti41_ok : TI.ok Try.prog 41 ti41 := TI.ok_mk (by kernel_rfl) rfl Try.underlying41 rfl rfl (by simp [ti41]) (by first | (intro _; exact ⟨_, rfl, rfl⟩) | simp [ti41]) (by simp [ti41]) (by simp [ti41]) (by simp [ti41]) (by simp [ti41]) (by simp [ti41]) (by simp [ti41])
def ti42 : TI := { known := true, agg := false, size := 1, bytes := 8, zero := [.nilFunc], kind := 8 }
theorem ti42_ok : TI.ok Try.prog 42 ti42 := TI.ok_mk (by kernel_rfl) rfl Try.underlying42 rfl rfl (by simp [ti42]) (by first | (intro _; exact ⟨_, rfl, rfl⟩) | simp [ti42]) (by simp [ti42]) (by simp [ti42]) (by simp [ti42]) (by simp [ti42]) (by simp [ti42]) (by simp [ti42])
def ti43 : TI := { known := true, agg := true, size := 4, bytes := 48, zero := [.int .i64 0, .int .i64 0, .slice none 0 0, .bool false], kind := 2, fields := [(0, 25), (2, 26), (3, 4)] }
theorem ti43_ok : TI.ok Try.prog 43 ti43 := TI.ok_mk (by kernel_rfl) rfl Try.underlying43 rfl rfl (by simp [ti43]) (by first | (intro _; exact ⟨_, rfl, rfl⟩) | simp [ti43]) (by simp [ti43]) (by simp [ti43]) (by simp [ti43]) (by simp [ti43]) (by simp [ti43]) (by simp [ti43])
def ti44 : TI := { known := true, agg := false, size := 1, bytes := 8, zero := [.nilFunc], kind := 8 }
theorem ti44_ok : TI.ok Try.prog 44 ti44 := TI.ok_mk (by kernel_rfl) rfl Try.underlying44 rfl rfl (by simp [ti44]) (by first | (intro _; exact ⟨_, rfl, rfl⟩) | simp [ti44]) (by simp [ti44]) (by simp [ti44]) (by simp [ti44]) (by simp [ti44]) (by simp [ti44]) (by simp [ti44])
def ti45 : TI := { known := true, agg := false, size := 1, bytes := 8, zero := [.nilFunc], kind := 8 }
theorem ti45_ok : TI.ok Try.prog 45 ti45 := TI.ok_mk (by kernel_rfl) rfl Try.underlying45 rfl rfl (by simp [ti45]) (by first | (intro _; exact ⟨_, rfl, rfl⟩) | simp [ti45]) (by simp [ti45]) (by simp [ti45]) (by simp [ti45]) (by simp [ti45]) (by simp [ti45]) (by simp [ti45])
def ti46 : TI := { known := true, agg := false, size := 1, bytes := 8, zero := [.nilFunc], kind := 8 }
theorem ti46_ok : TI.ok Try.prog 46 ti46 := TI.ok_mk (by kernel_rfl) rfl Try.underlying46 rfl rfl (by simp [ti46]) (by first | (intro _; exact ⟨_, rfl, rfl⟩) | simp [ti46]) (by simp [ti46]) (by simp [ti46]) (by simp [ti46]) (by simp [ti46]) (by simp [ti46]) (by simp [ti46])
def ti47 : TI := { known := true, agg := true, size := 2, bytes := 48, zero := [.slice none 0 0, .slice none 0 0], kind := 2, fields := [(0, 23), (1, 26)] }
theorem ti47_ok : TI.ok Try.prog 47 ti47 := TI.ok_mk (by kernel_rfl) rfl Try.underlying47 rfl rfl (by simp [ti47]) (by first | (intro _; exact ⟨_, rfl, rfl⟩) | simp [ti47]) (by simp [ti47]) (by simp [ti47]) (by simp [ti47]) (by simp [ti47]) (by simp [ti47]) (by simp [ti47])
def ti48 : TI := { known := true, agg := false, size := 1, bytes := 8, zero := [.nilFunc], kind := 8 }
theorem ti48_ok : TI.ok Try.prog 48 ti48 := TI.ok_mk (by kernel_rfl) rfl Try.underlying48 rfl rfl (by simp [ti48]) (by first | (intro _; exact ⟨_, rfl, rfl⟩) | simp [ti48]) (by simp [ti48]) (by simp [ti48]) (by simp [ti48]) (by simp [ti48]) (by simp [ti48]) (by simp [ti48])
def ti49 : TI := { known := true, agg := false, size := 1, bytes := 8, zero := [.nilFunc], kind := 8 }
theorem ti49_ok : TI.ok Try.prog 49 ti49 := TI.ok_mk (by kernel_rfl) rfl Try.underlying49 rfl rfl (by simp [ti49]) (by first | (intro _; exact ⟨_, rfl, rfl⟩) | simp [ti49]) (by simp [ti49]) (by simp [ti49]) (by simp [ti49]) (by simp [ti49]) (by simp [ti49]) (by simp [ti49])
def ti50 : TI := { known := true, agg := false, size := 1, bytes := 8, zero := [.nilFunc], kind := 8 }
theorem ti50_ok : TI.ok Try.prog 50 ti50 := TI.ok_mk (by kernel_rfl) rfl Try.underlying50 rfl rfl (by simp [ti50]) (by first | (intro _; exact ⟨_, rfl, rfl⟩) | simp [ti50]) (by simp [ti50]) (by simp [ti50]) (by simp [ti50]) (by simp [ti50]) (by simp [ti50]) (by simp [ti50])
def ti51 : TI := { known := true, agg := false, size := 1, bytes := 8, zero := [.nilFunc], kind := 8 }
theorem ti51_ok : TI.ok Try.prog 51 ti51 := TI.ok_mk (by kernel_rfl) rfl Try.underlying51 rfl rfl (by simp [ti51]) (by first | (intro _; exact ⟨_, rfl, rfl⟩) | simp [ti51]) (by simp [ti51]) (by simp [ti51]) (by simp [ti51]) (by simp [ti51]) (by simp [ti51]) (by simp [ti51])
def ti52 : TI := { known := true, agg := false, size := 1, bytes := 8, zero := [.nilFunc], kind := 8 }
theorem ti52_ok : TI.ok Try.prog 52 ti52 := TI.ok_mk (by kernel_rfl) rfl Try.underlying52 rfl rfl (by simp [ti52]) (by first | (intro _; exact ⟨_, rfl, rfl⟩) | simp [ti52]) (by simp [ti52]) (by simp [ti52]) (by simp [ti52]) (by simp [ti52]) (by simp [ti52]) (by simp [ti52])
def ti53 : TI := { known := true, agg := false, size := 1, bytes := 8, zero := [.nilFunc], kind := 8 }
theorem ti53_ok : TI.ok Try.prog 53 ti53 := TI.ok_mk (by kernel_rfl) rfl Try.underlying53 rfl rfl (by simp [ti53]) (by first | (intro _; exact ⟨_, rfl, rfl⟩) | simp [ti53]) (by simp [ti53]) (by simp [ti53]) (by simp [ti53]) (by simp [ti53]) (by simp [ti53]) (by simp [ti53])
def ti54 : TI := { known := true, agg := false, size := 1, bytes := 8, zero := [.nilFunc], kind := 8 }
theorem ti54_ok : TI.ok Try.prog 54 ti54 := TI.ok_mk (by kernel_rfl) rfl Try.underlying54 rfl rfl (by simp [ti54]) (by first | (intro _; exact ⟨_, rfl, rfl⟩) | simp [ti54]) (by simp [ti54]) (by simp [ti54]) (by simp [ti54]) (by simp [ti54]) (by simp [ti54]) (by simp [ti54])
def ti55 : TI := { known := true, agg := false, size := 1, bytes := 8, zero := [.nilFunc], kind := 8 }
theorem ti55_ok : TI.ok Try.prog 55 ti55 := TI.ok_mk (by kernel_rfl) rfl Try.underlying55 rfl rfl (by simp [ti55]) (by first | (intro _; exact ⟨_, rfl, rfl⟩) | simp [ti55]) (by simp [ti55]) (by simp [ti55]) (by simp [ti55]) (by simp [ti55]) (by simp [ti55]) (by simp [ti55])
def ti56 : TI := { known := true, agg := false, size := 1, bytes := 8, zero := [.nilFunc], kind := 8 }
theorem ti56_ok : TI.ok Try.prog 56 ti56 := TI.ok_mk (by kernel_rfl) rfl Try.underlying56 rfl rfl (by simp [ti56]) (by first | (intro _; exact ⟨_, rfl, rfl⟩) | simp [ti56]) (by simp [ti56]) (by simp [ti56]) (by simp [ti56]) (by simp [ti56]) (by simp [ti56]) (by simp [ti56])
def ti57 : TI := { known := true, agg := false, size := 1, bytes := 8, zero := [.nilFunc], kind := 8 }
theorem ti57_ok : TI.ok Try.prog 57 ti57 := TI.ok_mk (by kernel_rfl) rfl Try.underlying57 rfl rfl (by simp [ti57]) (by first | (intro _; exact ⟨_, rfl, rfl⟩) | simp [ti57]) (by simp [ti57]) (by simp [ti57]) (by simp [ti57]) (by simp [ti57]) (by simp [ti57]) (by simp [ti57])
def ti58 : TI := { known := true, agg := false, size := 1, bytes := 8, zero := [.nilFunc], kind := 8 }
theorem ti58_ok : TI.ok Try.prog 58 ti58 := TI.ok_mk (by kernel_rfl) rfl Try.underlying58 rfl rfl (by simp [ti58]) (by first | (intro _; exact ⟨_, rfl, rfl⟩) | simp [ti58]) (by simp [ti58]) (by simp [ti58]) (by simp [ti58]) (by simp [ti58]) (by simp [ti58]) (by simp [ti58])
def ti59 : TI := { known := true, agg := false, size := 1, bytes := 8, zero := [.nilFunc], kind := 8 }
theorem ti59_ok : TI.ok Try.prog 59 ti59 := TI.ok_mk (by kernel_rfl) rfl Try.underlying59 rfl rfl (by simp [ti59]) (by first | (intro _; exact ⟨_, rfl, rfl⟩) | simp [ti59]) (by simp [ti59]) (by simp [ti59]) (by simp [ti59]) (by simp [ti59]) (by simp [ti59]) (by simp [ti59])
def ti60 : TI := { known := true, agg := false, size := 1, bytes := 8, zero := [.nilFunc], kind := 8 }
theorem ti60_ok : TI.ok Try.prog 60 ti60 := TI.ok_mk (by kernel_rfl) rfl Try.underlying60 rfl rfl (by simp [ti60]) (by first | (intro _; exact ⟨_, rfl, rfl⟩) | simp [ti60]) (by simp [ti60]) (by simp [ti60]) (by simp [ti60]) (by simp [ti60]) (by simp [ti60]) (by simp [ti60])
def ti61 : TI := { known := true, agg := false, size := 1, bytes := 8, zero := [.nilFunc], kind := 8 }
theorem ti61_ok : TI.ok Try.prog 61 ti61 := TI.ok_mk (by kernel_rfl) rfl Try.underlying61 rfl rfl (by simp [ti61]) (by first | (intro _; exact ⟨_, rfl, rfl⟩) | simp [ti61]) (by simp [ti61]) (by simp [ti61]) (by simp [ti61]) (by simp [ti61]) (by simp [ti61]) (by simp [ti61])
def ti62 : TI := { known := true, agg := true, size := 2, bytes := 48, zero := [.slice none 0 0, .slice none 0 0], kind := 3, alen := 2, elem := 22 }
theorem ti62_ok : TI.ok Try.prog 62 ti62 := TI.ok_mk (by kernel_rfl) rfl Try.underlying62 rfl rfl (by simp [ti62]) (by first | (intro _; exact ⟨_, rfl, rfl⟩) | simp [ti62]) (by simp [ti62]) (by simp [ti62]) (by simp [ti62]) (by simp [ti62]) (by simp [ti62]) (by simp [ti62])
def ti63 : TI := { known := true, agg := false, size := 1, bytes := 8, zero := [.nilFunc], kind := 8 }
theorem ti63_ok : TI.ok Try.prog 63 ti63 := TI.ok_mk (by kernel_rfl) rfl Try.underlying63 rfl rfl (by simp [ti63]) (by first | (intro _; exact ⟨_, rfl, rfl⟩) | simp [ti63]) (by simp [ti63]) (by simp [ti63]) (by simp [ti63]) (by simp [ti63]) (by simp [ti63]) (by simp [ti63])
def ti64 : TI := { known := true, agg := false, size := 1, bytes := 8, zero := [.nilFunc], kind := 8 }
theorem ti64_ok : TI.ok Try.prog 64 ti64 := TI.ok_mk (by kernel_rfl) rfl Try.underlying64 rfl rfl (by simp [ti64]) (by first | (intro _; exact ⟨_, rfl, rfl⟩) | simp [ti64]) (by simp [ti64]) (by simp [ti64]) (by simp [ti64]) (by simp [ti64]) (by simp [ti64]) (by simp [ti64])
def ti65 : TI := { known := true, agg := false, size := 1, bytes := 8, zero := [.int .i64 0], kind := 5, ik := .i64 }
theorem ti65_ok : TI.ok Try.prog 65 ti65 := TI.ok_mk (by kernel_rfl) rfl Try.underlying65 rfl rfl (by simp [ti65]) (by first | (intro _; exact ⟨_, rfl, rfl⟩) | simp [ti65]) (by simp [ti65]) (by simp [ti65]) (by simp [ti65]) (by simp [ti65]) (by simp [ti65]) (by simp [ti65])
def ti66 : TI := { known := true, agg := true, size := 2, bytes := 32, zero := [.slice none 0 0, .int .i64 0], kind := 2, fields := [(0, 26), (1, 65)] }
theorem ti66_ok : TI.ok Try.prog 66 ti66 := TI.ok_mk (by kernel_rfl) rfl Try.underlying66 rfl rfl (by simp [ti66]) (by first | (intro _; exact ⟨_, rfl, rfl⟩) | simp [ti66]) (by simp [ti66]) (by simp [ti66]) (by simp [ti66]) (by simp [ti66]) (by simp [ti66]) (by simp [ti66])
def ti67 : TI := { known := true, agg := true, size := 2, bytes := 32, zero := [.slice none 0 0, .int .i64 0], kind := 2, fields := [(0, 26), (1, 65)] }
theorem ti67_ok : TI.ok Try.prog 67 ti67 := TI.ok_mk (by kernel_rfl) rfl Try.underlying67 rfl rfl (by simp [ti67]) (by first | (intro _; exact ⟨_, rfl, rfl⟩) | simp [ti67]) (by simp [ti67]) (by simp [ti67]) (by simp [ti67]) (by simp [ti67]) (by simp [ti67]) (by simp [ti67])
def ti68 : TI := { known := true, agg := false, size := 1, bytes := 8, zero := [.nilFunc], kind := 8 }
theorem ti68_ok : TI.ok Try.prog 68 ti68 := TI.ok_mk (by kernel_rfl) rfl Try.underlying68 rfl rfl (by simp [ti68]) (by first | (intro _; exact ⟨_, rfl, rfl⟩) | simp [ti68]) (by simp [ti68]) (by simp [ti68]) (by simp [ti68]) (by simp [ti68]) (by simp [ti68]) (by simp [ti68])
def ti69 : TI := { known := true, agg := false, size := 1, bytes := 8, zero := [.nilFunc], kind := 8 }
theorem ti69_ok : TI.ok Try.prog 69 ti69 := TI.ok_mk (by kernel_rfl) rfl Try.underlying69 rfl rfl (by simp [ti69]) (by first | (intro _; exact ⟨_, rfl, rfl⟩) | simp [ti69]) (by simp [ti69]) (by simp [ti69]) (by simp [ti69]) (by simp [ti69]) (by simp [ti69]) (by simp [ti69])
def ti70 : TI := { known := true, agg := true, size := 3, bytes := 72, zero := [.slice none 0 0, .slice none 0 0, .slice none 0 0], kind := 3, alen := 3, elem := 22 }
theorem ti70_ok : TI.ok Try.prog 70 ti70 := TI.ok_mk (by kernel_rfl) rfl Try.underlying70 rfl rfl (by simp [ti70]) (by first | (intro _; exact ⟨_, rfl, rfl⟩) | simp [ti70]) (by simp [ti70]) (by simp [ti70]) (by simp [ti70]) (by simp [ti70]) (by simp [ti70]) (by simp [ti70])
def ti71 : TI := { known := true, agg := false, size := 1, bytes := 8, zero := [.nilFunc], kind := 8 }
theorem ti71_ok : TI.ok Try.prog 71 ti71 := TI.ok_mk (by kernel_rfl) rfl Try.underlying71 rfl rfl (by simp [ti71]) (by first | (intro _; exact ⟨_, rfl, rfl⟩) | simp [ti71]) (by simp [ti71]) (by simp [ti71]) (by simp [ti71]) (by simp [ti71]) (by simp [ti71]) (by simp [ti71])
def ti72 : TI := { known := true, agg := false, size := 1, bytes := 8, zero := [.nilFunc], kind := 8 }
theorem ti72_ok : TI.ok Try.prog 72 ti72 := TI.ok_mk (by kernel_rfl) rfl Try.underlying72 rfl rfl (by simp [ti72]) (by first | (intro _; exact ⟨_, rfl, rfl⟩) | simp [ti72]) (by simp [ti72]) (by simp [ti72]) (by simp [ti72]) (by simp [ti72]) (by simp [ti72]) (by simp [ti72])
def ti73 : TI := { known := true, agg := false, size := 1, bytes := 8, zero := [.nilFunc], kind := 8 }
theorem ti73_ok : TI.ok Try.prog 73 ti73 := TI.ok_mk (by kernel_rfl) rfl Try.underlying73 rfl rfl (by simp [ti73]) (by first | (intro _; exact ⟨_, rfl, rfl⟩) | simp [ti73]) (by simp [ti73]) (by simp [ti73]) (by simp [ti73]) (by simp [ti73]) (by simp [ti73]) (by simp [ti73])
def ti74 : TI := { known := true, agg := false, size := 1, bytes := 8, zero := [.nilFunc], kind := 8 }
theorem ti74_ok : TI.ok Try.prog 74 ti74 := TI.ok_mk (by kernel_rfl) rfl Try.underlying74 rfl rfl (by simp [ti74]) (by first | (intro _; exact ⟨_, rfl, rfl⟩) | simp [ti74]) (by simp [ti74]) (by simp [ti74]) (by simp [ti74]) (by simp [ti74]) (by simp [ti74]) (by simp [ti74])
def ti75 : TI := { known := true, agg := false, size := 1, bytes := 8, zero := [.nilFunc], kind := 8 }
theorem ti75_ok : TI.ok Try.prog 75 ti75 := TI.ok_mk (by kernel_rfl) rfl Try.underlying75 rfl rfl (by simp [ti75]) (by first | (intro _; exact ⟨_, rfl, rfl⟩) | simp [ti75]) (by simp [ti75]) (by simp [ti75]) (by simp [ti75]) (by simp [ti75]) (by simp [ti75]) (by simp [ti75])
def ti76 : TI := { known := true, agg := false, size := 1, bytes := 8, zero := [.nilFunc], kind := 8 }
theorem ti76_ok : TI.ok Try.prog 76 ti76 := TI.ok_mk (by kernel_rfl) rfl Try.underlying76 rfl rfl (by simp [ti76]) (by first | (intro _; exact ⟨_, rfl, rfl⟩) | simp [ti76]) (by simp [ti76]) (by simp [ti76]) (by simp [ti76]) (by simp [ti76]) (by simp [ti76]) (by simp [ti76])
def ti77 : TI := { known := true, agg := false, size := 1, bytes := 24, zero := [.slice none 0 0], kind := 1, elem := 134 }
theorem ti77_ok : TI.ok Try.prog 77 ti77 := TI.ok_mk (by kernel_rfl) rfl Try.underlying77 rfl rfl (by simp [ti77]) (by first | (intro _; exact ⟨_, rfl, rfl⟩) | simp [ti77]) (by simp [ti77]) (by simp [ti77]) (by simp [ti77]) (by simp [ti77]) (by simp [ti77]) (by simp [ti77])
def ti78 : TI := { known := true, agg := true, size := 5, bytes := 72, zero := [.int .i64 0, .int .i64 0, .slice none 0 0, .int .i64 0, .slice none 0 0], kind := 2, fields := [(0, 25), (2, 26), (3, 3), (4, 77)] }
theorem ti78_ok : TI.ok Try.prog 78 ti78 := TI.ok_mk (by kernel_rfl) rfl Try.underlying78 rfl rfl (by simp [ti78]) (by first | (intro _; exact ⟨_, rfl, rfl⟩) | simp [ti78]) (by simp [ti78]) (by simp [ti78]) (by simp [ti78]) (by simp [ti78]) (by simp [ti78]) (by simp [ti78])
def ti79 : TI := { known := true, agg := true, size := 5, bytes := 72, zero := [.int .i64 0, .int .i64 0, .slice none 0 0, .int .i64 0, .slice none 0 0], kind := 2, fields := [(0, 25), (2, 26), (3, 3), (4, 77)] }
theorem ti79_ok : TI.ok Try.prog 79 ti79 := TI.ok_mk (by kernel_rfl) rfl Try.underlying79 rfl rfl (by simp [ti79]) (by first | (intro _; exact ⟨_, rfl, rfl⟩) | simp [ti79]) (by simp [ti79]) (by simp [ti79]) (by simp [ti79]) (by simp [ti79]) (by simp [ti79]) (by simp [ti79])
def ti80 : TI := { known := true, agg := false, size := 1, bytes := 8, zero := [.nilFunc], kind := 8 }
theorem ti80_ok : TI.ok Try.prog 80 ti80 := TI.ok_mk (by kernel_rfl) rfl Try.underlying80 rfl rfl (by simp [ti80]) (by first | (intro _; exact ⟨_, rfl, rfl⟩) | simp [ti80]) (by simp [ti80]) (by simp [ti80]) (by simp [ti80]) (by simp [ti80]) (by simp [ti80]) (by simp [ti80])
def ti81 : TI := { known := true, agg := false, size := 1, bytes := 8, zero := [.nilFunc], kind := 8 }
theorem ti81_ok : TI.ok Try.prog 81 ti81 := TI.ok_mk (by kernel_rfl) rfl Try.underlying81 rfl rfl (by simp [ti81]) (by first | (intro _; exact ⟨_, rfl, rfl⟩) | simp [ti81]) (by simp [ti81]) (by simp [ti81]) (by simp [ti81]) (by simp [ti81]) (by simp [ti81]) (by simp [ti81])
def ti82 : TI := { known := true, agg := false, size := 1, bytes := 24, zero := [.slice none 0 0], kind := 1, elem := 26 }
theorem ti82_ok : TI.ok Try.prog 82 ti82 := TI.ok_mk (by kernel_rfl) rfl Try.underlying82 rfl rfl (by simp [ti82]) (by first | (intro _; exact ⟨_, rfl, rfl⟩) | simp [ti82]) (by simp [ti82]) (by simp [ti82]) (by simp [ti82]) (by simp [ti82]) (by simp [ti82]) (by simp [ti82])
def ti83 : TI := { known := true, agg := false, size := 1, bytes := 24, zero := [.slice none 0 0], kind := 1, elem := 43 }
theorem ti83_ok : TI.ok Try.prog 83 ti83 := TI.ok_mk (by kernel_rfl) rfl Try.underlying83 rfl rfl (by simp [ti83]) (by first | (intro _; exact ⟨_, rfl, rfl⟩) | simp [ti83]) (by simp [ti83]) (by simp [ti83]) (by simp [ti83]) (by simp [ti83]) (by simp [ti83]) (by simp [ti83])
def ti84 : TI := { known := true, agg := false, size := 1, bytes := 8, zero := [.nilFunc], kind := 8 }
theorem ti84_ok : TI.ok Try.prog 84 ti84 := TI.ok_mk (by kernel_rfl) rfl Try.underlying84 rfl rfl (by simp [ti84]) (by first | (intro _; exact ⟨_, rfl, rfl⟩) | simp [ti84]) (by simp [ti84]) (by simp [ti84]) (by simp [ti84]) (by simp [ti84]) (by simp [ti84]) (by simp [ti84])
def ti85 : TI := { known := true, agg := false, size := 1, bytes := 8, zero := [.nilFunc], kind := 8 }
theorem ti85_ok : TI.ok Try.prog 85 ti85 := TI.ok_mk (by kernel_rfl) rfl Try.underlying85 rfl rfl (by simp [ti85]) (by first | (intro _; exact ⟨_, rfl, rfl⟩) | simp [ti85]) (by simp [ti85]) (by simp [ti85]) (by simp [ti85]) (by simp [ti85]) (by simp [ti85]) (by simp [ti85])
def ti86 : TI := { known := true, agg := false, size := 1, bytes := 8, zero := [.nilFunc], kind := 8 }
theorem ti86_ok : TI.ok Try.prog 86 ti86 := TI.ok_mk (by kernel_rfl) rfl Try.underlying86 rfl rfl (by simp [ti86]) (by first | (intro _; exact ⟨_, rfl, rfl⟩) | simp [ti86]) (by simp [ti86]) (by simp [ti86]) (by simp [ti86]) (by simp [ti86]) (by simp [ti86]) (by simp [ti86])
def ti87 : TI := { known := true, agg := false, size := 1, bytes := 8, zero := [.nilFunc], kind := 8 }
theorem ti87_ok : TI.ok Try.prog 87 ti87 := TI.ok_mk (by kernel_rfl) rfl Try.underlying87 rfl rfl (by simp [ti87]) (by first | (intro _; exact ⟨_, rfl, rfl⟩) | simp [ti87]) (by simp [ti87]) (by simp [ti87]) (by simp [ti87]) (by simp [ti87]) (by simp [ti87]) (by simp [ti87])
def ti88 : TI := { known := true, agg := false, size := 1, bytes := 8, zero := [.nilFunc], kind := 8 }
theorem ti88_ok : TI.ok Try.prog 88 ti88 := TI.ok_mk (by kernel_rfl) rfl Try.underlying88 rfl rfl (by simp [ti88]) (by first | (intro _; exact ⟨_, rfl, rfl⟩) | simp [ti88]) (by simp [ti88]) (by simp [ti88]) (by simp [ti88]) (by simp [ti88]) (by simp [ti88]) (by simp [ti88])
def ti89 : TI := { known := true, agg := false, size := 1, bytes := 8, zero := [.nilFunc], kind := 8 }
theorem ti89_ok : TI.ok Try.prog 89 ti89 := TI.ok_mk (by kernel_rfl) rfl Try.underlying89 rfl rfl (by simp [ti89]) (by first | (intro _; exact ⟨_, rfl, rfl⟩) | simp [ti89]) (by simp [ti89]) (by simp [ti89]) (by simp [ti89]) (by simp [ti89]) (by simp [ti89]) (by simp [ti89])
def ti90 : TI := { known := true, agg := false, size := 1, bytes := 8, zero := [.nilFunc], kind := 8 }
theorem ti90_ok : TI.ok Try.prog 90 ti90 := TI.ok_mk (by kernel_rfl) rfl Try.underlying90 rfl rfl (by simp [ti90]) (by first | (intro _; exact ⟨_, rfl, rfl⟩) | simp [ti90]) (by simp [ti90]) (by simp [ti90]) (by simp [ti90]) (by simp [ti90]) (by simp [ti90]) (by simp [ti90])
def ti91 : TI := { known := true, agg := false, size := 1, bytes := 8, zero := [.nilFunc], kind := 8 }
theorem ti91_ok : TI.ok Try.prog 91 ti91 := TI.ok_mk (by kernel_rfl) rfl Try.underlying91 rfl rfl (by simp [ti91]) (by first | (intro _; exact ⟨_, rfl, rfl⟩) | simp [ti91]) (by simp [ti91]) (by simp [ti91]) (by simp [ti91]) (by simp [ti91]) (by simp [ti91]) (by simp [ti91])
def ti92 : TI := { known := true, agg := false, size := 1, bytes := 8, zero := [.nilFunc], kind := 8 }
theorem ti92_ok : TI.ok Try.prog 92 ti92 := TI.ok_mk (by kernel_rfl) rfl Try.underlying92 rfl rfl (by simp [ti92]) (by first | (intro _; exact ⟨_, rfl, rfl⟩) | simp [ti92]) (by simp [ti92]) (by simp [ti92]) (by simp [ti92]) (by simp [ti92]) (by simp [ti92]) (by simp [ti92])
def ti93 : TI := { known := true, agg := false, size := 1, bytes := 8, zero := [.nilFunc], kind := 8 }
theorem ti93_ok : TI.ok Try.prog 93 ti93 := TI.ok_mk (by kernel_rfl) rfl Try.underlying93 rfl rfl (by simp [ti93]) (by first | (intro _; exact ⟨_, rfl, rfl⟩) | simp [ti93]) (by simp [ti93]) (by simp [ti93]) (by simp [ti93]) (by simp [ti93]) (by simp [ti93]) (by simp [ti93])
def ti94 : TI := { known := true, agg := false, size := 1, bytes := 8, zero := [.nilFunc], kind := 8 }
theorem ti94_ok : TI.ok Try.prog 94 ti94 := TI.ok_mk (by kernel_rfl) rfl Try.underlying94 rfl rfl (by simp [ti94]) (by first | (intro _; exact ⟨_, rfl, rfl⟩) | simp [ti94]) (by simp [ti94]) (by simp [ti94]) (by simp [ti94]) (by simp [ti94]) (by simp [ti94]) (by simp [ti94])
def ti95 : TI := { known := true, agg := false, size := 1, bytes := 8, zero := [.nilFunc], kind := 8 }
theorem ti95_ok : TI.ok Try.prog 95 ti95 := TI.ok_mk (by kernel_rfl) rfl Try.underlying95 rfl rfl (by simp [ti95]) (by first | (intro _; exact ⟨_, rfl, rfl⟩) | simp [ti95]) (by simp [ti95]) (by simp [ti95]) (by simp [ti95]) (by simp [ti95]) (by simp [ti95]) (by simp [ti95])
def ti96 : TI := { known := true, agg := false, size := 1, bytes := 8, zero := [.nilFunc], kind := 8 }
theorem ti96_ok : TI.ok Try.prog 96 ti96 := TI.ok_mk (by kernel_rfl) rfl Try.underlying96 rfl rfl (by simp [ti96]) (by first | (intro _; exact ⟨_, rfl, rfl⟩) | simp [ti96]) (by simp [ti96]) (by simp [ti96]) (by simp [ti96]) (by simp [ti96]) (by simp [ti96]) (by simp [ti96])
def ti97 : TI := { known := true, agg := false, size := 1, bytes := 8, zero := [.nilFunc], kind := 8 }
theorem ti97_ok : TI.ok Try.prog 97 ti97 := TI.ok_mk (by kernel_rfl) rfl Try.underlying97 rfl rfl (by simp [ti97]) (by first | (intro _; exact ⟨_, rfl, rfl⟩) | simp [ti97]) (by simp [ti97]) (by simp [ti97]) (by simp [ti97]) (by simp [ti97]) (by simp [ti97]) (by simp [ti97])
def ti98 : TI := { known := true, agg := false, size := 1, bytes := 8, zero := [.nilFunc], kind := 8 }
theorem ti98_ok : TI.ok Try.prog 98 ti98 := TI.ok_mk (by kernel_rfl) rfl Try.underlying98 rfl rfl (by simp [ti98]) (by first | (intro _; exact ⟨_, rfl, rfl⟩) | simp [ti98]) (by simp [ti98]) (by simp [ti98]) (by simp [ti98]) (by simp [ti98]) (by simp [ti98]) (by simp [ti98])
def ti99 : TI := { known := true, agg := false, size := 1, bytes := 8, zero := [.nilFunc], kind := 8 }
theorem ti99_ok : TI.ok Try.prog 99 ti99 := TI.ok_mk (by kernel_rfl) rfl Try.underlying99 rfl rfl (by simp [ti99]) (by first | (intro _; exact ⟨_, rfl, rfl⟩) | simp [ti99]) (by simp [ti99]) (by simp [ti99]) (by simp [ti99]) (by simp [ti99]) (by simp [ti99]) (by simp [ti99])
def ti100 : TI := { known := true, agg := false, size := 1, bytes := 8, zero := [.nilFunc], kind := 8 }
theorem ti100_ok : TI.ok Try.prog 100 ti100 := TI.ok_mk (by kernel_rfl) rfl Try.underlying100 rfl rfl (by simp [ti100]) (by first | (intro _; exact ⟨_, rfl, rfl⟩) | simp [ti100]) (by simp [ti100]) (by simp [ti100]) (by simp [ti100]) (by simp [ti100]) (by simp [ti100]) (by simp [ti100])
def ti101 : TI := { known := true, agg := false, size := 1, bytes := 8, zero := [.nilFunc], kind := 8 }
theorem ti101_ok : TI.ok Try.prog 101 ti101 := TI.ok_mk (by kernel_rfl) rfl Try.underlying101 rfl rfl (by simp [ti101]) (by first | (intro _; exact ⟨_, rfl, rfl⟩) | simp [ti101]) (by simp [ti101]) (by simp [ti101]) (by simp [ti101]) (by simp [ti101]) (by simp [ti101]) (by simp [ti101])
def ti102 : TI := { known := true, agg := false, size := 1, bytes := 8, zero := [.nilFunc], kind := 8 }
theorem ti102_ok : TI.ok Try.prog 102 ti102 := TI.ok_mk (by kernel_rfl) rfl Try.underlying102 rfl rfl (by simp [ti102]) (by first | (intro _; exact ⟨_, rfl, rfl⟩) | simp [ti102]) (by simp [ti102]) (by simp [ti102]) (by simp [ti102]) (by simp [ti102]) (by simp [ti102]) (by simp [ti102])
def ti103 : TI := { known := true, agg := false, size := 1, bytes := 8, zero := [.nilFunc], kind := 8 }
theorem ti103_ok : TI.ok Try.prog 103 ti103 := TI.ok_mk (by kernel_rfl) rfl Try.underlying103 rfl rfl (by simp [ti103]) (by first | (intro _; exact ⟨_, rfl, rfl⟩) | simp [ti103]) (by simp [ti103]) (by simp [ti103]) (by simp [ti103]) (by simp [ti103]) (by simp [ti103]) (by simp [ti103])
def ti105 : TI := { known := true, agg := false, size := 1, bytes := 8, zero := [.nilFunc], kind := 8 }
theorem ti105_ok : TI.ok Try.prog 105 ti105 := TI.ok_mk (by kernel_rfl) rfl Try.underlying105 rfl rfl (by simp [ti105]) (by first | (intro _; exact ⟨_, rfl, rfl⟩) | simp [ti105]) (by simp [ti105]) (by simp [ti105]) (by simp [ti105]) (by simp [ti105]) (by simp [ti105]) (by simp [ti105])
def ti106 : TI := { known := true, agg := false, size := 1, bytes := 8, zero := [.nilFunc], kind := 8 }
theorem ti106_ok : TI.ok Try.prog 106 ti106 := TI.ok_mk (by kernel_rfl) rfl Try.underlying106 rfl rfl (by simp [ti106]) (by first | (intro _; exact ⟨_, rfl, rfl⟩) | simp [ti106]) (by simp [ti106]) (by simp [ti106]) (by simp [ti106]) (by simp [ti106]) (by simp [ti106]) (by simp [ti106])
def ti107 : TI := { known := true, agg := false, size := 1, bytes := 8, zero := [.nilFunc], kind := 8 }
theorem ti107_ok : TI.ok Try.prog 107 ti107 := TI.ok_mk (by kernel_rfl) rfl Try.underlying107 rfl rfl (by simp [ti107]) (by first | (intro _; exact ⟨_, rfl, rfl⟩) | simp [ti107]) (by simp [ti107]) (by simp [ti107]) (by simp [ti107]) (by simp [ti107]) (by simp [ti107]) (by simp [ti107])
def ti108 : TI := { known := true, agg := false, size := 1, bytes := 8, zero := [.nilFunc], kind := 8 }
theorem ti108_ok : TI.ok Try.prog 108 ti108 := TI.ok_mk (by kernel_rfl) rfl Try.underlying108 rfl rfl (by simp [ti108]) (by first | (intro _; exact ⟨_, rfl, rfl⟩) | simp [ti108]) (by simp [ti108]) (by simp [ti108]) (by simp [ti108]) (by simp [ti108]) (by simp [ti108]) (by simp [ti108])
def ti109 : TI := { known := true, agg := false, size := 1, bytes := 8, zero := [.nilFunc], kind := 8 }
theorem ti109_ok : TI.ok Try.prog 109 ti109 := TI.ok_mk (by kernel_rfl) rfl Try.underlying109 rfl rfl (by simp [ti109]) (by first | (intro _; exact ⟨_, rfl, rfl⟩) | simp [ti109]) (by simp [ti109]) (by simp [ti109]) (by simp [ti109]) (by simp [ti109]) (by simp [ti109]) (by simp [ti109])
def ti110 : TI := { known := true, agg := false, size := 1, bytes := 8, zero := [.nilFunc], kind := 8 }
theorem ti110_ok : TI.ok Try.prog 110 ti110 := TI.ok_mk (by kernel_rfl) rfl Try.underlying110 rfl rfl (by simp [ti110]) (by first | (intro _; exact ⟨_, rfl, rfl⟩) | simp [ti110]) (by simp [ti110]) (by simp [ti110]) (by simp [ti110]) (by simp [ti110]) (by simp [ti110]) (by simp [ti110])
def ti111 : TI := { known := true, agg := false, size := 1, bytes := 8, zero := [.nilFunc], kind := 8 }
theorem ti111_ok : TI.ok Try.prog 111 ti111 := TI.ok_mk (by kernel_rfl) rfl Try.underlying111 rfl rfl (by simp [ti111]) (by first | (intro _; exact ⟨_, rfl, rfl⟩) | simp [ti111]) (by simp [ti111]) (by simp [ti111]) (by simp [ti111]) (by simp [ti111]) (by simp [ti111]) (by simp [ti111])
def ti112 : TI := { known := true, agg := false, size := 1, bytes := 8, zero := [.nilFunc], kind := 8 }
theorem ti112_ok : TI.ok Try.prog 112 ti112 := TI.ok_mk (by kernel_rfl) rfl Try.underlying112 rfl rfl (by simp [ti112]) (by first | (intro _; exact ⟨_, rfl, rfl⟩) | simp [ti112]) (by simp [ti112]) (by simp [ti112]) (by simp [ti112]) (by simp [ti112]) (by simp [ti112]) (by simp [ti112])
def ti113 : TI := { known := true, agg := false, size := 1, bytes := 8, zero := [.nilFunc], kind := 8 }
theorem ti113_ok : TI.ok Try.prog 113 ti113 := TI.ok_mk (by kernel_rfl) rfl Try.underlying113 rfl rfl (by simp [ti113]) (by first | (intro _; exact ⟨_, rfl, rfl⟩) | simp [ti113]) (by simp [ti113]) (by simp [ti113]) (by simp [ti113]) (by simp [ti113]) (by simp [ti113]) (by simp [ti113])
def ti114 : TI := { known := true, agg := false, size := 1, bytes := 8, zero := [.nilFunc], kind := 8 }
theorem ti114_ok : TI.ok Try.prog 114 ti114 := TI.ok_mk (by kernel_rfl) rfl Try.underlying114 rfl rfl (by simp [ti114]) (by first | (intro _; exact ⟨_, rfl, rfl⟩) | simp [ti114]) (by simp [ti114]) (by simp [ti114]) (by simp [ti114]) (by simp [ti114]) (by simp [ti114]) (by simp [ti114])
def ti117 : TI := { known := true, agg := true, size := 0, bytes := 0, zero := [], kind := 3, alen := 0, elem := 16 }
theorem ti117_ok : TI.ok Try.prog 117 ti117 := TI.ok_mk (by kernel_rfl) rfl Try.underlying117 rfl rfl (by simp [ti117]) (by first | (intro _; exact ⟨_, rfl, rfl⟩) | simp [ti117]) (by simp [ti117]) (by simp [ti117]) (by simp [ti117]) (by simp [ti117]) (by simp [ti117]) (by simp [ti117])
def ti118 : TI := { known := true, agg := true, size := 0, bytes := 0, zero := [], kind := 2, fields := [(0, 117)] }
theorem ti118_ok : TI.ok Try.prog 118 ti118 := TI.ok_mk (by kernel_rfl) rfl Try.underlying118 rfl rfl (by simp [ti118]) (by first | (intro _; exact ⟨_, rfl, rfl⟩) | simp [ti118]) (by simp [ti118]) (by simp [ti118]) (by simp [ti118]) (by simp [ti118]) (by simp [ti118]) (by simp [ti118])
def ti119 : TI := { known := true, agg := true, size := 0, bytes := 0, zero := [], kind := 2, fields := [(0, 117)] }
theorem ti119_ok : TI.ok Try.prog 119 ti119 := TI.ok_mk (by kernel_rfl) rfl Try.underlying119 rfl rfl (by simp [ti119]) (by first | (intro _; exact ⟨_, rfl, rfl⟩) | simp [ti119]) (by simp [ti119]) (by simp [ti119]) (by simp [ti119]) (by simp [ti119]) (by simp [ti119]) (by simp [ti119])
def ti120 : TI := { known := true, agg := false, size := 1, bytes := 8, zero := [.nilFunc], kind := 8 }
theorem ti120_ok : TI.ok Try.prog 120 ti120 := TI.ok_mk (by kernel_rfl) rfl Try.underlying120 rfl rfl (by simp [ti120]) (by first | (intro _; exact ⟨_, rfl, rfl⟩) | simp [ti120]) (by simp [ti120]) (by simp [ti120]) (by simp [ti120]) (by simp [ti120]) (by simp [ti120]) (by simp [ti120])
def ti121 : TI := { known := true, agg := false, size := 1, bytes := 4, zero := [.int .u32 0], kind := 5, ik := .u32 }
theorem ti121_ok : TI.ok Try.prog 121 ti121 := TI.ok_mk (by kernel_rfl) rfl Try.underlying121 rfl rfl (by simp [ti121]) (by first | (intro _; exact ⟨_, rfl, rfl⟩) | simp [ti121]) (by simp [ti121]) (by simp [ti121]) (by simp [ti121]) (by simp [ti121]) (by simp [ti121]) (by simp [ti121])
def ti122 : TI := { known := true, agg := false, size := 1, bytes := 1, zero := [.int .u8 0], kind := 5, ik := .u8 }
theorem ti122_ok : TI.ok Try.prog 122 ti122 := TI.ok_mk (by kernel_rfl) rfl Try.underlying122 rfl rfl (by simp [ti122]) (by first | (intro _; exact ⟨_, rfl, rfl⟩) | simp [ti122]) (by simp [ti122]) (by simp [ti122]) (by simp [ti122]) (by simp [ti122]) (by simp [ti122]) (by simp [ti122])
def ti123 : TI := { known := true, agg := false, size := 1, bytes := 1, zero := [.int .u8 0], kind := 5, ik := .u8 }
theorem ti123_ok : TI.ok Try.prog 123 ti123 := TI.ok_mk (by kernel_rfl) rfl Try.underlying123 rfl rfl (by simp [ti123]) (by first | (intro _; exact ⟨_, rfl, rfl⟩) | simp [ti123]) (by simp [ti123]) (by simp [ti123]) (by simp [ti123]) (by simp [ti123]) (by simp [ti123]) (by simp [ti123])
def ti124 : TI := { known := true, agg := false, size := 1, bytes := 8, zero := [.nilFunc], kind := 8 }
theorem ti124_ok : TI.ok Try.prog 124 ti124 := TI.ok_mk (by kernel_rfl) rfl Try.underlying124 rfl rfl (by simp [ti124]) (by first | (intro _; exact ⟨_, rfl, rfl⟩) | simp [ti124]) (by simp [ti124]) (by simp [ti124]) (by simp [ti124]) (by simp [ti124]) (by simp [ti124]) (by simp [ti124])
def ti125 : TI := { known := true, agg := false, size := 1, bytes := 8, zero := [.pointer none], kind := 7, elem := 5 }
theorem ti125_ok : TI.ok Try.prog 125 ti125 := TI.ok_mk (by kernel_rfl) rfl Try.underlying125 rfl rfl (by simp [ti125]) (by first | (intro _; exact ⟨_, rfl, rfl⟩) | simp [ti125]) (by simp [ti125]) (by simp [ti125]) (by simp [ti125]) (by simp [ti125]) (by simp [ti125]) (by simp [ti125])
def ti126 : TI := { known := true, agg := false, size := 1, bytes := 4, zero := [.int .i32 0], kind := 5, ik := .i32 }
theorem ti126_ok : TI.ok Try.prog 126 ti126 := TI.ok_mk (by kernel_rfl) rfl Try.underlying126 rfl rfl (by simp [ti126]) (by first | (intro _; exact ⟨_, rfl, rfl⟩) | simp [ti126]) (by simp [ti126]) (by simp [ti126]) (by simp [ti126]) (by simp [ti126]) (by simp [ti126]) (by simp [ti126])
def ti127 : TI := { known := true, agg := false, size := 1, bytes := 4, zero := [.int .i32 0], kind := 5, ik := .i32 }
theorem ti127_ok : TI.ok Try.prog 127 ti127 := TI.ok_mk (by kernel_rfl) rfl Try.underlying127 rfl rfl (by simp [ti127]) (by first | (intro _; exact ⟨_, rfl, rfl⟩) | simp [ti127]) (by simp [ti127]) (by simp [ti127]) (by simp [ti127]) (by simp [ti127]) (by simp [ti127]) (by simp [ti127])
def ti130 : TI := { known := true, agg := false, size := 1, bytes := 24, zero := [.slice none 0 0], kind := 1, elem := 132 }
theorem ti130_ok : TI.ok Try.prog 130 ti130 := TI.ok_mk (by kernel_rfl) rfl Try.underlying130 rfl rfl (by simp [ti130]) (by first | (intro _; exact ⟨_, rfl, rfl⟩) | simp [ti130]) (by simp [ti130]) (by simp [ti130]) (by simp [ti130]) (by simp [ti130]) (by simp [ti130]) (by simp [ti130])
def ti131 : TI := { known := true, agg := true, size := 3, bytes := 32, zero := [.int .i64 0, .int .i64 0, .string ⟨#[]⟩], kind := 2, fields := [(0, 3), (1, 3), (2, 9)], eqk := true }
theorem ti131_ok : TI.ok Try.prog 131 ti131 := TI.ok_mk (by kernel_rfl) rfl Try.underlying131 rfl rfl (by simp [ti131]) (by first | (intro _; exact ⟨_, rfl, rfl⟩) | simp [ti131]) (by simp [ti131]) (by simp [ti131]) (by simp [ti131]) (by simp [ti131]) (by simp [ti131]) (fun _ => ⟨by kernel_rfl, by kernel_rfl, fun fs h => by cases h; rfl⟩)
def ti132 : TI := { known := true, agg := true, size := 3, bytes := 32, zero := [.int .i64 0, .int .i64 0, .string ⟨#[]⟩], kind := 2, fields := [(0, 3), (1, 3), (2, 9)], eqk := true }
theorem ti132_ok : TI.ok Try.prog 132 ti132 := TI.ok_mk (by kernel_rfl) rfl Try.underlying132 rfl rfl (by simp [ti132]) (by first | (intro _; exact ⟨_, rfl, rfl⟩) | simp [ti132]) (by simp [ti132]) (by simp [ti132]) (by simp [ti132]) (by simp [ti132]) (by simp [ti132]) (fun _ => ⟨by kernel_rfl, by kernel_rfl, fun fs h => by cases h; rfl⟩)
def ti133 : TI := { known := true, agg := true, size := 9, bytes := 112, zero := [.int .i64 0, .int .i64 0, .int .i64 0, .int .i64 0, .slice none 0 0, .slice none 0 0, .int .i64 0, .int .i64 0, .string ⟨#[]⟩], kind := 2, fields := [(0, 3), (1, 3), (2, 3), (3, 3), (4, 130), (5, 130), (6, 132)] }
theorem ti133_ok : TI.ok Try.prog 133 ti133 := TI.ok_mk (by kernel_rfl) rfl Try.underlying133 rfl rfl (by simp [ti133]) (by first | (intro _; exact ⟨_, rfl, rfl⟩) | simp [ti133]) (by simp [ti133]) (by simp [ti133]) (by simp [ti133]) (by simp [ti133]) (by simp [ti133]) (by simp [ti133])
def ti134 : TI := { known := true, agg := true, size := 9, bytes := 112, zero := [.int .i64 0, .int .i64 0, .int .i64 0, .int .i64 0, .slice none 0 0, .slice none 0 0, .int .i64 0, .int .i64 0, .string ⟨#[]⟩], kind := 2, fields := [(0, 3), (1, 3), (2, 3), (3, 3), (4, 130), (5, 130), (6, 132)] }
theorem ti134_ok : TI.ok Try.prog 134 ti134 := TI.ok_mk (by kernel_rfl) rfl Try.underlying134 rfl rfl (by simp [ti134]) (by first | (intro _; exact ⟨_, rfl, rfl⟩) | simp [ti134]) (by simp [ti134]) (by simp [ti134]) (by simp [ti134]) (by simp [ti134]) (by simp [ti134]) (by simp [ti134])
def tabL : List (Nat × TI) := [(1, ti1), (2, ti2), (3, ti3), (4, ti4), (5, ti5), (6, ti6), (7, ti7), (8, ti8), (9, ti9), (10, ti10), (11, ti11), (12, ti12), (13, ti13), (14, ti14), (15, ti15), (16, ti16), (17, ti17), (18, ti18), (19, ti19), (20, ti20), (21, ti21), (22, ti22), (23, ti23), (24, ti24), (25, ti25), (26, ti26), (27, ti27), (28, ti28), (29, ti29), (30, ti30), (31, ti31), (32, ti32), (33, ti33), (34, ti34), (35, ti35), (36, ti36), (37, ti37), (38, ti38), (39, ti39), (40, ti40), (41, ti41), (42, ti42), (43, ti43), (44, ti44), (45, ti45), (46, ti46), (47, ti47), (48, ti48), (49, ti49), (50, ti50), (51, ti51), (52, ti52), (53, ti53), (54, ti54), (55, ti55), (56, ti56), (57, ti57), (58, ti58), (59, ti59), (60, ti60), (61, ti61), (62, ti62), (63, ti63), (64, ti64), (65, ti65), (66, ti66), (67, ti67), (68, ti68), (69, ti69), (70, ti70), (71, ti71), (72, ti72), (73, ti73), (74, ti74), (75, ti75), (76, ti76), (77, ti77), (78, ti78), (79, ti79), (80, ti80), (81, ti81), (82, ti82), (83, ti83), (84, ti84), (85, ti85), (86, ti86), (87, ti87), (88, ti88), (89, ti89), (90, ti90), (91, ti91), (92, ti92), (93, ti93), (94, ti94), (95, ti95), (96, ti96), (97, ti97), (98, ti98), (99, ti99), (100, ti100), (101, ti101), (102, ti102), (103, ti103), (105, ti105), (106, ti106), (107, ti107), (108, ti108), (109, ti109), (110, ti110), (111, ti111), (112, ti112), (113, ti113), (114, ti114), (117, ti117), (118, ti118), (119, ti119), (120, ti120), (121, ti121), (122, ti122), (123, ti123), (124, ti124), (125, ti125), (126, ti126), (127, ti127), (130, ti130), (131, ti131), (132, ti132), (133, ti133), (134, ti134)]
theorem tabL_ok : AllOk Try.prog tabL := ⟨ti1_ok, ti2_ok, ti3_ok, ti4_ok, ti5_ok, ti6_ok, ti7_ok, ti8_ok, ti9_ok, ti10_ok, ti11_ok, ti12_ok, ti13_ok, ti14_ok, ti15_ok, ti16_ok, ti17_ok, ti18_ok, ti19_ok, ti20_ok, ti21_ok, ti22_ok, ti23_ok, ti24_ok, ti25_ok, ti26_ok, ti27_ok, ti28_ok, ti29_ok, ti30_ok, ti31_ok, ti32_ok, ti33_ok, ti34_ok, ti35_ok, ti36_ok, ti37_ok, ti38_ok, ti39_ok, ti40_ok, ti41_ok, ti42_ok, ti43_ok, ti44_ok, ti45_ok, ti46_ok, ti47_ok, ti48_ok, ti49_ok, ti50_ok, ti51_ok, ti52_ok, ti53_ok, ti54_ok, ti55_ok, ti56_ok, ti57_ok, ti58_ok, ti59_ok, ti60_ok, ti61_ok, ti62_ok, ti63_ok, ti64_ok, ti65_ok, ti66_ok, ti67_ok, ti68_ok, ti69_ok, ti70_ok, ti71_ok, ti72_ok, ti73_ok, ti74_ok, ti75_ok, ti76_ok, ti77_ok, ti78_ok, ti79_ok, ti80_ok, ti81_ok, ti82_ok, ti83_ok, ti84_ok, ti85_ok, ti86_ok, ti87_ok, ti88_ok, ti89_ok, ti90_ok, ti91_ok, ti92_ok, ti93_ok, ti94_ok, ti95_ok, ti96_ok, ti97_ok, ti98_ok, ti99_ok, ti100_ok, ti101_ok, ti102_ok, ti103_ok, ti105_ok, ti106_ok, ti107_ok, ti108_ok, ti109_ok, ti110_ok, ti111_ok, ti112_ok, ti113_ok, ti114_ok, ti117_ok, ti118_ok, ti119_ok, ti120_ok, ti121_ok, ti122_ok, ti123_ok, ti124_ok, ti125_ok, ti126_ok, ti127_ok, ti130_ok, ti131_ok, ti132_ok, ti133_ok, ti134_ok, trivial⟩
def T : Tab := fun t => (tabL.lookup t).getD {}
theorem T_ok : TabOk Try.prog T := tabOk_of tabL_ok
theorem T1 : T 1 = ti1 := rfl
theorem T2 : T 2 = ti2 := rfl
theorem T3 : T 3 = ti3 := rfl
theorem T4 : T 4 = ti4 := rfl
theorem T5 : T 5 = ti5 := rfl
theorem T6 : T 6 = ti6 := rfl
theorem T7 : T 7 = ti7 := rfl
theorem T8 : T 8 = ti8 := rfl
theorem T9 : T 9 = ti9 := rfl
theorem T10 : T 10 = ti10 := rfl
theorem T11 : T 11 = ti11 := rfl
theorem T12 : T 12 = ti12 := rfl
theorem T13 : T 13 = ti13 := rfl
theorem T14 : T 14 = ti14 := rfl
theorem T15 : T 15 = ti15 := rfl
theorem T16 : T 16 = ti16 := rfl
theorem T17 : T 17 = ti17 := rfl
theorem T18 : T 18 = ti18 := rfl
theorem T19 : T 19 = ti19 := rfl
theorem T20 : T 20 = ti20 := rfl
theorem T21 : T 21 = ti21 := rfl
theorem T22 : T 22 = ti22 := rfl
theorem T23 : T 23 = ti23 := rfl
theorem T24 : T 24 = ti24 := rfl
theorem T25 : T 25 = ti25 := rfl
theorem T26 : T 26 = ti26 := rfl
theorem T27 : T 27 = ti27 := rfl
theorem T28 : T 28 = ti28 := rfl
theorem T29 : T 29 = ti29 := rfl
theorem T30 : T 30 = ti30 := rfl
theorem T31 : T 31 = ti31 := rfl
theorem T32 : T 32 = ti32 := rfl
theorem T33 : T 33 = ti33 := rfl
theorem T34 : T 34 = ti34 := rfl
theorem T35 : T 35 = ti35 := rfl
theorem T36 : T 36 = ti36 := rfl
theorem T37 : T 37 = ti37 := rfl
theorem T38 : T 38 = ti38 := rfl
theorem T39 : T 39 = ti39 := rfl
theorem T40 : T 40 = ti40 := rfl
theorem T41 : T 41 = ti41 := rfl
theorem T42 : T 42 = ti42 := rfl
theorem T43 : T 43 = ti43 := rfl
theorem T44 : T 44 = ti44 := rfl
theorem T45 : T 45 = ti45 := rfl
theorem T46 : T 46 = ti46 := rfl
theorem T47 : T 47 = ti47 := rfl
theorem T48 : T 48 = ti48 := rfl
theorem T49 : T 49 = ti49 := rfl
theorem T50 : T 50 = ti50 := rfl
theorem T51 : T 51 = ti51 := rfl
theorem T52 : T 52 = ti52 := rfl
theorem T53 : T 53 = ti53 := rfl
theorem T54 : T 54 = ti54 := rfl
theorem T55 : T 55 = ti55 := rfl
theorem T56 : T 56 = ti56 := rfl
theorem T57 : T 57 = ti57 := rfl
theorem T58 : T 58 = ti58 := rfl
theorem T59 : T 59 = ti59 := rfl
theorem T60 : T 60 = ti60 := rfl
theorem T61 : T 61 = ti61 := rfl
theorem T62 : T 62 = ti62 := rfl
theorem T63 : T 63 = ti63 := rfl
theorem T64 : T 64 = ti64 := rfl
theorem T65 : T 65 = ti65 := rfl
theorem T66 : T 66 = ti66 := rfl
theorem T67 : T 67 = ti67 := rfl
theorem T68 : T 68 = ti68 := rfl
theorem T69 : T 69 = ti69 := rfl
theorem T70 : T 70 = ti70 := rfl
theorem T71 : T 71 = ti71 := rfl
theorem T72 : T 72 = ti72 := rfl
theorem T73 : T 73 = ti73 := rfl
theorem T74 : T 74 = ti74 := rfl
theorem T75 : T 75 = ti75 := rfl
theorem T76 : T 76 = ti76 := rfl
theorem T77 : T 77 = ti77 := rfl
theorem T78 : T 78 = ti78 := rfl
theorem T79 : T 79 = ti79 := rfl
theorem T80 : T 80 = ti80 := rfl
theorem T81 : T 81 = ti81 := rfl
theorem T82 : T 82 = ti82 := rfl
theorem T83 : T 83 = ti83 := rfl
theorem T84 : T 84 = ti84 := rfl
theorem T85 : T 85 = ti85 := rfl
theorem T86 : T 86 = ti86 := rfl
theorem T87 : T 87 = ti87 := rfl
theorem T88 : T 88 = ti88 := rfl
theorem T89 : T 89 = ti89 := rfl
theorem T90 : T 90 = ti90 := rfl
theorem T91 : T 91 = ti91 := rfl
theorem T92 : T 92 = ti92 := rfl
theorem T93 : T 93 = ti93 := rfl
theorem T94 : T 94 = ti94 := rfl
theorem T95 : T 95 = ti95 := rfl
theorem T96 : T 96 = ti96 := rfl
theorem T97 : T 97 = ti97 := rfl
theorem T98 : T 98 = ti98 := rfl
theorem T99 : T 99 = ti99 := rfl
theorem T100 : T 100 = ti100 := rfl
theorem T101 : T 101 = ti101 := rfl
theorem T102 : T 102 = ti102 := rfl
theorem T103 : T 103 = ti103 := rfl
theorem T105 : T 105 = ti105 := rfl
theorem T106 : T 106 = ti106 := rfl
theorem T107 : T 107 = ti107 := rfl
theorem T108 : T 108 = ti108 := rfl
theorem T109 : T 109 = ti109 := rfl
theorem T110 : T 110 = ti110 := rfl
theorem T111 : T 111 = ti111 := rfl
theorem T112 : T 112 = ti112 := rfl
theorem T113 : T 113 = ti113 := rfl
theorem T114 : T 114 = ti114 := rfl
theorem T117 : T 117 = ti117 := rfl
theorem T118 : T 118 = ti118 := rfl
theorem T119 : T 119 = ti119 := rfl
theorem T120 : T 120 = ti120 := rfl
theorem T121 : T 121 = ti121 := rfl
theorem T122 : T 122 = ti122 := rfl
theorem T123 : T 123 = ti123 := rfl
theorem T124 : T 124 = ti124 := rfl
theorem T125 : T 125 = ti125 := rfl
theorem T126 : T 126 = ti126 := rfl
theorem T127 : T 127 = ti127 := rfl
theorem T130 : T 130 = ti130 := rfl
theorem T131 : T 131 = ti131 := rfl
theorem T132 : T 132 = ti132 := rfl
theorem T133 : T 133 = ti133 := rfl
theorem T134 : T 134 = ti134 := rfl
end Go.Proofs.Ytalbfikfbejnfaa.A
