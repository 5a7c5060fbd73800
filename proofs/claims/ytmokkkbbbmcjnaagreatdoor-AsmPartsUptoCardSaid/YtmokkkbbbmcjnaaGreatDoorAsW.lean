/-
  strings.Builder: copyCheck and String, walked.
-/
import Derived.Test.YtmokkkbbbmcjnaaGreatDoorAsL
import Derived.Shelf.RegionOpenPlain
import Derived.Lib.Strings
import Derived.Lib.Slices
import Derived.Lib.Walk
import Derived.Lib.Builder
import Derived.Lib.AppendStr
import Derived.Lib.UnsafeStr
import Derived.Lib.MakeNoZero
import Derived.WalkKit
import Derived.Laws.Externs
import Derived.Laws.IdiomCopy
import Derived.Laws.BitsLemmas
set_option linter.unusedVariables false
namespace Go.Proofs
open Go.RowKit

theorem tz_size : (Tryz.prog.info? 75).map (·.size) = some 2 := by kernel_rfl
theorem tz_lies : liesAt Tryz.prog Tryz.prog.depth 75 (2 / Tryz.prog.cellsOf 75) 0 75 1 = true := by kernel_rfl
theorem tz_byte : Tryz.prog.cellsOf 5 = 1 := by kernel_rfl
theorem tz_mixed : Tryz.prog.follows .mixedOrders = true := by kernel_rfl

set_option maxHeartbeats 1000000 in
set_option maxRecDepth 100000 in
theorem tz_used (b : Nat) (w : World) (h0 : w.cell? ⟨b, 0, none⟩ = some (.pointer (some ⟨b, 0, none⟩))) :
    Calls Tryz.prog 69 #[.pointer (some ⟨b, 0, none⟩)] w fun e w' => e = .returned (.tuple #[]) ∧ w' = w := by
  obtain ⟨j, hj, _⟩ := Option.map_eq_some_iff.1 tz_size
  have mixed := tz_mixed
  have t75 := Tryz.underlying75; have a75 := Tryz.isAgg75; have z75 := Tryz.sizeOf75; have v75 := Tryz.zeroValue75; have u75 := run_underlying Tryz.underlying75
  have t72 := Tryz.underlying72; have a72 := Tryz.isAgg72; have z72 := Tryz.sizeOf72; have v72 := Tryz.zeroValue72; have u72 := run_underlying Tryz.underlying72
  have t4 := Tryz.underlying4; have a4 := Tryz.isAgg4; have z4 := Tryz.sizeOf4; have v4 := Tryz.zeroValue4; have u4 := run_underlying Tryz.underlying4
  have t125 := Tryz.underlying125; have a125 := Tryz.isAgg125; have z125 := Tryz.sizeOf125; have v125 := Tryz.zeroValue125; have u125 := run_underlying Tryz.underlying125
  go_enter Tryz.func69, Tryz.ntmps69
  go_wp2
  rw [Lib.run_neq_ptr_same w _ Tryz.underlying72 hj]
  go_wp2
  go_end0
  exact ⟨rfl, rfl⟩

set_option maxHeartbeats 1000000 in
set_option maxRecDepth 100000 in
theorem tz_fresh (b : Nat) (w : World) (h0 : w.cell? ⟨b, 0, none⟩ = some (.pointer none)) (hsh : w.shape? b = some (75, 2)) (hfr : w.frozen? ⟨b, 0, none⟩ = false) :
    Calls Tryz.prog 69 #[.pointer (some ⟨b, 0, none⟩)] w fun e w' => e = .returned (.tuple #[]) ∧ w' = w.setCell ⟨b, 0, none⟩ (.pointer (some ⟨b, 0, none⟩)) := by
  obtain ⟨j, hj, hjs⟩ := Option.map_eq_some_iff.1 tz_size
  have mixed := tz_mixed
  have t75 := Tryz.underlying75; have a75 := Tryz.isAgg75; have z75 := Tryz.sizeOf75; have v75 := Tryz.zeroValue75; have u75 := run_underlying Tryz.underlying75
  have t72 := Tryz.underlying72; have a72 := Tryz.isAgg72; have z72 := Tryz.sizeOf72; have v72 := Tryz.zeroValue72; have u72 := run_underlying Tryz.underlying72
  have t4 := Tryz.underlying4; have a4 := Tryz.isAgg4; have z4 := Tryz.sizeOf4; have v4 := Tryz.zeroValue4; have u4 := run_underlying Tryz.underlying4
  have t125 := Tryz.underlying125; have a125 := Tryz.isAgg125; have z125 := Tryz.sizeOf125; have v125 := Tryz.zeroValue125; have u125 := run_underlying Tryz.underlying125
  go_enter Tryz.func69, Tryz.ntmps69
  go_wp2
  rw [Lib.run_to_unsafe w ⟨b, 0, none⟩ Tryz.underlying72 Tryz.underlying125 hj (by rw [hjs]; decide) hsh (Nat.zero_lt_succ 1)]
  simp only [Result.andThen]
  rw [Oper.upon_value]
  go_wp2
  rw [run_callFunc_extern Tryz.func93 (by kernel_rfl) (by kernel_rfl) (by kernel_rfl) (e := Extern.AbiNoEscape.same) (by kernel_rfl)]
  rw [Lib.run_noEscape]
  simp only [Result.andThen]
  rw [Oper.upon_value]
  go_wp2
  rw [Lib.run_from_unsafe w ⟨b, 0, none⟩ Tryz.underlying125 Tryz.underlying72 hj hsh tz_lies]
  simp only [Result.andThen]
  rw [Oper.upon_value]
  go_wp2
  go_end0
  exact ⟨rfl, rfl⟩

set_option maxHeartbeats 2000000 in
set_option maxRecDepth 100000 in
theorem tz_string (b g cap : Nat) (p : Value) (l : List UInt8) (cells : Nat) (w : World) (hc1 : w.cell? ⟨b, 1, none⟩ = some (.slice (some ⟨g, 0, none⟩) l.length cap)) (h0 : l ≠ []) (hcap : l.length ≤ cap) (hsh : w.shape? g = some (5, cells)) (hn : l.length ≤ cells) (h63 : l.length ≤ 9223372036854775807)
    (hcell : ∀ j x, l[j]? = some x → w.cell? ((⟨g, 0, none⟩ : Addr).add j) = some (.int .u8 x.toNat)) :
    Calls Tryz.prog 47 #[.pointer (some ⟨b, 0, none⟩)] w fun e w' => e = .returned (.string ⟨l.toArray⟩) ∧ w' = w.drew.freeze ⟨g, 0, none⟩ l.length := by
  have hl0 : l.length ≠ 0 := by simpa using h0
  have c1 : w.drew.cell? ⟨b, 1, none⟩ = some (.slice (some ⟨g, 0, none⟩) l.length cap) := hc1
  have hSD : (Builtin.unsafeSliceData_ #[73] 106 #[.slice (some ⟨g, 0, none⟩) l.length cap]).run Tryz.prog w.drew = .ok (.pointer (some ⟨g, 0, none⟩)) w.drew :=
    Lib.run_unsafeSliceData_row _ _ _ _ _ _ (by omega)
  have hUS : (Builtin.unsafeString_ #[106, 3] 9 #[.pointer (some ⟨g, 0, none⟩), .int .i64 l.length]).run Tryz.prog w.drew = .ok (.string ⟨l.toArray⟩) (w.drew.freeze ⟨g, 0, none⟩ l.length) :=
    Lib.run_unsafeString_row w.drew 106 3 9 5 Tryz.underlying106 tz_byte g cells hsh l h0 hn h63 hcell
  have mixed := tz_mixed
  have t75 := Tryz.underlying75; have a75 := Tryz.isAgg75; have z75 := Tryz.sizeOf75; have v75 := Tryz.zeroValue75; have u75 := run_underlying Tryz.underlying75
  have t72 := Tryz.underlying72; have a72 := Tryz.isAgg72; have z72 := Tryz.sizeOf72; have v72 := Tryz.zeroValue72; have u72 := run_underlying Tryz.underlying72
  have t73 := Tryz.underlying73; have a73 := Tryz.isAgg73; have z73 := Tryz.sizeOf73; have v73 := Tryz.zeroValue73; have u73 := run_underlying Tryz.underlying73
  have t106 := Tryz.underlying106; have a106 := Tryz.isAgg106; have z106 := Tryz.sizeOf106; have v106 := Tryz.zeroValue106; have u106 := run_underlying Tryz.underlying106
  have t3 := Tryz.underlying3; have a3 := Tryz.isAgg3; have z3 := Tryz.sizeOf3; have v3 := Tryz.zeroValue3; have u3 := run_underlying Tryz.underlying3
  have t9 := Tryz.underlying9; have a9 := Tryz.isAgg9; have z9 := Tryz.sizeOf9; have v9 := Tryz.zeroValue9; have u9 := run_underlying Tryz.underlying9
  have t5 := Tryz.underlying5; have a5 := Tryz.isAgg5; have z5 := Tryz.sizeOf5; have v5 := Tryz.zeroValue5; have u5 := run_underlying Tryz.underlying5
  go_enter Tryz.func47, Tryz.ntmps47
  go_wp2
  go_region_o
  all_goals (go_wp2; go_ret; exact ⟨rfl, rfl⟩)

end Go.Proofs
