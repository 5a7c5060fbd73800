/-
  Appending, copying, converting, making.
-/
import Derived.Test.YtmokkkbbbmcjnaaGreatDoorAmOps4
set_option linter.unusedSectionVars false
set_option linter.unusedSimpArgs false
set_option linter.unusedVariables false
namespace Go.AM

variable {P : Program} [Glob P]

theorem run_append_in (w w' : World) (t0 t1 ty e : TypeId) (u1 : TypeDesc) (i : TypeInfo) (h0 : P.underlying t0 = some (.slice e)) (h1 : P.underlying t1 = some u1) (hu1 : u1 = .string ∨ ∃ e', u1 = .slice e') (hi : P.info? e = some i)
    (base : Option Addr) (sLen sCap m : Nat) (y' : Value) (new : List Value) (hl : (Builtin.lenOf y').run P w = .ok m w) (hf : (Builtin.firstCells i.size m y').run P w = .ok new.toArray w)
    (hroom : sLen + m ≤ sCap) (hst : match base with | some a => (storeCells (a.add (sLen * i.size)) new).run P w = .ok () w' | none => w' = w) :
    (Builtin.append_ #[t0, t1] ty #[.slice base sLen sCap, y']).run P w = .ok (.slice base (sLen + m) sCap) w' := by
  have key : (Builtin.append_ #[t0, t1] ty #[.slice base sLen sCap, y']).run P w = (match base with | some a => (storeCells (a.add (sLen * i.size)) new).run P w | none => .ok () w).andThen fun _ w => .ok (.slice base (sLen + m) sCap) w := by
    rcases hu1 with rfl | ⟨e', rfl⟩ <;> cases base <;> simp [Builtin.append_, run_underlying h0, run_underlying h1, sizeOf, typeInfo, hi, hl, hf, hroom]
  rw [key]
  cases base with
  | none => simp only at hst; subst hst; rfl
  | some a => simp only at hst; simp only [hst]; rfl

theorem run_append_out (w : World) (t0 t1 ty e : TypeId) (u1 : TypeDesc) (i : TypeInfo) (z : Value) (h0 : P.underlying t0 = some (.slice e)) (h1 : P.underlying t1 = some u1) (hu1 : u1 = .string ∨ ∃ e', u1 = .slice e') (hi : P.info? e = some i) (hz : i.zero = some z)
    (base : Option Addr) (sLen sCap m : Nat) (y' : Value) (old new : List Value) (hl : (Builtin.lenOf y').run P w = .ok m w) (hf : (Builtin.firstCells i.size m y').run P w.drew = .ok new.toArray w.drew)
    (ho : (Builtin.firstCells i.size sLen (.slice base sLen sCap)).run P w.drew = .ok old.toArray w.drew)
    (hroom : sCap < sLen + m) (h63 : ((sLen + m : Nat) : Int) ≤ 9223372036854775807) (hfit : Builtin.nextslicecap (sLen + m) sCap * i.bytes ≤ 281474976710656) :
    (Builtin.append_ #[t0, t1] ty #[.slice base sLen sCap, y']).run P w =
      .ok (.slice (some ⟨w.heap.size, 0, none⟩) (sLen + m) (grownCap w (sLen + m) sCap e))
        (w.drew.alloc (.cells (old.toArray ++ new.toArray ++ Builtin.zeroCells z.cells (grownCap w (sLen + m) sCap e - (sLen + m))) e)) := by
  have hn : ¬ (sLen + m ≤ sCap) := by omega
  have h63' : ¬ (9223372036854775807 < ((sLen : Int) + (m : Int))) := by omega
  have h48' : ¬ (281474976710656 < Builtin.nextslicecap (sLen + m) sCap * i.bytes) := by omega
  have hlw : (Builtin.lenOf y').run P w = .ok m w := hl
  rcases hu1 with rfl | ⟨e', rfl⟩ <;>
    (simp [Builtin.append_, run_underlying h0, run_underlying h1, sizeOf, typeInfo, zeroValue, hi, hz, hlw, hn, h63', h48', Question.forced, ho, hf, newRow, grownCap]
     congr 2
     apply Array.ext'
     simp [List.append_assoc])

end Go.AM
