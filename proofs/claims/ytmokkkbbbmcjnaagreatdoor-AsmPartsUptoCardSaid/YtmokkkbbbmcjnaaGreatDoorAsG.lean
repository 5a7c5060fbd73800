/-
  What is known of the world in which the laws of scripts' lines are called: three package-level variables of the library.
-/
import Derived.Test.YtmokkkbbbmcjnaaGreatDoorAsE
import Derived.Test.YtmokkkbbbmcjnaaGreatDoorAsShelf
import Derived.Test.YtmokkkbbbmcjnaaGreatDoorRows
set_option linter.unusedSimpArgs false
set_option linter.unusedVariables false
namespace Go.AM
open Go.Proofs

def errCell (w : World) (b : Nat) : Prop := ∃ ev, w.cell? ⟨b, 0, none⟩ = some ev ∧ (ev = .nilIface ∨ ∃ te pe, ev = .iface te pe)

structure GOk (W : Nat → Prop) (w : World) : Prop where
  w0 : ¬ W 0
  w1 : ¬ W 1
  w2 : ¬ W 2
  w3 : ¬ W 3
  c0 : ∃ m, w.cell? ⟨0, 0, none⟩ = some (.int .i64 m)
  c1 : errCell w 1
  c2 : errCell w 2
  tab : Lib.TabIs Tryz.prog w "internal/strconv.uint64pow10" .u64 Lib.pow10Tab

theorem gPow : Tryz.prog.globalNamed "internal/strconv.uint64pow10" = some 3 := by kernel_rfl

theorem cell_of {w w' : World} {b : Nat} (e : w'.heap[b]? = w.heap[b]?) : w'.cell? ⟨b, 0, none⟩ = w.cell? ⟨b, 0, none⟩ := by unfold World.cell?; simp only [e]
theorem tab_of {w w' : World} (e : w'.heap[3]? = w.heap[3]?) (h : Lib.TabIs Tryz.prog w "internal/strconv.uint64pow10" .u64 Lib.pow10Tab) : Lib.TabIs Tryz.prog w' "internal/strconv.uint64pow10" .u64 Lib.pow10Tab := by
  unfold Lib.TabIs World.var? at *
  rw [gPow] at h ⊢
  simp only [Option.bind_some] at h ⊢
  rw [e]; exact h
theorem cell_lt {w : World} {b : Nat} {v : Value} (h : w.cell? ⟨b, 0, none⟩ = some v) : b < w.heap.size := by
  rcases Nat.lt_or_ge b w.heap.size with h' | h'
  · exact h'
  · unfold World.cell? at h
    simp only [Array.getElem?_eq_none h'] at h
    cases h
theorem tab_lt {w : World} (h : Lib.TabIs Tryz.prog w "internal/strconv.uint64pow10" .u64 Lib.pow10Tab) : 3 < w.heap.size := by
  rcases Nat.lt_or_ge 3 w.heap.size with h' | h'
  · exact h'
  · unfold Lib.TabIs World.var? at h
    rw [gPow] at h
    simp only [Option.bind_some, Array.getElem?_eq_none h'] at h
    cases h

theorem noBuilders : ∀ t, t < Tryz.prog.types.size → Tryz.prog.underlying t ≠ some (.slice 75) := by
  intro t ht h
  have key : (List.range Tryz.prog.types.size).all (fun t => match Tryz.prog.underlying t with | some (.slice e) => !(Nat.beq e 75) | _ => true) = true := by kernel_rfl
  have := List.all_eq_true.1 key t (List.mem_range.2 ht)
  rw [h] at this
  cases this
theorem noInts : ∀ k, Tryz.prog.underlying 75 ≠ some (.int k) := by
  intro k h
  have key : (match Tryz.prog.underlying 75 with | some (.int _) => false | _ => true) = true := by kernel_rfl
  rw [h] at key
  cases key

noncomputable instance : Glob Tryz.prog where
  ok := GOk
  same := fun h hs he => ⟨h.w0, h.w1, h.w2, h.w3, by obtain ⟨m, a⟩ := h.c0; exact ⟨m, by rw [cell_of (he 0 h.w0)]; exact a⟩, by obtain ⟨ev, a, b⟩ := h.c1; exact ⟨ev, by rw [cell_of (he 1 h.w1)]; exact a, b⟩, by obtain ⟨ev, a, b⟩ := h.c2; exact ⟨ev, by rw [cell_of (he 2 h.w2)]; exact a, b⟩, tab_of (he 3 h.w3) h.tab⟩
  sub := fun h hw => by
    have l0 := cell_lt h.c0.choose_spec
    have l1 := cell_lt h.c1.choose_spec.1
    have l2 := cell_lt h.c2.choose_spec.1
    have l3 := tab_lt h.tab
    exact ⟨fun k => (hw 0 k).elim h.w0 (fun h => by omega), fun k => (hw 1 k).elim h.w1 (fun h => by omega), fun k => (hw 2 k).elim h.w2 (fun h => by omega), fun k => (hw 3 k).elim h.w3 (fun h => by omega), h.c0, h.c1, h.c2, h.tab⟩
  bty := 75
  noslice := noBuilders
  noint := noInts

end Go.AM
