/-
  What is known by heart for the laws of any values: the table, what must come, Fits, Same.
-/
import Derived.Test.YthgidafohcfjoaaOpS2
set_option linter.unusedVariables false
set_option linter.unusedSimpArgs false
namespace Go.AM
open Go.Proofs

def triples : List V → Option (List Va)
  | [] => some []
  | .int .i64 t :: .int .i64 n :: .str s :: r => (triples r).map (⟨t, n, s⟩ :: ·)
  | _ => none
def ints : List V → Option (List Int)
  | [] => some []
  | .int .i64 t :: r => (ints r).map (t :: ·)
  | _ => none

theorem triples_eq : ∀ (r : List V) (l : List Va), triples r = some l → r = rowOf l
  | [], l, h => by simp only [triples, Option.some.injEq] at h; subst h; rfl
  | .int .i64 t :: .int .i64 n :: .str s :: r, l, h => by
    simp only [triples, Option.map_eq_some_iff] at h
    obtain ⟨l', h', rfl⟩ := h
    rw [triples_eq r l' h']; rfl
theorem triples_row : ∀ (l : List Va), triples (rowOf l) = some l
  | [] => rfl
  | x :: l => by simp only [rowOf, triples, triples_row l]; rfl
theorem ints_eq : ∀ (r : List V) (l : List Int), ints r = some l → r = rowI l
  | [], l, h => by simp only [ints, Option.some.injEq] at h; subst h; rfl
  | .int .i64 t :: r, l, h => by
    simp only [ints, Option.map_eq_some_iff] at h
    obtain ⟨l', h', rfl⟩ := h
    rw [ints_eq r l' h']; rfl
theorem ints_row : ∀ (l : List Int), ints (rowI l) = some l
  | [] => rfl
  | x :: l => by simp only [rowI, ints, ints_row l]; rfl

theorem row_flat : ∀ (l : List Va), flats (rowOf l) = true
  | [] => rfl
  | x :: l => by simp only [rowOf, flats, flat, row_flat l]; rfl
theorem rowI_flat : ∀ (l : List Int), flats (rowI l) = true
  | [] => rfl
  | x :: l => by simp only [rowI, flats, flat, rowI_flat l]; rfl

def vaOf : V → Option (List Va)
  | .nilslice => some []
  | .tup [.tup row, .int .i64 z, .int .i64 m, _, .int .i64 _] => match triples row with
    | some l => if z = 0 ∧ m = (l.length : Nat) then some l else none
    | none => none
  | _ => none
def inOf : V → Option (List Int)
  | .nilslice => some []
  | .tup [.tup row, .int .i64 z, .int .i64 m, _, .int .i64 _] => match ints row with
    | some l => if z = 0 ∧ m = (l.length : Nat) then some l else none
    | none => none
  | _ => none

theorem vaOf_is {d : V} {l : List Va} (h : vaOf d = some l) : IsV d l := by
  unfold vaOf at h
  split at h
  · cases h; exact .nil
  · rename_i row z m c u
    split at h
    · rename_i l' hl
      split at h
      · rename_i hz
        cases h
        obtain ⟨rfl, rfl⟩ := hz
        rw [triples_eq row l hl]
        exact .row l c u
      · cases h
    · cases h
  · cases h
theorem inOf_is {d : V} {l : List Int} (h : inOf d = some l) : IsI d l := by
  unfold inOf at h
  split at h
  · cases h; exact .nil
  · rename_i row z m c u
    split at h
    · rename_i l' hl
      split at h
      · rename_i hz
        cases h
        obtain ⟨rfl, rfl⟩ := hz
        rw [ints_eq row l hl]
        exact .row l c u
      · cases h
    · cases h
  · cases h
theorem vaOf_dV (l : List Va) (c : V) (u : Int) : vaOf (dV l c u) = some l := by
  simp [vaOf, dV, triples_row]
theorem inOf_dI (l : List Int) (c : V) (u : Int) : inOf (dI l c u) = some l := by
  simp [inOf, dI, ints_row]

def fitsR : List V → Option V := fun args => match args with
  | [d1, d2] => match vaOf d1, inOf d2 with
    | some l, some ts => if ts.length ≤ 3 then some (.bool (fitsB l ts)) else none
    | _, _ => none
  | _ => none

deriving instance DecidableEq for Va

def sameR : List V → Option V := fun args => match args with
  | [d1, d2] => match vaOf d1, vaOf d2 with
    | some l, some l' => if l = l' ∧ l.length < 9223372036854775807 then some (.bool true) else none
    | _, _ => none
  | _ => none

theorem fits_known (f : FuncId) (hf : ∀ {d1 d2 : V} {l : List Va} {ts : List Int}, IsV d1 l → IsI d2 ts → ts.length ≤ 3 → ∃ h', callN Try.prog X6 60 f (und [d1, d2] 0).1 (allocs h0 (und [d1, d2] 0).2) = some (.bool (fitsB l ts), h')) : ReadKnows Try.prog X6 f fitsR := by
  intro dargs v h
  unfold fitsR at h
  split at h
  · rename_i d1 d2
    split at h
    · rename_i l ts h1 h2
      split at h
      · rename_i h3
        cases h
        refine ⟨rfl, ?_, 60, hf (vaOf_is h1) (inOf_is h2) h3⟩
        cases vaOf_is h1 <;> cases inOf_is h2 <;> simp [rowsFlat, dV, dI, row_flat, rowI_flat]
      · cases h
    · cases h
  · cases h

theorem same_known : ReadKnows Try.prog X6 13 sameR := by
  intro dargs v h
  unfold sameR at h
  split at h
  · rename_i d1 d2
    split at h
    · rename_i l l' h1 h2
      split at h
      · rename_i h3
        obtain ⟨rfl, hlen⟩ := h3
        cases h
        refine ⟨rfl, by cases vaOf_is h1 <;> cases vaOf_is h2 <;> simp [rowsFlat, dV, row_flat], ?_⟩
        have a1 := vaOf_is h1
        have a2 := vaOf_is h2
        cases a1 with
        | nil => cases a2 with
          | nil => exact ⟨60, run_of_from same_nil00 obs2_nil⟩
          | row _ c u => exact ⟨60, run_of_from (same_nil01 c u) obs2_nil⟩
        | row _ c u => cases a2 with
          | nil => exact ⟨60, run_of_from (same_nil10 c u) obs2_nil⟩
          | row _ c' u' => exact same_ok l c c' u u' hlen
      · cases h
    · cases h
  · cases h

def X7l : List Known := [tableK, knowsK, ⟨21, fitsR⟩, ⟨40, fitsR⟩, ⟨13, sameR⟩]
def X7 : Ext := knownExt X7l
theorem X7_ok : ExtOk Try.prog X7 := knownExt_ok mixed (by
  intro x hx
  simp only [X7l, List.mem_cons, List.not_mem_nil, or_false] at hx
  rcases hx with rfl | rfl | rfl | rfl | rfl
  · exact ⟨flatExt [], noExt_ok, flatExt_mono _, tableK_ok⟩
  · exact ⟨X1, X1_ok, X1_mono, knowsK_ok⟩
  · exact ⟨X6, X6_ok, X6_mono, fits_known 21 (fun h1 h2 h3 => fits21 h1 h2 h3)⟩
  · exact ⟨X6, X6_ok, X6_mono, fits_known 40 (fun h1 h2 h3 => fits40 h1 h2 h3)⟩
  · exact ⟨X6, X6_ok, X6_mono, same_known⟩)
theorem X7_mono : ExtMono X7 := knownExt_mono _

theorem okFits21 {d1 d2 : V} {l : List Va} {ts : List Int} {y : Bool} (h1 : vaOf d1 = some l) (h2 : inOf d2 = some ts) (h3 : ts.length ≤ 3) (h : fitsB l ts = y) : (Ob2.rd 21 [d1, d2] (.bool y)).ok Try.prog X7 :=
  ok_rd (l := X7l) (r := fitsR) rfl (by simp [fitsR, h1, h2, h3, h])
theorem okFits40 {d1 d2 : V} {l : List Va} {ts : List Int} {y : Bool} (h1 : vaOf d1 = some l) (h2 : inOf d2 = some ts) (h3 : ts.length ≤ 3) (h : fitsB l ts = y) : (Ob2.rd 40 [d1, d2] (.bool y)).ok Try.prog X7 :=
  ok_rd (l := X7l) (r := fitsR) rfl (by simp [fitsR, h1, h2, h3, h])
theorem okSame {d1 d2 : V} {l : List Va} (h1 : vaOf d1 = some l) (h2 : vaOf d2 = some l) (h3 : l.length < 9223372036854775807) : (Ob2.rd 13 [d1, d2] (.bool true)).ok Try.prog X7 :=
  ok_rd (l := X7l) (r := sameR) rfl (by simp [sameR, h1, h2, h3])

end Go.AM
