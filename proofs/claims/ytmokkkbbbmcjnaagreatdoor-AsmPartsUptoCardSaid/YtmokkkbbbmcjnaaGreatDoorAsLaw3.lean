/-
  AsmParts: whatever the input of the statement's bulk: true.
-/
import Derived.Test.YtmokkkbbbmcjnaaGreatDoorAsPq
import Derived.Test.YtmokkkbbbmcjnaaGreatDoorAsY
set_option linter.unusedVariables false
namespace Go.Proofs.YtmokkkbbbmcjnaaGreatDoor.asmParts
open Go.ChangeShapes Go.WideShapes Go.ChangeAt Go.RowKit
open Go.ChangeMaps (open_string shut_string)

theorem own : ownKnob Tryz.prog.godebug = none := by kernel_rfl
theorem laidOut : laidOutB Tryz.prog = true := by kernel_rfl
theorem gPowT : (Tryz.prog.globals[3]?).map (·.type) = some 156 := by kernel_rfl
theorem cells156 : Tryz.prog.cellsOf 156 = 20 := by kernel_rfl
theorem cells88 : Tryz.prog.cellsOf 88 = 1 := by kernel_rfl
theorem gR : Tryz.prog.globalNamed "strconv.ErrRange" = some 2 := by kernel_rfl
theorem gRT : (Tryz.prog.globals[2]?).map (·.type) = some 53 := by kernel_rfl
theorem gS : Tryz.prog.globalNamed "strconv.ErrSyntax" = some 1 := by kernel_rfl
theorem gST : (Tryz.prog.globals[1]?).map (·.type) = some 53 := by kernel_rfl
theorem star : "*" ++ "errors.errorString" = "*errors.errorString" := by decide
theorem row152 (u : TypeId) (h : Tryz.prog.typeName? 3 u = some "*errors.errorString") : u = 152 :=
  typeName_ptr_named (nm := "errors.errorString") (by rw [star]; kernel_rfl) (by kernel_rfl) (by decide) u (by rw [star]; exact h)
theorem cells154 : Tryz.prog.cellsOf 154 = 1 := by kernel_rfl
theorem cells9 : Tryz.prog.cellsOf 9 = 1 := by kernel_rfl

theorem knownWorld {W : World} (h : laidMet Tryz.prog Rows.asmPartsUptoRow.laid W) (hs : W.ShapedOpen Tryz.prog) : Go.AM.Glob.ok Tryz.prog (fun c => W.heap.size ≤ c) W := by
  have h3 : laidMet Tryz.prog (("internal/strconv.uint64pow10", Lib.tabData .u64 Lib.pow10Tab) :: _) W := h.tail.tail
  have h5 : laidMet Tryz.prog (("strconv.ErrRange", Rows.laid_strconv_ErrRange) :: _) W := h.tail.tail.tail.tail
  have h6 : laidMet Tryz.prog (("strconv.ErrSyntax", Rows.laid_strconv_ErrSyntax) :: _) W := h.tail.tail.tail.tail.tail
  have tab := Lib.tabIs_of_head Go.AM.gPow gPowT Tryz.underlying156 Tryz.underlying88 cells88 cells156 h3
  obtain ⟨a2, s2, v2, _⟩ := laid_sentinel h5 gR gRT Tryz.underlying53 row152 Tryz.underlying152 Tryz.underlying154 rfl rfl Tryz.underlying9 cells154 cells9
  obtain ⟨a1, s1, v1, _⟩ := laid_sentinel h6 gS gST Tryz.underlying53 row152 Tryz.underlying152 Tryz.underlying154 rfl rfl Tryz.underlying9 cells154 cells9
  have c1 : W.cell? ⟨1, 0, none⟩ = some (.iface 152 (.pointer (some a1))) := by simpa using World.var?_cell gS v1 0
  have c2 : W.cell? ⟨2, 0, none⟩ = some (.iface 152 (.pointer (some a2))) := by simpa using World.var?_cell gR v2 0
  obtain ⟨m0, c0⟩ := Tryz.laysM146.s1_3 W hs
  have c0 : W.cell? ⟨0, 0, none⟩ = some (.int .i64 m0) := c0
  have l0 := Go.AM.cell_lt c0
  have l1 := Go.AM.cell_lt c1
  have l2 := Go.AM.cell_lt c2
  have l3 := Go.AM.tab_lt tab
  exact ⟨by omega, by omega, by omega, by omega, ⟨_, c0⟩, ⟨_, c1, .inr ⟨_, _, rfl⟩⟩, ⟨_, c2, .inr ⟨_, _, rfl⟩⟩, tab⟩

set_option maxRecDepth 100000 in
theorem contract (H : Type) (enc : TypeId × Value → H) (W : World) (base : Nat) (args : Array Value) (ds gs : List (DataW H)) (before : List MemPlace)
    (hval : ∀ (j : Nat) t v, Tryz.f7.params[j]? = some t → args[j]? = some v → Value.okWide Tryz.prog W .any base t v)
    (hW : DataW.Whole enc Tryz.prog Tryz.f7.params.toList Rows.asmPartsSpec.vars false W args.toList ds gs before) (hL : laidMet Tryz.prog Rows.asmPartsUptoRow.laid W) (hS : W.ShapedOpen Tryz.prog) (hk : Rows.uptoBulkAll (ds ++ gs) ≤ 1048576) :
    Calls Tryz.prog 7 args W fun e W' => ∃ v, e = .returned v ∧ Rows.asmPartsSpec.post enc Tryz.prog Tryz.f7 false true false false W args v W' := by
  have hW' := hW
  obtain ⟨p, q, hA0, hV, rfl, hfz, hnd⟩ := hW
  have hA : DataW.TrodAll enc Tryz.prog W 0 (fun _ => true) true Tryz.f7.params.toList args.toList ds p := hA0
  rw [Tryz.params7] at hA hval
  obtain ⟨v0, vs0, d0, ds0, p0, q0, hargs, rfl, rfl, h0, r0⟩ := trodAll_cons hA
  obtain ⟨rfl, rfl, rfl⟩ := trodAll_nil r0
  obtain rfl : args = #[v0] := by cases args; simp_all
  obtain ⟨rfl, rfl⟩ := trodVars_none hV
  have k0 := h0
  have lt0 : ∀ x ∈ p0, x.block < W.heap.size := by obtain ⟨m, hm⟩ := k0; exact DataW.trod_lt m _ _ _ hm
  obtain ⟨x0, x1, y0, y1, n, rfl, rfl, rfl, t0, t1⟩ := Joins.open_agg2 Tryz.underlying39 (by kernel_rfl) (by kernel_rfl) (hval 0 39 v0 rfl rfl) h0
  clear hA0
  have hb : Rows.uptoBulk y0.1 ≤ 1048576 ∧ Rows.uptoBulk y1.1 ≤ 1048576 := by
    simp only [List.append_nil, Rows.uptoBulkAll, Rows.uptoBulk] at hk
    omega
  obtain ⟨m0, c0⟩ := Tryz.laysM146.s1_3 W hS
  obtain ⟨_, hB⟩ := Go.AM.cell_spot c0
  obtain ⟨dc, cs, a1, a2, a3, a4, a5⟩ := Go.AM.open_str hB t0 hb.1
  obtain ⟨df, fs, b1, b2, b3, b4, b5, b6, b7⟩ := Go.AM.open_funcs hB t1 hb.2
  have walk := Go.AM.law_parts (v0 := x0) (v1 := x1) (knownWorld hL hS) a1 b1 a2 b7 a3 a4 a5 b2 b3 b4 b5 b6
  refine walk.mono fun e W' ⟨he, bel⟩ => ?_
  subst he
  exact ⟨_, rfl, _, _, _, [], _, [], hW', trodAll_mk1 (shut_bool Tryz.underlying4 _), (trodAll_cons_mk (Below.trod laidOut (by kernel_rfl) (of_decide_eq_true (by kernel_rfl)) k0 bel lt0) trodAll_mk0), rfl, bel.frame _, fun h => by cases h⟩

def nilF : Value := .agg #[.slice none 0 0, .slice none 0 0]

theorem met (os : Os) (args : Array Value) : laidMet Tryz.prog Rows.asmPartsUptoRow.laid ((Go.AM.laidWorld os).forCall (fun _ _ => 0) ⟨#[], args, []⟩).memory :=
  laidMet_of_run' 8 (by kernel_rfl) (by kernel_rfl)

theorem reads (os : Os) {H : Type} (enc : TypeId × Value → H) : ∃ places, DataW.whole enc Tryz.prog ((Go.AM.laidWorld os).forCall (fun _ _ => 0) ⟨#[], #[nilF], []⟩).memory Tryz.f7.params.toList Rows.asmPartsSpec.vars false #[nilF].toList 8 = some ([.agg [.nil, .nil]], [], places) :=
  ⟨[], by kernel_rfl⟩

set_option maxRecDepth 100000 in
theorem liftedUpto (os : Os) (started : os.Started) (H : Type) (enc : TypeId × Value → H) (F : Stop.Interp) :
    ReturnsInHanded {} Tryz.checked os 7 .any ((Rows.OpenSpec.upto Rows.asmPartsSpec).preRow enc Tryz.prog Tryz.f7 Rows.asmPartsUptoRow.domain false Rows.asmPartsUptoRow.laid) (((Rows.OpenSpec.upto Rows.asmPartsSpec).at F).post enc Tryz.prog Tryz.f7 false true false false) := by
  obtain ⟨places, hx⟩ := reads os enc
  refine returnsInHanded_of_row (C := Tryz.checked) (s := Rows.OpenSpec.upto Rows.asmPartsSpec) own started (by kernel_rfl) Tryz.func7
    (witness_row_at (enc := enc) (C := Tryz.checked) false (Go.AM.laidWorld os) #[nilF] rfl (by kernel_rfl) (by kernel_rfl) (by kernel_rfl)
      (OpenSpec.preRow_of_cond 8 hx (by kernel_rfl) (fun k hk => by cases hk; kernel_rfl) (by kernel_rfl) (met os _))) ?_
  intro W base args ds gs before hval hW _ hcond _ hL hS _
  exact contract H enc W base args ds gs before hval hW hL hS (by
    have := hcond _ rfl
    simp only [Rows.uptoSmall, decide_eq_true_eq] at this
    exact this)

theorem saidUpto : Rows.AsmPartsUptoSaid :=
  OpenClaim.holds_of_cond 7 Tryz.f7 rfl rfl rfl rfl rfl rfl rfl ⟨rfl, rfl, rfl, rfl, rfl⟩ rfl rfl rfl rfl rfl (by kernel_rfl) Tryz.func7 (by kernel_rfl)
    (of_decide_eq_true (by kernel_rfl)) (by unfold Func.isWrapper; first | (rw [if_pos (by decide +kernel)]; kernel_rfl) | (rw [if_neg (by decide +kernel)]; exact ⟨rfl, rfl⟩))
    (fun os started H enc _ F => by rw [OpenClaim.pre_eq_preRow]; exact liftedUpto os started H enc F)

/-- No parameter wants a stand-in; the program's own looks are off. -/
theorem plain (f : FuncId) (fn : Func) (hf : Tryz.pinned.checked.prog.funcNamed "weighhouse/weighhouselaw05.AsmParts" = some f) (hfn : Tryz.pinned.checked.prog.funcs[f]? = some fn) :
    true = Tryz.pinned.checked.prog.looks [] ∧ ∀ (j : Nat) t, fn.params[j]? = some t → Tryz.pinned.checked.prog.wantsStandIn t = false := by
  obtain rfl : f = 7 := Option.some.inj ((show Tryz.prog.funcNamed "weighhouse/weighhouselaw05.AsmParts" = some 7 by kernel_rfl).symm.trans hf) |>.symm
  obtain rfl : fn = Tryz.f7 := (Option.some.inj (Tryz.func7.symm.trans hfn)).symm
  refine ⟨by kernel_rfl, fun j t ht => ?_⟩
  rw [Tryz.params7] at ht
  have hm : t ∈ ([39] : List Nat) := by
    have := Array.mem_of_getElem? ht
    simpa using this
  simp only [List.mem_cons, List.not_mem_nil, or_false] at hm
  subst hm
  exact (show Tryz.prog.wantsStandIn 39 = false by kernel_rfl)

theorem cardUpto : Rows.AsmPartsUptoCardSaid :=
  Claim7.holds_tied_plain_at .later [] _ _ _ _ saidUpto (fun _ h => by cases h) (by kernel_rfl) (fun _ h => by cases h) asmPartsUpto_row_tie rfl ⟨rfl, rfl⟩ (by kernel_rfl) rfl plain (by kernel_rfl)

end Go.Proofs.YtmokkkbbbmcjnaaGreatDoor.asmParts
namespace Go.Proofs.YtmokkkbbbmcjnaaGreatDoor
theorem asmParts_holds : Rows.AsmPartsUptoCardSaid := asmParts.cardUpto
#print axioms asmParts_holds
end Go.Proofs.YtmokkkbbbmcjnaaGreatDoor
