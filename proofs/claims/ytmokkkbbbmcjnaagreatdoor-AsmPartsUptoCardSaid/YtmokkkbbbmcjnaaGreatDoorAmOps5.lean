/-
  Slice expressions, addresses, indexes, lengths; what is put behind.
-/
import Derived.Test.YtmokkkbbbmcjnaaGreatDoorAmOps3
set_option linter.unusedSectionVars false
set_option linter.unusedSimpArgs false
set_option linter.unusedVariables false
namespace Go.AM

variable {P : Program} [Glob P]

theorem szOf_info {t : TypeId} {n : Nat} (h : szOf P t = some n) : ∃ i, P.info? t = some i ∧ i.size = n := by
  simp only [szOf, Option.map_eq_some_iff] at h
  exact h

theorem row_of {W : Nat → Prop} {lim : Nat} {E : Emb} {h : Heap} {w : World} (H : HR P W lim E h w) {b : Id} (hb : E.dom b) {row : List V} (hr : h.row b = some row) :
    ∃ ro, RowIn E ro row (E.pl b).c (E.pl b).o (E.pl b).csz w.heap := by
  unfold Heap.row at hr
  split at hr
  · rename_i ro ty l hg
    simp only [Option.some.injEq] at hr
    subst hr
    exact ⟨ro, H.row b ro ty l hb hg⟩
  · cases hr

/-- The capacity that our row has room for is there. -/
theorem cap_ge {E : Emb} {ro : Bool} {l : List V} {p : Pl} {Hp : Array Go.Obj} (h : RowIn E ro l p.c p.o p.csz Hp) (off k : Nat) (hs : 0 < p.esz) (hk : off + k * p.esz ≤ l.length) : k ≤ p.cap off := by
  obtain ⟨arr, ty, fz, h1, h2, h3, _⟩ := h.ex
  unfold Pl.cap
  rw [Nat.le_div_iff_mul_le hs, h2]
  omega

theorem extract_bytes (l : List UInt8) (a b : Nat) : (ByteArray.mk ⟨l⟩).extract a b = ⟨⟨(l.take b).drop a⟩⟩ := by
  apply ByteArray.ext
  rw [ByteArray.data_extract]
  apply Array.ext'
  rw [Array.toList_extract, List.extract_eq_take_drop]
  apply List.ext_getElem?
  intro j
  simp only [List.getElem?_take, List.getElem?_drop]
  by_cases h : j < b - a
  · simp [h, show a + j < b by omega]
  · simp [h, show ¬ a + j < b by omega]

theorem bytes_size (l : List UInt8) : (ByteArray.mk ⟨l⟩).size = l.length := rfl

theorem slice_ok {W : Nat → Prop} {lim : Nat} {E : Emb} {h : Heap} {w : World} (H : HR P W lim E h w) (t : TypeId) (x : V) (lo hi mx : Option V) (v : V) (hv : sliceV P t h x lo hi mx = some v)
    (x' : Value) (lo' hi' mx' : Option Value) (hx : VR E x x') (h1 : VRo E lo lo') (h2 : VRo E hi hi') (h3 : VRo E mx mx') :
    ∃ z, (Instr.sliceAt t x' lo' hi' mx').run P w = .ok z w ∧ VR E v z := by
  unfold sliceV at hv
  split at hv
  · rename_i l hu
    simp only [VR] at hx
    subst hx
    split at hv
    · cases hv
    · split at hv
      · rename_i a b m hb
        cases hv
        obtain ⟨e1, e2, e3, e4⟩ := bounds_spec hb
        simp only [VRo] at h3
        subst h3
        have hr := sliceBounds_ok (P := P) w false l.length l.length lo hi none lo' hi' none h1 h2 rfl a b m e1 e2 e3 e4
        refine ⟨.string ((ByteArray.mk ⟨l⟩).extract a b), ?_, by simp only [VR, extract_bytes]⟩
        simp [Instr.sliceAt, run_underlying hu, Instr.slice, bytes_size, hr]
      · cases hv
  · rename_i e hu
    simp only [VR] at hx
    subst hx
    split at hv
    · rename_i n r hs hb
      cases hv
      obtain ⟨a, b, m⟩ := r
      obtain ⟨e1, e2, e3, e4⟩ := bounds_spec hb
      have hm := bound_le e1 (Nat.le_refl _)
      have hbb := bound_le e2 (by omega)
      have haa := bound_le e3 (by omega)
      have hr := sliceBounds_ok (P := P) w true 0 0 lo hi mx lo' hi' mx' h1 h2 h3 a b m e1 e2 e3 e4
      obtain ⟨rfl, rfl, rfl⟩ : a = 0 ∧ b = 0 ∧ m = 0 := ⟨by omega, by omega, by omega⟩
      refine ⟨.slice none 0 0, ?_, by simp [VR]⟩
      simp [Instr.sliceAt, run_underlying hu, Instr.slice, hr, run_sizeOf' w hs]
    · cases hv
  · rename_i e b off len cap hu
    split at hv
    · rename_i s hs
      obtain ⟨i, hi1, hi2⟩ := szOf_info hs
      cases cap with
      | some k =>
        simp only at hv
        split at hv
        · rename_i a b' m hb
          cases hv
          simp only [VR] at hx
          obtain ⟨hd, hlk, ad, rfl, had⟩ := hx
          obtain ⟨e1, e2, e3, e4⟩ := bounds_spec hb
          have hm := bound_le e1 (Nat.le_refl _)
          have hr := sliceBounds_ok (P := P) w true len k lo hi mx lo' hi' mx' h1 h2 h3 a b' m e1 e2 e3 e4
          have hbm : b' ≤ m := by
            cases mx with
            | none => simp only [bound, Option.some.injEq] at e1; exact bound_le e2 (by omega)
            | some _ =>
              cases hi with
              | none => cases e4 rfl
              | some _ => unfold bound at e2; split at e2 <;> first | (simp at *; done) | (split at e2 <;> simp at e2 <;> omega) | cases e2
          have hab : a ≤ b' := bound_le e3 (Nat.zero_le _)
          refine ⟨_, by simp only [Instr.sliceAt, Sem.run_bind, run_underlying hu, Result.andThen_ok, Instr.slice, hr, run_sizeOf' w hs, Sem.run_pure]; rfl, ?_⟩
          simp only [VR]
          refine ⟨hd, by omega, _, by simp only [Option.map_some]; rw [← apply_ite some], ?_⟩
          by_cases hma : m = a
          · right; omega
          · rcases had with rfl | hk0
            · left
              rw [if_neg hma]
              exact Pl.addr_add _ _ _
            · exfalso; omega
        · cases hv
      | none =>
        simp only at hv
        split at hv
        · rename_i ro ty row hrow
          split at hv
          case isFalse => cases hv
          rename_i hts
          split at hv
          · rename_i a b' m hb
            cases hv
            simp only [VR] at hx
            obtain ⟨hd, hlk, ad, rfl, had⟩ := hx
            have hrin := H.row b ro ty row hd hrow
            have hesz' : (E.pl b).esz = s + 1 := by rw [H.esz b ro ty row hd hrow, hts]; rfl
            obtain ⟨e1, e2, e3, e4⟩ := bounds_spec hb
            -- what we take for the capacity is no more than the model's
            have htop : max len ((row.length - off) / (s + 1)) ≤ (E.pl b).cap off := by
              apply Nat.max_le.2
              refine ⟨hlk, ?_⟩
              by_cases hro : off ≤ row.length
              · refine cap_ge hrin off _ (by omega) ?_
                rw [hesz']
                have := Nat.div_mul_le_self (row.length - off) (s + 1)
                omega
              · rw [Nat.sub_eq_zero_of_le (by omega), Nat.zero_div]; exact Nat.zero_le _
            cases mx with
            | none =>
              simp only [bound, Option.some.injEq] at e1
              simp only [VRo] at h3
              subst h3
              have hbm : b' ≤ m := bound_le e2 (by omega)
              have hab : a ≤ b' := bound_le e3 (Nat.zero_le _)
              have e2' : bound hi len ((E.pl b).cap off) = some b' := by
                cases hi with
                | none => exact e2
                | some u =>
                  cases u <;> simp only [bound] at e2 ⊢ <;> (first | (cases e2; done) | skip)
                  split at e2
                  · rename_i hc
                    rw [if_pos ⟨hc.1, by have := hc.2; omega⟩]; exact e2
                  · cases e2
              have hr := sliceBounds_ok (P := P) w true len ((E.pl b).cap off) lo hi none lo' hi' none h1 h2 rfl a b' ((E.pl b).cap off) rfl e2' e3 (fun _ => rfl)
              refine ⟨_, by simp only [Instr.sliceAt, Sem.run_bind, run_underlying hu, Result.andThen_ok, Instr.slice, hr, run_sizeOf' w hs, Sem.run_pure]; rfl, ?_⟩
              have hcap : (E.pl b).cap (off + a * (s + 1)) = (E.pl b).cap off - a := by
                unfold Pl.cap
                rw [hesz', ← Nat.add_assoc, Nat.sub_add_eq]
                rw [Nat.mul_comm]
                exact Nat.sub_mul_div _ _ _
              simp only [VR]
              refine ⟨hd, by rw [hcap]; omega, _, by rw [hcap]; simp only [Option.map_some]; rw [← apply_ite some], ?_⟩
              by_cases hma : (E.pl b).cap off = a
              · right; rw [hcap]; omega
              · rcases had with rfl | hk0
                · left
                  rw [if_neg hma]
                  exact Pl.addr_add _ _ _
                · exfalso; omega
            | some mv =>
              have hm := bound_le e1 (Nat.le_refl _)
              have hbm : b' ≤ m := by
                cases hi with
                | none => cases e4 rfl
                | some _ => unfold bound at e2; split at e2 <;> first | (simp at *; done) | (split at e2 <;> simp at e2 <;> omega) | cases e2
              have hab : a ≤ b' := bound_le e3 (Nat.zero_le _)
              have e1' : bound (some mv) ((E.pl b).cap off) ((E.pl b).cap off) = some m := by
                cases mv <;> simp only [bound] at e1 ⊢ <;> (first | (cases e1; done) | skip)
                split at e1
                · rename_i hc
                  rw [if_pos ⟨hc.1, by have := hc.2; omega⟩]; exact e1
                · cases e1
              have hr := sliceBounds_ok (P := P) w true len ((E.pl b).cap off) lo hi (some mv) lo' hi' mx' h1 h2 h3 a b' m e1' e2 e3 e4
              refine ⟨_, by simp only [Instr.sliceAt, Sem.run_bind, run_underlying hu, Result.andThen_ok, Instr.slice, hr, run_sizeOf' w hs, Sem.run_pure]; rfl, ?_⟩
              simp only [VR]
              refine ⟨hd, by omega, _, by simp only [Option.map_some]; rw [← apply_ite some], ?_⟩
              by_cases hma : m = a
              · right; omega
              · rcases had with rfl | hk0
                · left
                  rw [if_neg hma]
                  exact Pl.addr_add _ _ _
                · exfalso; omega
          · cases hv
        · cases hv
    · cases hv
  · rename_i n e b off hu
    split at hv
    · rename_i s hs
      split at hv
      · rename_i a b' m hb
        cases hv
        simp only [VR] at hx
        obtain ⟨hd, rfl⟩ := hx
        obtain ⟨e1, e2, e3, e4⟩ := bounds_spec hb
        have hm := bound_le e1 (Nat.le_refl _)
        have hr := sliceBounds_ok (P := P) w false n n lo hi mx lo' hi' mx' h1 h2 h3 a b' m e1 e2 e3 e4
        have hbm : b' ≤ m := by
          cases mx with
          | none => simp only [bound, Option.some.injEq] at e1; exact bound_le e2 (by omega)
          | some _ =>
            cases hi with
            | none => cases e4 rfl
            | some _ => unfold bound at e2; split at e2 <;> first | (simp at *; done) | (split at e2 <;> simp at e2 <;> omega) | cases e2
        have hab : a ≤ b' := bound_le e3 (Nat.zero_le _)
        refine ⟨_, by simp only [Instr.sliceAt, Sem.run_bind, run_underlying hu, Result.andThen_ok, Instr.sureAddr, Sem.run_pure, hr, run_sizeOf' w hs]; rfl, ?_⟩
        simp only [VR]
        refine ⟨hd, by omega, _, rfl, ?_⟩
        by_cases hma : m = a
        · right; omega
        · left
          rw [if_neg hma]
          exact Pl.addr_add _ _ _
      · cases hv
    · cases hv
  · cases hv

/-! ### Addresses, indexes, lengths -/

theorem fieldAt_ok (w : World) (s : TypeId) (f n : Nat) (h : fieldOff P s f = some n) (a : Addr) : (Instr.fieldAt s (.pointer (some a)) f).run P w = .ok (.pointer (some (a.add n))) w := by
  unfold fieldOff at h
  split at h
  · rename_i fields hu
    split at h
    · rename_i fl hf
      split at h
      · rename_i k hs
        cases h
        simp [Instr.fieldAt, run_underlying hu, hf, Instr.sureAddr, fieldPlace, run_sizeOf' w hs]
      · cases h
    · cases h
  · cases h

theorem indexAt_slice_ok (w : World) (t e : TypeId) (s : Nat) (hu : P.underlying t = some (.slice e)) (hs : szOf P e = some s) (a : Addr) (len cap : Nat) (k : IntKind) (i : Int) (hi : 0 ≤ i ∧ i < len) :
    (Instr.indexAt t (.slice (some a) len cap) (.int k i)).run P w = .ok (.pointer (some (a.add (i.toNat * s)))) w := by
  simp [Instr.indexAt, asIntOf, run_underlying hu, hi, run_sizeOf' w hs]

theorem indexAt_array_ok (w : World) (t e : TypeId) (s n : Nat) (hu : P.underlying t = some (.array n e)) (hs : szOf P e = some s) (a : Addr) (k : IntKind) (i : Int) (hi : 0 ≤ i ∧ i < n) :
    (Instr.indexAt t (.pointer (some a)) (.int k i)).run P w = .ok (.pointer (some (a.add (i.toNat * s)))) w := by
  simp [Instr.indexAt, asIntOf, run_underlying hu, hi, run_sizeOf' w hs, Instr.sureAddr]

theorem index_ok {E : Emb} (w : World) (t : TypeId) (a i : V) (v : V) (h : indexV P t a i = some v) (a' i' : Value) (ha : VR E a a') (hi : VR E i i') :
    ∃ z, (Instr.index t a' i').run P w = .ok z w ∧ VR E v z := by
  unfold indexV at h
  split at h
  · rename_i k i
    simp only [VR] at hi
    subst hi
    split at h
    · rename_i n e cs hu
      simp only [VR] at ha
      obtain ⟨l', rfl, hr, hc⟩ := ha
      split at h
      · rename_i s hs
        split at h
        · rename_i hb
          obtain ⟨y, hy, hvr⟩ := part_ok w e cs _ v h l' hr hc
          exact ⟨y, by simp [Instr.index, asIntOf, run_underlying hu, hb, run_sizeOf' w hs, hy], hvr⟩
        · cases h
      · cases h
    · rename_i l hu
      simp only [VR] at ha
      subst ha
      split at h
      · rename_i h0
        split at h
        · rename_i c hc
          cases h
          refine ⟨.int .u8 c.toNat, ?_, by simp [VR]⟩
          have hlt : i.toNat < l.length := by
            rcases Nat.lt_or_ge i.toNat l.length with hh | hh
            · exact hh
            · rw [List.getElem?_eq_none hh] at hc; cases hc
          have e : (ByteArray.mk ⟨l⟩)[i.toNat]? = some c := by
            rw [ByteArray.getElem?_lt' _ _ hlt]
            rw [List.getElem?_eq_getElem hlt] at hc
            simp only [Option.some.injEq] at hc
            subst hc
            rfl
          simp [Instr.index, asIntOf, run_underlying hu, h0, e]
        · cases h
      · cases h
    · cases h
  · cases h

theorem len_ok {W : Nat → Prop} {lim : Nat} {E : Emb} {h : Heap} {w : World} (H : HR P W lim E h w) (t ty : TypeId) (x : V) (n : Int) (hn : lenV P t h x = some n) (x' : Value) (hx : VR E x x') :
    (Builtin.len_ #[t] ty #[x']).run P w = .ok (.int .i64 n) w := by
  unfold lenV at hn
  split at hn
  · rename_i l hu; simp only [VR] at hx; subst hx; cases hn; simp [Builtin.len_, run_underlying hu, goInt]; rfl
  · rename_i m e x hu; cases hn; simp [Builtin.len_, run_underlying hu, goInt]
  · rename_i e b off k cap hu
    cases hn
    cases cap <;> simp only [VR] at hx <;> obtain ⟨_, _, a, rfl, _⟩ := hx <;> simp [Builtin.len_, run_underlying hu, goInt]
  · rename_i e hu; simp only [VR] at hx; subst hx; cases hn; simp [Builtin.len_, run_underlying hu, goInt]
  · rename_i k e hu; simp only [VR] at hx; subst hx; cases hn; simp [Builtin.len_, run_underlying hu, goInt]
  · cases hn

/-! ### What is put behind -/

theorem cellsOf_ok {W : Nat → Prop} {lim : Nat} {E : Emb} {h : Heap} {w : World} (H : HR P W lim E h w) (s : Nat) (y : V) (m : Nat) (cs : List V) (hc : cellsOfV s h y = some (m, cs)) (y' : Value) (hy : VR E y y') :
    (Builtin.lenOf y').run P w = .ok m w ∧ cs.length = m * s ∧ ∃ xs, VRs E cs xs ∧ (∀ z ∈ xs, isCell z = true) ∧ ∀ (w' : World), w'.heap = w.heap → ∀ n, n ≤ m → (Builtin.firstCells s n y').run P w' = .ok (xs.take (n * s)).toArray w' := by
  unfold cellsOfV at hc
  split at hc
  · cases hc
    simp only [VR] at hy; subst hy
    refine ⟨rfl, by simp, [], rfl, by simp, fun w' _ n hn => by simp [Builtin.firstCells]⟩
  · rename_i b off len cap
    split at hc
    · rename_i row hrow
      simp only [Option.map_eq_some_iff, Prod.mk.injEq] at hc
      obtain ⟨r, hr, rfl, rfl⟩ := hc
      unfold loadRow at hr
      split at hr
      · rename_i hle
        simp only [Option.some.injEq] at hr
        subst hr
        have key : ∀ (a : Addr) (k : Nat), y' = .slice (some a) len k → (a = (E.pl b).addr off ∨ k = 0) → len ≤ k → E.dom b → ((Builtin.lenOf y').run P w = .ok len w ∧ ((row.drop off).take (len * s)).length = len * s ∧
            ∃ xs, VRs E ((row.drop off).take (len * s)) xs ∧ (∀ z ∈ xs, isCell z = true) ∧ ∀ (w' : World), w'.heap = w.heap → ∀ n, n ≤ len → (Builtin.firstCells s n y').run P w' = .ok (xs.take (n * s)).toArray w') := by
          rintro a k rfl ha hlk hd
          refine ⟨rfl, by simp; omega, ?_⟩
          rcases ha with rfl | hk0
          · obtain ⟨ro, hrin⟩ := row_of H hd hrow
            obtain ⟨xs, hxl, hrun, hvr, hcell⟩ := hrin.cells P off (len * s) hle
            refine ⟨xs, hvr, hcell, fun w' hw' n hn => ?_⟩
            simp only [Builtin.firstCells]
            have hrin' : RowIn E ro row (E.pl b).c (E.pl b).o (E.pl b).csz w'.heap := by rw [hw']; exact hrin
            have hns : n * s ≤ len * s := Nat.mul_le_mul_right _ hn
            obtain ⟨arr, ty, fz, g1, g2, g3, g4, g5, g6⟩ := hrin'.ex
            have e := run_loadCells_list (P := P) w' ((E.pl b).addr off) (xs.take (n * s)) (fun j v hj => by
              rw [Pl.addr_add]
              simp only [Pl.addr, World.cell?, g1]
              have hjl : j < n * s := by
                rcases Nat.lt_or_ge j (n * s) with hh | hh
                · exact hh
                · rw [List.getElem?_eq_none (by simp; omega)] at hj; cases hj
              rw [List.getElem?_take, if_pos hjl] at hj
              -- the cells as the world w tells them
              obtain ⟨arr', ty', fz', g1', g2', g3', g4', _, _⟩ := hrin.ex
              rw [hw', g1'] at g1
              cases g1
              have hrow' : (row.drop off)[j]? = row[off + j]? := by rw [List.getElem?_drop]
              have := hrun
              rw [show (⟨(E.pl b).c, (E.pl b).o + off, none⟩ : Addr) = (E.pl b).addr off from rfl] at this
              have hload := run_loadCells_list (P := P) w ((E.pl b).addr off) (((arr.toList.drop ((E.pl b).o + off))).take (len * s)) (fun j v hj => by
                rw [Pl.addr_add]
                simp only [Pl.addr, World.cell?, g1']
                rw [List.getElem?_take] at hj
                split at hj
                · rw [List.getElem?_drop] at hj; simpa [Nat.add_assoc] using hj
                · cases hj)
              have hl : (((arr.toList.drop ((E.pl b).o + off))).take (len * s)).length = len * s := by simp; omega
              rw [hl] at hload
              rw [this] at hload
              simp only [Result.ok.injEq, and_true] at hload
              have hxs : xs = ((arr.toList.drop ((E.pl b).o + off))).take (len * s) := by
                have := congrArg Array.toList hload
                simpa using this
              rw [hxs, List.getElem?_take, if_pos (Nat.lt_of_lt_of_le hjl hns), List.getElem?_drop] at hj
              simpa [Nat.add_assoc] using hj)
            have hl2 : (xs.take (n * s)).length = n * s := by rw [List.length_take, hxl, Nat.min_eq_left hns]
            rw [hl2] at e
            exact e
          · have hl0 : len = 0 := by omega
            subst hl0
            refine ⟨[], by simp [VRs], by simp, fun w' _ n hn => ?_⟩
            obtain rfl : n = 0 := by omega
            simp [Builtin.firstCells, loadCells, loadCellsFrom]
        cases cap with
        | some k =>
          simp only [VR] at hy
          obtain ⟨hd, hlk, a, hy', ha⟩ := hy
          exact key a k hy' ha hlk hd
        | none =>
          simp only [VR] at hy
          obtain ⟨hd, hlk, a, hy', ha⟩ := hy
          exact key a _ hy' ha hlk hd
      · cases hr
    · cases hc
  · rename_i l
    split at hc
    · rename_i hs1
      cases hc
      simp only [VR] at hy; subst hy
      subst hs1
      refine ⟨rfl, by simp, l.map fun c => .int .u8 c.toNat, ?_, by simp [isCell], fun w' _ n hn => ?_⟩
      · refine VRs.mk (by simp) fun i a y ha hy => ?_
        rw [List.getElem?_map] at ha hy
        cases hi : l[i]? with
        | none => rw [hi] at ha; cases ha
        | some c => rw [hi] at ha hy; cases ha; cases hy; simp [VR]
      · simp only [Builtin.firstCells, extract_bytes, Sem.run_pure]
        congr 1
        simp [List.map_take]
    · cases hc
  · cases hc

end Go.AM

/-
  Appending, copying, converting, making.
-/
set_option linter.unusedSectionVars false
set_option linter.unusedSimpArgs false
set_option linter.unusedVariables false
namespace Go.AM

variable {P : Program} [Glob P]

theorem run_append_in (w w' : World) (t0 t1 ty e : TypeId) (u1 : TypeDesc) (i : TypeInfo) (h0 : P.underlying t0 = some (.slice e)) (h1 : P.underlying t1 = some u1) (hu1 : u1 = .string ∨ ∃ e', u1 = .slice e') (hi : P.info? e = some i)
    (base : Option Addr) (sLen sCap m : Nat) (y' : Value) (new : List Value) (hl : (Builtin.lenOf y').run P w = .ok m w) (hf : (Builtin.firstCells i.size m y').run P w = .ok new.toArray w)
    (hroom : sLen + m ≤ sCap) (hst : match base with | some a => (storeCells (a.add (sLen * i.size)) new).run P w = .ok () w' | none => w' = w) :
    (Builtin.append_ #[t0, t1] ty #[.slice base sLen sCap, y']).run P w = .ok (.slice base (sLen + m) sCap) w' := by
  have key : (Builtin.append_ #[t0, t1] ty #[.slice base sLen sCap, y']).run P w = (match base with | some a => (storeCells (a.add (sLen * i.size)) new).run P w | none => .ok () w).andThen fun _ w => .ok (.slice base (sLen + m) sCap) w := by
    rcases hu1 with rfl | ⟨e', rfl⟩ <;> cases base <;> simp [Builtin.append_, run_underlying h0, run_underlying h1, sizeOf, typeInfo, hi, hl, hf, hroom]
  rw [key]
  cases base with
  | none => simp only at hst; subst hst; rfl
  | some a => simp only at hst; simp only [hst]; rfl

theorem run_append_out (w : World) (t0 t1 ty e : TypeId) (u1 : TypeDesc) (i : TypeInfo) (z : Value) (h0 : P.underlying t0 = some (.slice e)) (h1 : P.underlying t1 = some u1) (hu1 : u1 = .string ∨ ∃ e', u1 = .slice e') (hi : P.info? e = some i) (hz : i.zero = some z)
    (base : Option Addr) (sLen sCap m : Nat) (y' : Value) (old new : List Value) (hl : (Builtin.lenOf y').run P w = .ok m w) (hf : (Builtin.firstCells i.size m y').run P w.drew = .ok new.toArray w.drew)
    (ho : (Builtin.firstCells i.size sLen (.slice base sLen sCap)).run P w.drew = .ok old.toArray w.drew)
    (hroom : sCap < sLen + m) (h63 : ((sLen + m : Nat) : Int) ≤ 9223372036854775807) (hfit : Builtin.nextslicecap (sLen + m) sCap * i.bytes ≤ 281474976710656) :
    (Builtin.append_ #[t0, t1] ty #[.slice base sLen sCap, y']).run P w =
      .ok (.slice (some ⟨w.heap.size, 0, none⟩) (sLen + m) (grownCap w (sLen + m) sCap e))
        (w.drew.alloc (.cells (old.toArray ++ new.toArray ++ Builtin.zeroCells z.cells (grownCap w (sLen + m) sCap e - (sLen + m))) e)) := by
  have hn : ¬ (sLen + m ≤ sCap) := by omega
  have h63' : ¬ (9223372036854775807 < ((sLen : Int) + (m : Int))) := by omega
  have h48' : ¬ (281474976710656 < Builtin.nextslicecap (sLen + m) sCap * i.bytes) := by omega
  have hlw : (Builtin.lenOf y').run P w = .ok m w := hl
  rcases hu1 with rfl | ⟨e', rfl⟩ <;>
    (simp [Builtin.append_, run_underlying h0, run_underlying h1, sizeOf, typeInfo, zeroValue, hi, hz, hlw, hn, h63', h48', Question.forced, ho, hf, newRow, grownCap]
     congr 2
     apply Array.ext'
     simp [List.append_assoc])

end Go.AM
