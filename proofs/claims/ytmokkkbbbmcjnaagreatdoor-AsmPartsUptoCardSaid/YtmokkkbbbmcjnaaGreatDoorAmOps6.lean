/-
  Copying, converting, making.
-/
import Derived.Test.YtmokkkbbbmcjnaaGreatDoorAmEff
import Derived.Lib.AppendZerosOnto
import Derived.Laws.BytesString
set_option linter.unusedSectionVars false
set_option linter.unusedSimpArgs false
set_option linter.unusedVariables false
namespace Go.AM

variable {P : Program} [Glob P]
variable {W : Nat → Prop} {lim : Nat} {E : Emb} {h : Heap} {w : World}

theorem heap_write_inv {h h1 : Heap} {b : Id} {off : Nat} {vs : List V} (hw : h.write b off vs = some h1) :
    ∃ ty row l', h.get b = some (.cells false ty row) ∧ storeRow row off vs = some l' ∧ h1 = h.set b (.cells false ty l') := by
  unfold Heap.write at hw
  split at hw
  · rename_i ty l hg
    simp only [Option.map_eq_some_iff] at hw
    obtain ⟨l', hl', rfl⟩ := hw
    exact ⟨ty, l, l', hg, hl', rfl⟩
  · cases hw

/-- Storing at an address of ours. -/
theorem write_ok (H : HR P W lim E h w) (b : Id) (off : Nat) (vs : List V) (xs : List Value) (h1 : Heap) (hw : h.write b off vs = some h1) (hb : E.dom b) (hv : VRs E vs xs) (hc : ∀ y ∈ xs, isCell y = true) :
    ∃ w', (storeCells ((E.pl b).addr off) xs).run P w = .ok () w' ∧ Eff P W lim E h w E h1 w' := by
  obtain ⟨ty, row, l', hg, hl', rfl⟩ := heap_write_inv hw
  obtain ⟨arr, hst, _, hrow⟩ := (H.row b false ty row hb hg).store P off vs xs hl' hv hc
  exact ⟨_, hst, Eff.write H b ty row l' hb hg arr hrow (storeRow_len hl')⟩

theorem copy_ok (H : HR P W lim E h w) (t0 t1 ty : TypeId) (x y : V) (n : Int) (h' : Heap) (hv : copyV P t0 h x y = some (n, h')) (x' y' : Value) (hx : VR E x x') (hy : VR E y y') :
    Comes' P W lim E h w (.int .i64 n) h' ((Builtin.copy_ #[t0, t1] ty #[x', y']).run P w) := by
  unfold copyV at hv
  split at hv
  case h_2 => cases hv
  rename_i e hu
  split at hv
  case h_2 => cases hv
  rename_i s hs
  split at hv
  case h_1 => cases hv
  rename_i m cells hcells
  obtain ⟨hlen, hnl, nxs, hnv, hnc, hfirst⟩ := cellsOf_ok H (s + 1) y m cells hcells y' hy
  have hnxl := hnv.length
  split at hv
  · cases hv
    simp only [VR] at hx; subst hx
    refine ⟨.int .i64 0, w, E, ?_, by simp [VR], Eff.refl H⟩
    have := hfirst w rfl 0 (Nat.zero_le _)
    simp only [Nat.zero_mul, List.take_zero] at this
    simp [Builtin.copy_, run_underlying hu, hlen, run_sizeOf' w hs, Nat.min_zero, this, goInt]
  · rename_i b off len cap
    have hfm := hfirst w rfl (min m len) (Nat.min_le_left _ _)
    have key : ∀ (a : Addr) (K : Nat), x' = .slice (some a) len K → (a = (E.pl b).addr off ∨ K = 0) → len ≤ K → E.dom b → Comes' P W lim E h w (.int .i64 n) h' ((Builtin.copy_ #[t0, t1] ty #[x', y']).run P w) := by
      rintro a K rfl ha hk hd
      have hrun : (Builtin.copy_ #[t0, t1] ty #[.slice (some a) len K, y']).run P w = ((storeCells a (nxs.take (min m len * (s + 1)))).run P w).andThen fun _ w' => .ok (goInt (min m len : Nat)) w' := by
        have e : Nat.min m len = min m len := rfl
        simp [Builtin.copy_, run_underlying hu, hlen, run_sizeOf' w hs, e, hfm]
      rw [hrun]
      split at hv
      · rename_i hz
        cases hv
        refine ⟨.int .i64 0, w, E, ?_, by simp [VR], Eff.refl H⟩
        rw [hz]
        simp only [Nat.zero_mul, List.take_zero, storeCells]
        rfl
      · rename_i hz
        simp only [Option.map_eq_some_iff, Prod.mk.injEq] at hv
        obtain ⟨h1, hw, rfl, rfl⟩ := hv
        have ha' : a = (E.pl b).addr off := by
          rcases ha with ha | ha
          · exact ha
          · omega
        subst ha'
        obtain ⟨w', hst, heff⟩ := write_ok H b off _ _ h1 hw hd (hnv.take _) (fun y hy => hnc y (List.mem_of_mem_take hy))
        rw [hst]
        exact ⟨_, w', E, rfl, by simp [VR, goInt], heff⟩
    cases cap <;> simp only [VR] at hx <;> obtain ⟨hd, hlk, a, hx', ha⟩ := hx <;> exact key a _ hx' ha hlk hd
  · cases hv

theorem bytesOf_ints : ∀ (l : List V) (bs : List UInt8), bytesOf l = some bs → ∀ xs, VRs E l xs → ∃ ns : List Int, xs = ns.map (Value.int .u8) ∧ bs = ns.map fun n => UInt8.ofNat n.toNat
  | [], bs, h, xs, hx => by simp only [bytesOf, Option.some.injEq] at h; subst h; simp only [VRs] at hx; subst hx; exact ⟨[], rfl, rfl⟩
  | v :: l, bs, h, xs, hx => by
    simp only [VRs] at hx
    obtain ⟨y, ys, rfl, hy, hys⟩ := hx
    unfold bytesOf at h
    split at h
    · rename_i heq; cases heq
    · rename_i n l' heq
      cases heq
      simp only [Option.map_eq_some_iff] at h
      obtain ⟨r, hr, rfl⟩ := h
      simp only [VR] at hy
      subst hy
      obtain ⟨ns, h1, h2⟩ := bytesOf_ints l r hr ys hys
      exact ⟨n :: ns, by rw [h1]; rfl, by rw [h2]; rfl⟩
    · cases h

theorem foldl_push (ns : List Int) : ∀ (s : ByteArray), ns.foldl (fun r n => r.push (UInt8.ofNat n.toNat)) s = ⟨⟨s.data.toList ++ ns.map fun n => UInt8.ofNat n.toNat⟩⟩ := by
  induction ns with
  | nil => intro s; simp
  | cons n ns ih =>
    intro s
    simp only [List.foldl_cons, ih]
    simp [ByteArray.push]

theorem bytesToString_run (w : World) (a : Addr) (len cap : Nat) (ns : List Int) (hl : (loadCells a len).run P w = .ok (ns.map (Value.int .u8)).toArray w) :
    (Conv.bytesToString (.slice (some a) len cap)).run P w = .ok (.string ⟨⟨ns.map fun n => UInt8.ofNat n.toNat⟩⟩) w := by
  rw [run_bytesToString w a len cap ns hl, foldl_push]
  rfl

theorem freeze_alloc (w : World) (c : Array Value) (t : TypeId) (n : Nat) :
    (w.alloc (.cells c t)).freeze ⟨w.heap.size, n, none⟩ 1 = w.alloc (.cells c t (n, n + 1)) := by
  unfold World.freeze
  rw [if_neg (by omega)]
  unfold World.alloc
  congr 1
  apply Array.ext
  · simp
  · intro k h1 h2
    simp only [Array.getElem_modify]
    simp at h1
    by_cases hk : k = w.heap.size
    · subst hk; simp
    · rw [if_neg (Ne.symm hk)]
      simp [Array.getElem_push, show k < w.heap.size by omega]

theorem conv_ok (H : HR P W lim E h w) (src dst : TypeId) (x : V) (v : V) (h' : Heap) (hv : convV P src dst h x = some (v, h')) (hlim : h'.next ≤ lim) (x' : Value) (hx : VR E x x') :
    Comes' P W lim E h w v h' ((convert src dst x').run P w) := by
  unfold convV at hv
  split at hv
  · rename_i d k k' n hs hd
    cases hv
    simp only [VR] at hx; subst hx
    refine ⟨.int k (k.wrap n), w, E, ?_, by simp only [VR, wr_eq], Eff.refl H⟩
    simp only [convert, Sem.run_bind, run_underlying hs, run_underlying hd, Result.andThen_ok]
    rfl
  · rename_i d l hs hd
    cases hv
    simp only [VR] at hx; subst hx
    refine ⟨.string ⟨⟨l⟩⟩, w, E, ?_, by simp only [VR], Eff.refl H⟩
    simp only [convert, Sem.run_bind, run_underlying hs, run_underlying hd, Result.andThen_ok]
    rfl
  · rename_i d e l hs hd
    split at hv
    · rename_i hu
      split at hv
      · rename_i hroom
        obtain ⟨hroom, hsz1⟩ := hroom
        cases hv
        simp only [VR] at hx; subst hx
        simp only [room] at hroom
        have hge : l.length ≤ grownCap w l.length 0 e := grownCap_ge w l.length 0 e
        have hrun : (convert src dst (.string ⟨⟨l⟩⟩)).run P w = .ok (.slice (some ⟨w.heap.size, 0, none⟩) l.length (grownCap w l.length 0 e))
            (w.drew.alloc (.cells ((l.map fun (c : UInt8) => Value.int .u8 c.toNat).toArray ++ Array.replicate (grownCap w l.length 0 e - l.length) (Value.int .u8 0)) e (grownCap w l.length 0 e, grownCap w l.length 0 e + 1))) := by
          have hsh : ∀ (c : Array Value), (w.drew.alloc (.cells c e)).shape? w.heap.size = some (e, c.size) := fun c => by
            simp only [World.shape?]
            rw [show (w.drew.alloc (.cells c e)).heap[w.heap.size]? = some (.cells c e) from alloc_heap_new w.drew _]
          have hnew : ∀ c : Array Value, (newRow e c).run P w.drew = .ok ⟨w.heap.size, 0, none⟩ (w.drew.alloc (.cells c e)) := fun c => rfl
          have hch : (choose (.appendCap l.length 0 e)).run P w = .ok (grownCap w l.length 0 e) w.drew := by simp [Question.forced, grownCap]
          have hfr := fun c => freeze_alloc w.drew c e (grownCap w l.length 0 e)
          have hsz : (Array.map (fun b => Value.int IntKind.u8 (UInt8.toNat b : Nat)) (⟨l⟩ : Array UInt8) ++ Array.replicate (grownCap w l.length 0 e - l.length) (Value.int .u8 0)).size = grownCap w l.length 0 e := by
            simp <;> omega
          simp only [convert, Sem.run_bind, run_underlying hs, run_underlying hd, run_underlying hu, Result.andThen_ok, Conv.stringToBytes, bytes_size, hch, hnew, markStringish, run_shape, hsh, hsz, run_freeze, Sem.run_pure]
          rw [show (w.drew.heap.size) = w.heap.size from rfl] at hfr
          rw [hfr]
          congr 3
          simp
        rw [hrun]
        have hv2 : VRs E (l.map fun (c : UInt8) => V.int .u8 c.toNat) (l.map fun (c : UInt8) => Value.int .u8 c.toNat) := VRs.mk (by simp) fun i a y ha hy => by
          rw [List.getElem?_map] at ha hy
          cases hi : l[i]? with
          | none => rw [hi] at ha; cases ha
          | some c => rw [hi] at ha hy; cases ha; cases hy; simp [VR]
        have hsz2 : ((l.map fun (c : UInt8) => Value.int .u8 c.toNat).toArray ++ Array.replicate (grownCap w l.length 0 e - l.length) (Value.int .u8 0)).size = grownCap w l.length 0 e := by
          simp; omega
        have htl : ((l.map fun (c : UInt8) => Value.int .u8 c.toNat).toArray ++ Array.replicate (grownCap w l.length 0 e - l.length) (Value.int .u8 0)).toList.take (l.map fun (c : UInt8) => V.int .u8 c.toNat).length = l.map fun (c : UInt8) => Value.int .u8 c.toNat := by
          rw [Array.toList_append, List.length_map, ← List.length_map (as := l) (f := fun (c : UInt8) => Value.int .u8 c.toNat)]
          exact List.take_left
        refine ⟨_, _, E.ext h.next ⟨w.heap.size, 0, _, 1⟩, rfl, ?_, (Eff.alloc (HR.heap H (w' := w.drew) rfl) hlim e (l.map fun (c : UInt8) => V.int .u8 c.toNat) 1 _ e _ (by rw [hsz2]; simpa using hge) (by rw [htl]; exact hv2) (by rw [htl]; simp [isCell]) (fun i hi => by rw [hsz2] at hi; simp; omega) (by rw [hsz1]; rfl) rfl (fun h => absurd (h ▸ hu) (Glob.noint _))).after_drew⟩
        have hcap : (⟨w.heap.size, 0, ((l.map fun (c : UInt8) => Value.int .u8 c.toNat).toArray ++ Array.replicate (grownCap w l.length 0 e - l.length) (Value.int .u8 0)).size, 1⟩ : Pl).cap 0 = grownCap w l.length 0 e := by
          simp only [Pl.cap, hsz2, Nat.add_zero, Nat.sub_zero, Nat.div_one]
        simp only [VR, Emb.ext_pl]
        rw [hcap]
        exact ⟨Emb.ext_dom _ _ _, hge, _, rfl, .inl rfl⟩
      · cases hv
    · cases hv
  · rename_i e x d hs hd hne
    split at hv
    · rename_i hu
      cases hv
      simp only [VR] at hx; subst hx
      refine ⟨.string ⟨⟨[]⟩⟩, w, E, ?_, by simp only [VR], Eff.refl H⟩
      simp only [convert, Sem.run_bind, run_underlying hs, run_underlying hd, Result.andThen_ok, run_underlying hu]
      rfl
    · rename_i b off len cap hu
      split at hv
      · rename_i row hrow
        split at hv
        · rename_i cs hcs
          simp only [Option.map_eq_some_iff, Prod.mk.injEq] at hv
          obtain ⟨bs, hbs, rfl, rfl⟩ := hv
          have hc1 : cellsOfV 1 h (.slice b off len cap) = some (len, cs) := by simp [cellsOfV, hrow, hcs]
          obtain ⟨hlen, hnl, xs, hvr, hcc, hfirst⟩ := cellsOf_ok H 1 _ len cs hc1 x' hx
          have hf := hfirst w rfl len (Nat.le_refl _)
          have hxl := hvr.length
          rw [List.take_of_length_le (by omega)] at hf
          obtain ⟨ns, hns, hbn⟩ := bytesOf_ints cs bs hbs xs hvr
          have key : ∀ (a : Addr) (k : Nat), x' = .slice (some a) len k → Comes' P W lim E h w (.str bs) h ((convert src dst x').run P w) := by
            rintro a k rfl
            simp only [Builtin.firstCells, Nat.mul_one] at hf
            rw [hns] at hf
            refine ⟨.string ⟨⟨bs⟩⟩, w, E, ?_, by simp only [VR], Eff.refl H⟩
            simp only [convert, Sem.run_bind, run_underlying hs, run_underlying hd, Result.andThen_ok, run_underlying hu]
            rw [bytesToString_run w a len k ns hf, hbn]
          cases cap <;> simp only [VR] at hx <;> obtain ⟨_, _, a, hx', _⟩ := hx <;> exact key a _ hx'
        · cases hv
      · cases hv
    · cases hv
  · cases hv

/-! ### Making -/

theorem rep_length (n : Nat) (l : List V) : (rep n l).length = n * l.length := by
  induction n with
  | zero => simp [rep]
  | succ n ih => simp [rep, ih, Nat.add_mul, Nat.add_comm]

def repX (n : Nat) (l : List Value) : List Value := match n with | 0 => [] | n + 1 => l ++ repX n l

theorem rep_ok {l : List V} {xs : List Value} (h : VRs E l xs) : ∀ n, VRs E (rep n l) (repX n xs)
  | 0 => rfl
  | n + 1 => h.append (rep_ok h n)
theorem repX_mem {l : List Value} {y : Value} : ∀ n, y ∈ repX n l → y ∈ l
  | 0, h => by simp [repX] at h
  | n + 1, h => by
    simp only [repX, List.mem_append] at h
    rcases h with h | h
    · exact h
    · exact repX_mem n h
theorem repX_length (n : Nat) (l : List Value) : (repX n l).length = n * l.length := by
  induction n with
  | zero => simp [repX]
  | succ n ih => simp [repX, ih, Nat.add_mul, Nat.add_comm]

theorem repX_get (l : List Value) (hl : 0 < l.length) : ∀ (n i : Nat), i < n * l.length → (repX n l)[i]? = l[i % l.length]?
  | 0, i, h => by simp at h
  | n + 1, i, h => by
    simp only [repX]
    by_cases hi : i < l.length
    · rw [List.getElem?_append_left hi, Nat.mod_eq_of_lt hi]
    · rw [List.getElem?_append_right (by omega), repX_get l hl n (i - l.length) (by rw [Nat.add_mul] at h; omega)]
      congr 1
      rw [Nat.mod_eq_sub_mod (by omega : i ≥ l.length)]

theorem range_rep (z : Array Value) (hz : 0 < z.size) (n : Nat) : (Array.range (n * z.size)).map (fun i => z[i % z.size]!) = (repX n z.toList).toArray := by
  apply Array.ext'
  apply List.ext_getElem?
  intro j
  simp only [Array.toList_map, Array.toList_range, List.getElem?_map]
  by_cases hj : j < n * z.size
  · rw [List.getElem?_range hj, repX_get z.toList (by simpa using hz) n j (by simpa using hj)]
    have hm : j % z.size < z.size := Nat.mod_lt _ hz
    simp [hm, getElem!_pos]
  · rw [List.getElem?_eq_none (by simpa using hj), List.getElem?_eq_none (by simp [repX_length]; omega)]
    rfl

theorem makeSlice_ok (H : HR P W lim E h w) (t : TypeId) (l c : V) (v : V) (h' : Heap) (hv : makeSliceV P t h l c = some (v, h')) (hlim : h'.next ≤ lim) (l' c' : Value) (hl : VR E l l') (hc : VR E c c') :
    Comes' P W lim E h w v h' ((Instr.makeSlice t l' c').run P w) := by
  unfold makeSliceV at hv
  split at hv
  case isFalse => cases hv
  rename_i hts
  have hts : t < P.types.size := Nat.le_of_ble_eq_true hts
  unfold makeSliceU at hv
  split at hv
  case h_2 => cases hv
  rename_i e k l k' c hu
  split at hv
  case h_2 => cases hv
  rename_i info z hi hz
  split at hv
  case isFalse => cases hv
  rename_i hcond
  obtain ⟨h0, h1, h2, h3, h4, h6, h5⟩ := hcond
  simp only [Option.some.injEq, Prod.mk.injEq] at hv
  obtain ⟨hv1, hv2⟩ := hv
  subst hv1 hv2
  simp only [VR] at hl hc
  subst hl hc
  simp only [room] at h2 h3
  obtain ⟨z', hz', hrz⟩ := run_zero' (P := P) w hz
  have hzr := ofVal_ok E z' z hz'
  have hnt : ∀ q, z ≠ .tup q := by rintro q rfl; simp [V.isTup] at h5
  obtain ⟨hcr, hcc⟩ := hzr.cells hnt
  have hzl : z'.cells.size = info.size := by have := hcr.length; simp at this; omega
  have hw1 : IntKind.i64.wrap l = l := by rw [← wr_eq]; unfold wr; rw [if_pos (by simp only [loK, hiK]; omega)]
  have hw2 : IntKind.i64.wrap c = c := by rw [← wr_eq]; unfold wr; rw [if_pos (by simp only [loK, hiK]; omega)]
  have hs : szOf P e = some info.size := by simp [szOf, hi]
  have hti : (typeInfo e).run P w = .ok info w := by simp [typeInfo, hi]
  have hb : ((info.bytes : Int) * c) ≤ 140737488355328 := by
    have : c = (c.toNat : Int) := by omega
    rw [this, ← Int.natCast_mul, Nat.mul_comm]
    omega
  have hb2 : ((info.bytes : Int) * l) ≤ 140737488355328 := by
    have e1 : (info.bytes : Int) * l ≤ (info.bytes : Int) * c := Int.mul_le_mul_of_nonneg_left h1 (Int.natCast_nonneg _)
    omega
  have hrun : (Instr.makeSlice t (.int k l) (.int k' c)).run P w = .ok (.slice (some ⟨w.heap.size, 0, none⟩) l.toNat c.toNat) (w.alloc (.cells (repX c.toNat z'.cells.toList).toArray e)) := by
    have hn : c.toNat * info.size = 0 ↔ c.toNat = 0 := by
      rw [Nat.mul_eq_zero]; omega
    have hneg : ¬ (c < 0) := by omega
    have hneg2 : ¬ (l < 0) := by omega
    have hneg3 : ¬ (l > c) := by omega
    have hbig : ¬ ((info.bytes : Int) * c > 2 ^ 48) := by omega
    have hzero : (if c.toNat * info.size = 0 then (pure #[] : Sem (Array Value)) else do pure (← zeroValue e).cells).run P w = .ok (if c.toNat * info.size = 0 then #[] else z'.cells) w := by
      split <;> simp [hrz]
    have harr : (Array.range (c.toNat * info.size)).map (fun i => (if c.toNat * info.size = 0 then #[] else z'.cells)[i % (if c.toNat * info.size = 0 then #[] else z'.cells).size]!) = (repX c.toNat z'.cells.toList).toArray := by
      by_cases hc0 : c.toNat = 0
      · rw [hc0]; simp [repX]
      · rw [if_neg (by rw [hn]; exact hc0), ← hzl]
        exact range_rep z'.cells (by omega) c.toNat
    simp only [Instr.makeSlice, Sem.run_bind, run_underlying hu, Result.andThen_ok, asInt, asIntOf, Sem.run_pure, hti, hw1, hw2]
    simp only [hneg, hneg2, hneg3, hbig, decide_false, Bool.or_false, Bool.false_eq_true, if_false, Sem.run_bind, run_askRoom, Sem.run_pure, Result.andThen_ok, run_sizeOf' w hs]
    by_cases hn0 : c.toNat * info.size = 0
    · have harr' := harr
      simp only [hn0, if_true] at harr' ⊢
      simp only [Sem.run_bind, Sem.run_pure, Result.andThen_ok, harr']
      rfl
    · have harr' := harr
      simp only [hn0, if_false] at harr' ⊢
      simp only [Sem.run_bind, hrz, Sem.run_pure, Result.andThen_ok, harr']
      rfl
  rw [hrun]
  refine ⟨_, _, E.ext h.next ⟨w.heap.size, 0, _, info.size⟩, rfl, ?_, Eff.alloc H hlim e (rep c.toNat z.cells) info.size _ e (0, 0) (by simp [rep_length, repX_length, h6, hzl]) ?_ ?_ (fun i hi => by simp) (by rw [hs]; rfl) rfl (fun h => absurd (h ▸ hu) (Glob.noslice _ hts))⟩
  · simp only [VR, Emb.ext_pl]
    exact ⟨Emb.ext_dom _ _ _, by omega, _, rfl, .inl rfl⟩
  · rw [List.toList_toArray, List.take_of_length_le (by simp [rep_length, repX_length, h6, hzl])]
    exact rep_ok hcr _
  · rw [List.toList_toArray, List.take_of_length_le (by simp [rep_length, repX_length, h6, hzl])]
    exact fun y hy => hcc y (repX_mem _ hy)

theorem append_ok (H : HR P W lim E h w) (t0 t1 ty : TypeId) (x y : V) (v : V) (h' : Heap) (hv : appendV P t0 t1 h x y = some (v, h')) (hlim : h'.next ≤ lim) (x' y' : Value) (hx : VR E x x') (hy : VR E y y') :
    Comes' P W lim E h w v h' ((Builtin.append_ #[t0, t1] ty #[x', y']).run P w) := by
  unfold appendV at hv
  split at hv
  case isFalse => cases hv
  rename_i hts
  have hts : t0 < P.types.size := Nat.le_of_ble_eq_true hts
  split at hv
  case h_2 => exact appendS_ok H t0 t1 ty hts x _ v h' hv hlim x' y' hx hy
  rename_i k n
  unfold appendZ at hv
  split at hv
  case h_2 => cases hv
  rename_i e k2 hu0 hu1
  split at hv
  case h_2 => cases hv
  rename_i info z hi hz
  split at hv
  case isFalse => cases hv
  rename_i hcond
  obtain ⟨h0, h2, h3, h4, h6, h5⟩ := hcond
  simp only [Option.some.injEq, Prod.mk.injEq] at hv
  obtain ⟨hv1, hv2⟩ := hv
  subst hv1 hv2
  simp only [VR] at hx hy
  subst hx hy
  simp only [room] at h2 h3
  simp only [zeroOf, Option.bind_eq_some_iff] at hz
  obtain ⟨z', ⟨i', hi', hz2⟩, hz'⟩ := hz
  rw [hi] at hi'
  cases hi'
  have hzr := ofVal_ok E z' z hz'
  have hnt : ∀ q, z ≠ .tup q := by rintro q rfl; simp [V.isTup] at h5
  obtain ⟨hcr, hcc⟩ := hzr.cells hnt
  have hzl : z'.cells.size = info.size := by have := hcr.length; simp at this; omega
  have hzc : Builtin.zeroCells z'.cells n.toNat = (repX n.toNat z'.cells.toList).toArray := range_rep z'.cells (by omega) _
  have hn : n = (n.toNat : Int) := by omega
  have hrun := Lib.run_append_grow_zeros w t0 t1 ty e info z' k k2 hu0 hu1 hi hz2 none 0 0 [] (by simp [Builtin.firstCells]) n.toNat (by omega) h4 (by omega) (by omega) (by omega) (growslice_fits (by omega) (by simpa using Nat.le_trans h2 (by omega)))
  rw [← hn] at hrun
  rw [hrun]
  have hne : e ≠ Glob.bty P := fun h => Glob.noslice t0 hts (h ▸ hu0)
  have hxs : VRs E (rep n.toNat z.cells) (Builtin.zeroCells z'.cells n.toNat).toList := by rw [hzc]; exact rep_ok hcr _
  have hcs : ∀ y ∈ (Builtin.zeroCells z'.cells n.toNat).toList, isCell y = true := by rw [hzc]; exact fun y hy => hcc y (repX_mem _ hy)
  have := new_row H hlim none (fun _ h => by cases h) e info z' hi hzl h4 hne (0 + n.toNat) 0 (rep n.toNat z.cells) (Builtin.zeroCells z'.cells n.toNat).toList hxs hcs (by rw [hzc]; simp [repX_length, hzl]) _ rfl
  simpa using this

theorem buildSlice_ok (H : HR P W lim E h w) (t : TypeId) (n : Nat) (ps : List (Nat × V)) (v : V) (h' : Heap) (hv : buildSliceV P t n ps h = some (v, h')) (hlim : h'.next ≤ lim) (ps' : List (Nat × Value)) (hp : VRp E ps ps') :
    Comes' P W lim E h w v h' ((Instr.buildSlice t n ⟨ps'⟩).run P w) := by
  unfold buildSliceV at hv
  split at hv
  case isFalse => cases hv
  rename_i hts
  have hts : t < P.types.size := Nat.le_of_ble_eq_true hts
  unfold buildSliceU at hv
  split at hv
  case h_2 => cases hv
  rename_i e hu
  split at hv
  case h_2 => cases hv
  rename_i s z hs hz
  split at hv
  case isFalse => cases hv
  rename_i hcond
  obtain ⟨h0, h1, h2, h3⟩ := hcond
  split at hv
  case h_2 => cases hv
  rename_i cells hf
  cases hv
  obtain ⟨z', hz', hrz⟩ := run_zero' (P := P) w hz
  have hzr := ofVal_ok E z' z hz'
  have hnt' : ∀ q, z ≠ .tup q := by rintro q rfl; simp [V.isTup] at h3
  obtain ⟨hcr, hcc⟩ := hzr.cells hnt'
  have hzl : z'.cells.size = s := by have := hcr.length; simp at this; omega
  obtain ⟨xs', hxs, hvr, hcc'⟩ := fill_ok (E := E) _ ps (rep n z.cells) cells ps' (repX n z'.cells.toList) hf hp (rep_ok hcr n) (fun y hy => hcc y (repX_mem _ hy))
  have hlen : xs'.length = n * s := by
    have e1 := hvr.length
    have e2 : cells.length = (rep n z.cells).length := by
      clear hxs hvr hcc' hp
      revert hf
      generalize rep n z.cells = cs
      induction ps generalizing cs with
      | nil => intro hf; simp only [fillV, Option.some.injEq] at hf; rw [hf]
      | cons p ps ih =>
        intro hf
        obtain ⟨i, v⟩ := p
        simp only [fillV] at hf
        split at hf
        · rename_i hsz
          split at hf
          · rename_i cs2 hst
            have := ih cs2 hf
            rw [this]
            unfold storeRow at hst
            split at hst
            · simp only [Option.some.injEq] at hst
              rw [← hst]
              simp only [List.length_append, List.length_take, List.length_drop]
              omega
            · cases hst
          · cases hf
        · cases hf
    rw [e1, e2, rep_length, h2]
  have hrun : (Instr.buildSlice t n ⟨ps'⟩).run P w = .ok (.slice (some ⟨w.heap.size, 0, none⟩) n n) (w.alloc (.cells xs'.toArray e)) := by
    have hle : ¬ (n * s > 2 ^ 24) := by omega
    have hzero : (if n * s = 0 then (pure #[] : Sem (Array Value)) else do pure (← zeroValue e).cells).run P w = .ok (if n * s = 0 then #[] else z'.cells) w := by
      split <;> simp [hrz]
    have harr : (Array.range (n * s)).map (fun i => (if n * s = 0 then #[] else z'.cells)[i % (if n * s = 0 then #[] else z'.cells).size]!) = (repX n z'.cells.toList).toArray := by
      by_cases hc0 : n = 0
      · subst hc0; simp [repX]
      · rw [if_neg (by rw [Nat.mul_eq_zero]; omega), ← hzl]
        exact range_rep z'.cells (by omega) n
    have hx2 : Instr.fill (fun i => some (i * s, s)) (repX n z'.cells.toList).toArray ps' = some ⟨xs'⟩ := hxs
    unfold Instr.buildSlice
    simp only [Sem.run_bind, run_underlying hu, Result.andThen_ok, run_sizeOf' w hs, hle, if_false]
    by_cases hn0 : n * s = 0
    · have harr' := harr
      simp only [hn0, if_true] at harr' ⊢
      simp only [Sem.run_bind, Sem.run_pure, Result.andThen_ok, harr', hx2]
      rfl
    · have harr' := harr
      simp only [hn0, if_false] at harr' ⊢
      simp only [Sem.run_bind, hrz, Sem.run_pure, Result.andThen_ok, harr', hx2]
      rfl
  rw [hrun]
  refine ⟨_, _, E.ext h.next ⟨w.heap.size, 0, _, s⟩, rfl, ?_, Eff.alloc H hlim e cells s _ e (0, 0) (by have := hvr.length; simp; omega) ?_ ?_ (fun i hi => by simp) (by rw [hs]; rfl) rfl (fun h => absurd (h ▸ hu) (Glob.noslice _ hts))⟩
  · simp only [VR, Emb.ext_pl]
    exact ⟨Emb.ext_dom _ _ _, Nat.le_refl _, _, rfl, .inl rfl⟩
  · rw [List.toList_toArray, List.take_of_length_le (by have := hvr.length; omega)]
    exact hvr
  · rw [List.toList_toArray, List.take_of_length_le (by have := hvr.length; omega)]
    exact hcc'

theorem foldMax_ok (big : Bool) : ∀ (l : List V) (x v : V), foldMax big x l = some v → ∀ (xs : List Value) (x' : Value), VR E x x' → VRs E l xs →
    ∃ z, ((xs.foldlM (if big then Builtin.max2 else Builtin.min2) x' : Sem Value)).run P w = .ok z w ∧ VR E v z
  | [], x, v, hf, xs, x', hx, hl => by
    simp only [foldMax, Option.some.injEq] at hf
    subst hf
    simp only [VRs] at hl
    subst hl
    exact ⟨x', rfl, hx⟩
  | y :: l, x, v, hf, xs, x', hx, hl => by
    simp only [VRs] at hl
    obtain ⟨y', ys, rfl, hy, hys⟩ := hl
    unfold foldMax at hf
    split at hf
    · rename_i heq; cases heq
    · rename_i k a k' b l' heq
      cases heq
      split at hf
      · rename_i hk
        subst hk
        simp only [VR] at hx hy
        subst hx hy
        obtain ⟨z, hz, hr⟩ := foldMax_ok big l _ v hf ys (.int k (if big then (if b > a then b else a) else (if b < a then b else a))) (by simp only [VR]) hys
        refine ⟨z, ?_, hr⟩
        rw [List.foldlM_cons]
        cases big <;> simpa [Builtin.max2, Builtin.min2] using hz
      · cases hf
    · cases hf

end Go.AM
