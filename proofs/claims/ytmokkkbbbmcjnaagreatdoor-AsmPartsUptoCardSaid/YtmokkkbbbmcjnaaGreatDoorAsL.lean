/-
  Functions of the library, answered by the shelf's contracts.
-/
import Derived.Test.YtmokkkbbbmcjnaaGreatDoorAsG
import Derived.Lib.AtoiErrMem
set_option linter.unusedSimpArgs false
set_option linter.unusedVariables false
namespace Go.AM
open Go.Proofs Go.RowKit Go.Sort

abbrev i64 (n : Int) : V := .int .i64 n

/-! ### Decimal digits, by rounds -/

def digF : Nat → Nat → List UInt8
  | 0, _ => []
  | k + 1, u => if Nat.blt u 10 then [UInt8.ofNat (48 + u)] else digF k (u / 10) ++ [UInt8.ofNat (48 + u % 10)]
def itoaF (n : Int) : List UInt8 := match n with
  | .ofNat u => digF 20 u
  | .negSucc u => 45 :: digF 20 (u + 1)

theorem digF_eq : ∀ (k u : Nat), u < 10 ^ k → 0 < k → digF k u = Lib.decDigits u
  | 0, u, _, h => absurd h (by omega)
  | k + 1, u, h, _ => by
    rw [Lib.decDigits]
    unfold digF
    by_cases hu : u < 10
    · rw [if_pos (by simpa [Nat.blt_eq] using hu)]
      simp [hu]
    · have hk : 0 < k := by
        rcases Nat.eq_zero_or_pos k with rfl | h'
        · simp at h; omega
        · exact h'
      have h2 : u / 10 < 10 ^ k := by
        rw [Nat.div_lt_iff_lt_mul (by omega)]
        rw [Nat.pow_succ] at h
        exact h
      rw [if_neg (by simpa [Nat.blt_eq] using hu), digF_eq k _ h2 hk]
      simp [hu]

theorem itoaF_eq (n : Int) (h0 : -9223372036854775808 ≤ n) (h1 : n ≤ 9223372036854775807) : itoaF n = Lib.itoa n := by
  unfold itoaF Lib.itoa
  cases n with
  | ofNat u =>
    simp only
    rw [if_neg (by simp), digF_eq 20 u (by simp at h1; omega) (by omega)]
    simp
  | negSucc u =>
    simp only
    rw [if_pos (Int.negSucc_lt_zero u), digF_eq 20 (u + 1) (by omega) (by omega)]
    rfl

/-! ### strconv.Itoa -/

def itoaG : GFun := fun args h => match args with
  | [.int .i64 n] => if -9223372036854775808 ≤ n ∧ n ≤ 9223372036854775807 then some (.str (itoaF n), h) else none
  | _ => none

theorem below_drewN (w : World) (k : Nat) : Below w.heap.size w (w.drewN k) := ⟨rfl, rfl, rfl, Nat.le_refl _, fun _ _ => rfl⟩
theorem below_grow' (w : World) (k : Nat) (os : Array Go.Obj) : Below w.heap.size w (grow (w.drewN k) os) :=
  ⟨rfl, rfl, rfl, by simp [grow, World.drewN], fun c hc => by
    show (w.heap ++ os)[c]? = _
    rw [Array.getElem?_append_left hc]⟩

theorem itoa_entry : EntryOk Tryz.prog 32 itoaG where
  call := by
    intro args h v h' hg W lim E w args' hlim H hr
    unfold itoaG at hg
    split at hg
    case h_2 => cases hg
    rename_i n
    split at hg
    case isFalse => cases hg
    rename_i hn
    cases hg
    simp only [VRs, VR] at hr
    obtain ⟨_, _, rfl, rfl, rfl⟩ := hr
    refine quiet H ((Tryz.strconv_Itoa n hn.1 hn.2 w H.glob.tab).mono ?_)
    rintro e w' ⟨rfl, k, os, rfl⟩
    exact ⟨_, rfl, by simp only [VR, itoaF_eq n hn.1 hn.2], below_grow' w k os⟩
  mono := by
    intro args h v h' hg
    unfold itoaG at hg
    split at hg
    · split at hg
      · cases hg; exact Mono.refl _
      · cases hg
    · cases hg

/-! ### IndexByte, Count -/

def indexG : GFun := fun args h => match args with
  | [.str l, .int .u8 c] => some (i64 (Lib.indexByte l c.toNat.toUInt8), h)
  | _ => none
theorem index_entry : EntryOk Tryz.prog 97 indexG where
  call := by
    intro args h v h' hg W lim E w args' hlim H hr
    unfold indexG at hg
    split at hg
    case h_2 => cases hg
    rename_i l c
    cases hg
    simp only [VRs, VR] at hr
    obtain ⟨_, _, rfl, rfl, _, _, rfl, rfl, rfl⟩ := hr
    refine quiet H ((Tryz.stringslite_IndexByte _ c w).mono ?_)
    rintro e w' ⟨rfl, rfl⟩
    exact ⟨_, rfl, by simp only [VR], Below.refl _ _⟩
  mono := by
    intro args h v h' hg
    unfold indexG at hg
    split at hg
    · cases hg; exact Mono.refl _
    · cases hg

def countG : GFun := fun args h => match args with
  | [.str l, .str [c]] => some (i64 (Lib.countByte l c : Nat), h)
  | _ => none
theorem count_entry : EntryOk Tryz.prog 83 countG where
  call := by
    intro args h v h' hg W lim E w args' hlim H hr
    unfold countG at hg
    split at hg
    case h_2 => cases hg
    rename_i l c
    cases hg
    simp only [VRs, VR] at hr
    obtain ⟨_, _, rfl, rfl, _, _, rfl, rfl, rfl⟩ := hr
    refine quiet H ((Tryz.strings_Count_one _ c w).mono ?_)
    rintro e w' ⟨rfl, rfl⟩
    exact ⟨_, rfl, by simp only [VR], Below.refl _ _⟩
  mono := by
    intro args h v h' hg
    unfold countG at hg
    split at hg
    · cases hg; exact Mono.refl _
    · cases hg

/-! ### strconv.Atoi -/

def errV (h : Heap) : V := .iface 113 (.ptr h.next 0)
def atoiG : GFun := fun args h => match args with
  | [.str l] => if l.length ≤ 281474976710656 then match Lib.atoiAll l with
      | .ok v => some (.tup [i64 v, .niliface], h)
      | .range => some (.tup [i64 (Lib.atoiSat l), errV h], h.alloc .dead)
      | _ => some (.tup [i64 0, errV h], h.alloc .dead)
    else none
  | _ => none

theorem atoi_entry : EntryOk Tryz.prog 26 atoiG where
  call := by
    intro args h v h' hg W lim E w args' hlim H hr
    unfold atoiG at hg
    split at hg
    case h_2 => cases hg
    rename_i l
    split at hg
    case isFalse => cases hg
    rename_i hl
    simp only [VRs, VR] at hr
    obtain ⟨_, _, rfl, rfl, rfl⟩ := hr
    have errs : ∀ (n : Int) (N : Nat), VR (E.ext h.next ⟨N, 0, 0, 0⟩) (.tup [i64 n, errV h]) (.tuple #[.int .i64 n, .iface 113 (.pointer (some ⟨N, 0, none⟩))]) := by
      intro n N
      simp only [VR, errV]
      refine ⟨_, rfl, ⟨_, _, rfl, by simp only [VR], _, _, rfl, ?_, rfl⟩⟩
      simp only [VR]
      refine ⟨_, rfl, Emb.ext_dom _ _ _, ?_⟩
      rw [Emb.ext_pl]; rfl
    rcases hn : Lib.atoiAll l with n | _ | _
    · rw [hn] at hg
      cases hg
      refine quiet H ((Tryz.strconv_Atoi_ok ⟨⟨l⟩⟩ (by show l.length ≤ _; omega) n hn w).mono ?_)
      rintro e w' ⟨rfl, hw⟩
      refine ⟨_, rfl, ?_, ?_⟩
      · simp only [VR]
        exact ⟨_, rfl, ⟨_, _, rfl, by simp only [VR], _, _, rfl, by simp only [VR], rfl⟩⟩
      · rcases hw with rfl | ⟨t, rfl⟩
        · exact Below.refl _ _
        · exact Lib.bytesWorld_below _ _ _
    · rw [hn] at hg
      cases hg
      obtain ⟨ev, hv, hev⟩ := H.glob.c1
      refine fresh H hlim ((Any.strconv_Atoi_syntax Tryz.laysC172 ⟨⟨l⟩⟩ hl hn ev w hv hev).mono ?_)
      rintro e w' ⟨N, rfl, hN, hc, hb⟩
      exact ⟨N, _, rfl, errs 0 N, hN, (by
        rcases Nat.lt_or_ge N w'.heap.size with h | h
        · exact h
        · rw [Array.getElem?_eq_none h] at hc; cases hc), hb⟩
    · rw [hn] at hg
      cases hg
      obtain ⟨ev, hv, hev⟩ := H.glob.c2
      refine fresh H hlim ((Tryz.strconv_Atoi_range ⟨⟨l⟩⟩ hl hn ev w hv hev).mono ?_)
      rintro e w' ⟨N, rfl, hN, hc, hb⟩
      exact ⟨N, _, rfl, errs _ N, hN, (by
        rcases Nat.lt_or_ge N w'.heap.size with h | h
        · exact h
        · rw [Array.getElem?_eq_none h] at hc; cases hc), hb⟩
  mono := by
    intro args h v h' hg
    unfold atoiG at hg
    split at hg
    · split at hg
      · split at hg
        · cases hg; exact Mono.refl _
        · cases hg; exact Mono.alloc _ _
        · cases hg; exact Mono.alloc _ _
      · cases hg
    · cases hg

end Go.AM
