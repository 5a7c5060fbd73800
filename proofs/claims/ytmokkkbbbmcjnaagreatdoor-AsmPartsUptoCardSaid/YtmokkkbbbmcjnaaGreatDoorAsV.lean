/-
  Read answers as the document's Read.
-/
import Derived.Test.YtmokkkbbbmcjnaaGreatDoorAsS
set_option linter.unusedVariables false
set_option linter.unusedSimpArgs false
namespace Go.AM
open Go.Proofs Go.RowKit

theorem digit_nat (d : Nat) (h : d < 10) : (UInt8.ofNat (48 + d)).toNat = 48 + d := by
  rw [UInt8.toNat_ofNat']; omega

theorem pu : ∀ (k u : Nat) (l : List UInt8), u < 10 ^ k → 0 < k → u < 18446744073709551616 → Lib.parseUint10 0 (digF k u ++ l) = Lib.parseUint10 u l
  | 0, u, l, _, h, _ => absurd h (by omega)
  | k + 1, u, l, h, _, h64 => by
    unfold digF
    by_cases hu : u < 10
    · rw [if_pos (by simpa [Nat.blt_eq] using hu)]
      simp only [List.cons_append, List.nil_append, Lib.parseUint10, digit_nat u hu]
      rw [if_pos (by omega), if_neg (by omega), if_neg (by omega)]
      congr 1
      omega
    · have hk : 0 < k := by
        rcases Nat.eq_zero_or_pos k with rfl | h'
        · simp at h; omega
        · exact h'
      have h2 : u / 10 < 10 ^ k := by
        rw [Nat.div_lt_iff_lt_mul (by omega)]
        rw [Nat.pow_succ] at h
        exact h
      rw [if_neg (by simpa [Nat.blt_eq] using hu), List.append_assoc, pu k (u / 10) _ h2 hk (by omega)]
      simp only [List.cons_append, List.nil_append, Lib.parseUint10, digit_nat (u % 10) (by omega)]
      rw [if_pos (by omega), if_neg (by omega), if_neg (by omega)]
      congr 1
      omega

theorem dl : ∀ (k u i : Nat) (l : List UInt8), u < 10 ^ k → 0 < k → u < 18446744073709551616 → i + (digF k u).length ≤ 20 → decL (digF k u ++ l) i 0 = decL l (i + (digF k u).length) u
  | 0, u, i, l, _, h, _, _ => absurd h (by omega)
  | k + 1, u, i, l, h, _, h64, hi => by
    unfold digF at hi ⊢
    by_cases hu : u < 10
    · rw [if_pos (by simpa [Nat.blt_eq] using hu)] at hi ⊢
      simp only [List.length_cons, List.length_nil] at hi
      simp only [List.cons_append, List.nil_append, decL, digit_nat u hu, List.length_cons, List.length_nil]
      rw [if_neg (by omega)]
      congr 1
      omega
    · have hk : 0 < k := by
        rcases Nat.eq_zero_or_pos k with rfl | h'
        · simp at h; omega
        · exact h'
      have h2 : u / 10 < 10 ^ k := by
        rw [Nat.div_lt_iff_lt_mul (by omega)]
        rw [Nat.pow_succ] at h
        exact h
      rw [if_neg (by simpa [Nat.blt_eq] using hu)] at hi ⊢
      simp only [List.length_append, List.length_cons, List.length_nil] at hi
      rw [List.append_assoc, dl k (u / 10) i _ h2 hk (by omega) (by omega)]
      simp only [List.cons_append, List.nil_append, decL, digit_nat (u % 10) (by omega), List.length_append, List.length_cons, List.length_nil]
      rw [if_neg (by omega)]
      congr 1
      omega

theorem digF_len2 : ∀ (k u m : Nat), u < 10 ^ m → 0 < m → (digF k u).length ≤ m
  | 0, u, m, _, hm => by simp [digF]
  | k + 1, u, m, h, hm => by
    unfold digF
    split
    · simp; omega
    · rename_i hu
      have hu : ¬ u < 10 := by simpa [Nat.blt_eq] using hu
      obtain ⟨m', rfl⟩ : ∃ m', m = m' + 1 := ⟨m - 1, by omega⟩
      have hk : 0 < m' := by
        rcases Nat.eq_zero_or_pos m' with rfl | h'
        · simp at h; omega
        · exact h'
      have h2 : u / 10 < 10 ^ m' := by
        rw [Nat.div_lt_iff_lt_mul (by omega)]
        rw [Nat.pow_succ] at h
        exact h
      have := digF_len2 k (u / 10) m' h2 hk
      simp only [List.length_append, List.length_cons, List.length_nil]
      omega

/-- The first digit. -/
theorem digF_head : ∀ (k u : Nat), u < 10 ^ k → 0 < k → ∃ c l, digF k u = c :: l ∧ 48 ≤ c.toNat ∧ c.toNat ≤ 57
  | 0, u, _, h => absurd h (by omega)
  | k + 1, u, h, _ => by
    unfold digF
    by_cases hu : u < 10
    · rw [if_pos (by simpa [Nat.blt_eq] using hu)]
      exact ⟨_, [], rfl, by rw [digit_nat u hu]; omega, by rw [digit_nat u hu]; omega⟩
    · have hk : 0 < k := by
        rcases Nat.eq_zero_or_pos k with rfl | h'
        · simp at h; omega
        · exact h'
      have h2 : u / 10 < 10 ^ k := by
        rw [Nat.div_lt_iff_lt_mul (by omega)]
        rw [Nat.pow_succ] at h
        exact h
      obtain ⟨c, l, e, h3, h4⟩ := digF_head k (u / 10) h2 hk
      rw [if_neg (by simpa [Nat.blt_eq] using hu), e]
      exact ⟨c, _, rfl, h3, h4⟩
theorem digF_noblank : ∀ (k u : Nat), (32 : UInt8) ∉ digF k u
  | 0, u => by simp [digF]
  | k + 1, u => by
    have nb : ∀ d, d < 10 → (32 : UInt8) ≠ UInt8.ofNat (48 + d) := by
      intro d hd e
      have := congrArg UInt8.toNat e
      rw [digit_nat d hd] at this
      have : (32 : Nat) = 48 + d := this
      omega
    unfold digF
    split
    · rename_i hu
      have hu : u < 10 := by simpa [Nat.blt_eq] using hu
      simpa using nb u hu
    · have h1 := digF_noblank k (u / 10)
      have h2 := nb (u % 10) (by omega)
      simp only [List.mem_append, List.mem_singleton]
      rintro (h | h)
      · exact h1 h
      · exact h2 h

theorem itoaF_noblank (a : Int) : (32 : UInt8) ∉ itoaF a := by
  unfold itoaF
  split
  · exact digF_noblank _ _
  · simp only [List.mem_cons, not_or]
    exact ⟨by decide, digF_noblank _ _⟩

theorem atoi_itoa (a : Int) (h : In64 a) : Lib.atoiAll (itoaF a) = .ok a := by
  unfold In64 at h
  unfold itoaF
  cases a with
  | ofNat u =>
    have hu : u < 10 ^ 20 ∧ u ≤ 9223372036854775807 := by
      have := h.2
      simp at this
      omega
    obtain ⟨c, l, e, h3, h4⟩ := digF_head 20 u hu.1 (by omega)
    have hp := pu 20 u [] hu.1 (by omega) (by omega)
    rw [List.append_nil] at hp
    simp only
    unfold Lib.atoiAll
    rw [e] at hp ⊢
    simp only
    rw [if_neg (by omega)]
    unfold Lib.parseMag
    rw [if_neg (by simp), hp]
    simp only [Lib.parseUint10]
    rw [if_neg (by omega), if_neg (by omega), if_neg (by omega)]
    rfl
  | negSucc k =>
    have hk : k + 1 < 10 ^ 20 ∧ k + 1 ≤ 9223372036854775808 := by
      have := h.1
      omega
    have hp := pu 20 (k + 1) [] hk.1 (by omega) (by omega)
    rw [List.append_nil] at hp
    obtain ⟨c, l, e, h3, h4⟩ := digF_head 20 (k + 1) hk.1 (by omega)
    simp only
    unfold Lib.atoiAll
    simp only
    have h45 : (45 : UInt8).toNat = 45 := rfl
    rw [if_pos (by simp)]
    unfold Lib.parseMag
    rw [if_neg (by rw [e]; simp), hp]
    simp only [Lib.parseUint10, h45]
    rw [if_neg (by simp), if_neg (by omega)]
    simp
    omega

theorem decimal_itoa (a : Int) (h : In64 a) : decimalA (itoaF a) = (a, true) := by
  unfold In64 at h
  cases a with
  | ofNat u =>
    have hu : u < 10 ^ 20 ∧ u ≤ 9223372036854775807 := by
      have := h.2
      simp at this
      omega
    have hd := dl 20 u 0 [] hu.1 (by omega) (by omega) (by have := digF_len 20 u; omega)
    rw [List.append_nil] at hd
    have hw : wr .i64 (u : Int) = u := by
      unfold wr loK hiK
      rw [if_pos ⟨by simp only; omega, by simp only; omega⟩]
    obtain ⟨c, l, e, h3, h4⟩ := digF_head 20 u hu.1 (by omega)
    show decimalA (digF 20 u) = _
    have hs : itoaF (u : Int) = digF 20 u := rfl
    rw [e] at hd hs ⊢
    unfold decimalA
    simp only
    rw [if_neg (by omega), hd]
    simp only [decL, hw, hs]
    simp
  | negSucc k =>
    have hk : k + 1 < 10 ^ 19 ∧ k + 1 ≤ 9223372036854775808 := by
      have := h.1
      omega
    have hl := digF_len2 20 (k + 1) 19 hk.1 (by omega)
    have hd := dl 20 (k + 1) 1 [] (by omega) (by omega) (by omega) (by omega)
    rw [List.append_nil] at hd
    obtain ⟨c, l, e, h3, h4⟩ := digF_head 20 (k + 1) (by omega) (by omega)
    have hw : wr .i64 (wr .u64 (0 - ((k + 1 : Nat) : Int))) = Int.negSucc k := by
      have h1 : wr .u64 (0 - ((k + 1 : Nat) : Int)) = 18446744073709551616 - ((k + 1 : Nat) : Int) := by
        rw [wr_eq]; simp [IntKind.wrap, IntKind.bits, IntKind.signed]
        omega
      rw [h1, wr_eq, IntWalk.i64_left]
      unfold RowKit.wrap64
      omega
    show decimalA (45 :: digF 20 (k + 1)) = _
    have hs : itoaF (Int.negSucc k) = 45 :: digF 20 (k + 1) := rfl
    unfold decimalA
    simp only
    rw [if_pos (show (45 : UInt8).toNat = 45 from rfl), hd]
    simp only [decL]
    rw [if_neg (by rw [e]; simp), hw, hs]
    simp

/-! ### Names -/

theorem find_pos : ∀ (l : List (List UInt8)) (s : List UInt8) (i : Nat), findB l s = true → ∃ k, l[k]? = some s ∧ findN l s i = i + k
  | [], s, i, h => by simp [findB] at h
  | x :: l, s, i, h => by
    unfold findB at h
    unfold findN
    by_cases hx : x = s
    · subst hx
      exact ⟨0, rfl, by simp⟩
    · have hb : (x == s) = false := by simp [hx]
      rw [hb] at h ⊢
      simp only [Bool.false_eq_true, if_false] at h ⊢
      obtain ⟨k, h1, h2⟩ := find_pos l s (i + 1) h
      exact ⟨k + 1, by simpa using h1, by rw [h2]; omega⟩
theorem name_found {s : List UInt8} (h : findB namesL s = true) : nameA (findN namesL s 1 : Nat) = s ∧ s ≠ [] ∧ (32 : UInt8) ∉ s := by
  obtain ⟨k, h1, h2⟩ := find_pos namesL s 1 h
  refine ⟨?_, ?_⟩
  · rw [h2, Nat.add_comm]
    show namesL.getD k [] = s
    rw [List.getD_eq_getElem?_getD, h1]; rfl
  · have key : ∀ x ∈ namesL, x ≠ [] ∧ (32 : UInt8) ∉ x := by decide
    exact key s (List.mem_of_getElem? h1)

/-! ### Words -/

theorem words_none : ∀ (l cur : List UInt8), cutB 32 l = none → wordsG l cur = [cur ++ l]
  | [], cur, _ => by simp [wordsG]
  | c :: l, cur, h => by
    unfold cutB at h
    unfold wordsG
    split at h
    · cases h
    · rename_i hc
      simp only [Option.map_eq_none_iff] at h
      have hc : c ≠ 32 := by simpa using hc
      rw [if_neg hc, words_none l _ h]
      simp
theorem words_some : ∀ (l cur p q : List UInt8), cutB 32 l = some (p, q) → wordsG l cur = (cur ++ p) :: wordsG q []
  | [], cur, p, q, h => by cases h
  | c :: l, cur, p, q, h => by
    unfold cutB at h
    rw [show wordsG (c :: l) cur = if c = 32 then cur :: wordsG l [] else wordsG l (cur ++ [c]) from rfl]
    split at h
    · rename_i hc
      cases h
      have hc : c = 32 := by simpa using hc
      rw [if_pos hc]
      simp
    · rename_i hc
      have hc : c ≠ 32 := by simpa using hc
      simp only [Option.map_eq_some_iff, Prod.exists, Prod.mk.injEq] at h
      obtain ⟨p', q', h', rfl, rfl⟩ := h
      rw [if_neg hc, words_some l _ p' q' h']
      simp
theorem cutB_mem : ∀ (l : List UInt8), (32 : UInt8) ∉ l → cutB 32 l = none
  | [], _ => rfl
  | c :: l, h => by
    simp only [List.mem_cons, not_or] at h
    unfold cutB
    rw [if_neg (by simp [Ne.symm h.1]), cutB_mem l h.2]; rfl

theorem line_is {n v : Int} {p q : List UInt8} (hn : nameA n = p) (hp : p ≠ []) (hb : (32 : UInt8) ∉ p) : lineA n v = p ++ 32 :: q ↔ takesA n ≠ 0 ∧ itoaF v = q := by
  unfold lineA
  rw [hn]
  by_cases hk : takesA n = 0
  · rw [if_neg (by simp [hk])]
    constructor
    · intro h
      exfalso
      split at h
      · simp at h
      · exact hb (by rw [h]; simp)
    · intro h; exact absurd hk h.1
  · rw [if_pos ⟨hp, hk⟩]
    constructor
    · intro h
      rw [List.append_assoc] at h
      have := List.append_cancel_left h
      simp at this
      exact ⟨hk, this⟩
    · rintro ⟨_, rfl⟩
      simp

theorem read_same (s : List UInt8) : readP s = readR s := by
  unfold readP readR
  cases hc : cutB 32 s with
  | none =>
    rw [words_none s [] hc]
    simp only [List.nil_append]
    by_cases hf : findB namesL s = true
    · simp only [hf, true_and, if_true]
    · simp only [hf, false_and, if_false]
      simp
  | some pq =>
    obtain ⟨p, q⟩ := pq
    obtain ⟨_, e2, _⟩ := cutB_some 32 s p q hc
    rw [words_some s [] p q hc]
    simp only [List.nil_append]
    by_cases hf : findB namesL p = true
    · obtain ⟨hn, hp, hb⟩ := name_found hf
      have hl : ∀ v, lineA (findN namesL p 1 : Nat) v = s ↔ takesA (findN namesL p 1 : Nat) ≠ 0 ∧ itoaF v = q := fun v => by rw [e2]; exact line_is hn hp hb
      simp only [hf, true_and, if_true]
      by_cases hbl : (32 : UInt8) ∈ q
      · -- a second blank: neither
        have hne : ∀ v, itoaF v ≠ q := fun v h => itoaF_noblank v (h ▸ hbl)
        cases hq : cutB 32 q with
        | none =>
          exfalso
          have : ∀ l : List UInt8, (32 : UInt8) ∈ l → cutB 32 l ≠ none := by
            intro l
            induction l with
            | nil => intro h; simp at h
            | cons c l ih =>
              intro h h2
              unfold cutB at h2
              split at h2
              · cases h2
              · rename_i hc2
                simp only [Option.map_eq_none_iff] at h2
                rcases List.mem_cons.1 h with h | h
                · exact hc2 (by simp [h])
                · exact ih h h2
          exact this q hbl hq
        | some ab =>
          obtain ⟨a, b⟩ := ab
          rw [words_some q [] a b hq]
          have : ∀ (l cur : List UInt8), wordsG l cur ≠ [] := by
            intro l
            induction l with
            | nil => intro cur h; simp [wordsG] at h
            | cons c l ih => intro cur h; unfold wordsG at h; split at h
                             · cases h
                             · exact ih _ h
          cases hb2 : wordsG b [] with
          | nil => exact absurd hb2 (this b [])
          | cons x y =>
            cases ha : atoiO q with
            | none => rfl
            | some v =>
              simp only
              rw [if_neg (fun h => hne v ((hl v).1 h).2)]
      · rw [words_none q [] (cutB_mem q hbl)]
        simp only [List.nil_append]
        by_cases hk : ∃ v, In64 v ∧ itoaF v = q
        · obtain ⟨v, hv, rfl⟩ := hk
          have e : atoiO (itoaF v) = some v := by unfold atoiO; rw [atoi_itoa v hv]
          rw [e, decimal_itoa v hv]
          simp
        · have h1 : ∀ v, atoiO q = some v → itoaF v ≠ q := by
            intro v hv h
            unfold atoiO at hv
            split at hv
            · rename_i v' hv'
              cases hv
              exact hk ⟨v, atoi_in hv', h⟩
            · cases hv
          have hin : In64 (decimalA q).1 := by
            unfold decimalA
            split
            · unfold In64; simp
            · split
              · split
                · unfold In64; simp
                · split <;> exact wri64_in _
              · split
                · unfold In64; simp
                · exact wri64_in _
          rw [if_neg (fun h => hk ⟨_, hin, ((hl _).1 h.2).2⟩)]
          cases ha : atoiO q with
          | none => rfl
          | some v =>
            simp only
            rw [if_neg (fun h => h1 v ha ((hl v).1 h).2)]
    · have hf : findB namesL p = false := by simpa using hf
      simp only [hf, Bool.false_eq_true, false_and, if_false]
      split <;> rfl

end Go.AM
