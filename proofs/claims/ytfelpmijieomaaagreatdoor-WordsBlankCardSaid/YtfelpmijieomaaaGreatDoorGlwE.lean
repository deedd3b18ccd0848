/- Texts that read as a policy: token by token, with any blanks between. -/
import Derived.Test.YtfelpmijieomaaaGreatDoorGlwD
import Derived.Lib.ItoaNum
set_option linter.unusedSimpArgs false
set_option linter.unusedVariables false
namespace Glw
open Go Go.Proofs Glx

theorem runTo_of {f : UInt8 → Bool} {s u v : List UInt8} {i : Nat} (h : s.drop i = u ++ v) (hu : ∀ c ∈ u, f c = true) (hv : ∀ c, v.head? = some c → f c = false) : runTo f s i = i + u.length := by
  unfold runTo
  rw [h, List.takeWhile_append_of_pos hu]
  have : v.takeWhile f = [] := by
    cases v with
    | nil => rfl
    | cons c v => rw [List.takeWhile_cons, if_neg (by rw [hv c rfl]; decide)]
  rw [this, List.append_nil]

theorem drop_add {s u v : List UInt8} {i : Nat} (h : s.drop i = u ++ v) : s.drop (i + u.length) = v := by
  rw [← List.drop_drop, h, List.drop_left]

theorem head_drop {s v : List UInt8} {i : Nat} {c : UInt8} (h : s.drop i = c :: v) : s[i]? = some c := by
  have := congrArg (·[0]?) h
  simpa using this

theorem cut_of {s u v : List UInt8} {i : Nat} (h : s.drop i = u ++ v) : (s.take (i + u.length)).drop i = u := by
  rw [List.drop_take, h, Nat.add_sub_cancel_left, List.take_left]

def Blanks (b : List UInt8) : Prop := ∀ c ∈ b, blank c = true
/-- nothing that a word or a number goes on with -/
def Stops (v : List UInt8) : Prop := ∀ c, v.head? = some c → letter c = false ∧ digit c = false

theorem letter_not {c : UInt8} (h : letter c = true) : blank c = false ∧ c ≠ 34 ∧ digit c = false := by
  simp only [letter, Bool.and_eq_true, decide_eq_true_eq] at h
  refine ⟨?_, ?_, ?_⟩
  · cases hb : blank c with
    | false => rfl
    | true =>
      simp only [blank, Bool.or_eq_true, beq_iff_eq] at hb
      rcases hb with rfl | rfl <;> simp at h
  · rintro rfl; simp at h
  · cases hb : digit c with
    | false => rfl
    | true => simp only [digit, Bool.and_eq_true, decide_eq_true_eq] at hb; omega
theorem digit_not {c : UInt8} (h : digit c = true) : blank c = false ∧ c ≠ 34 ∧ letter c = false := by
  simp only [digit, Bool.and_eq_true, decide_eq_true_eq] at h
  refine ⟨?_, ?_, ?_⟩
  · cases hb : blank c with
    | false => rfl
    | true =>
      simp only [blank, Bool.or_eq_true, beq_iff_eq] at hb
      rcases hb with rfl | rfl <;> simp at h
  · rintro rfl; simp at h
  · cases hb : letter c with
    | false => rfl
    | true => simp only [letter, Bool.and_eq_true, decide_eq_true_eq] at hb; omega

theorem lex_at {s b x : List UInt8} {c : UInt8} {i : Nat} (h : s.drop i = b ++ (c :: x)) (hb : Blanks b) (hc : blank c = false) : runTo blank s i = i + b.length ∧ s[i + b.length]? = some c ∧ s.drop (i + b.length) = c :: x := by
  refine ⟨runTo_of h hb ?_, head_drop (drop_add h), drop_add h⟩
  intro d hd
  cases hd
  exact hc

theorem T_word {s b w v : List UInt8} {i : Nat} (h : s.drop i = b ++ (w ++ v)) (hb : Blanks b) (hw : ∀ c ∈ w, letter c = true) (h0 : w ≠ []) (hv : ∀ c, v.head? = some c → letter c = false) : T s i 2 w (i + b.length + w.length) := by
  obtain ⟨c, w', rfl⟩ := List.exists_cons_of_ne_nil h0
  have hl := hw c (List.mem_cons_self ..)
  obtain ⟨n1, n2, n3⟩ := letter_not hl
  obtain ⟨e1, e2, e3⟩ := lex_at (b := b) (c := c) (x := w' ++ v) h hb n1
  have e4 := runTo_of (f := letter) (u := c :: w') (v := v) e3 hw hv
  unfold T lex
  simp only [e1, e2, if_neg n2, hl, if_true, e4]
  exact ⟨trivial, cut_of (u := c :: w') (v := v) e3, trivial⟩

theorem T_dig {s b w v : List UInt8} {i : Nat} (h : s.drop i = b ++ (w ++ v)) (hb : Blanks b) (hw : ∀ c ∈ w, digit c = true) (h0 : w ≠ []) (hl : w.length ≤ 10) (hz : w.length > 1 → w.head? ≠ some 48) (hv : ∀ c, v.head? = some c → digit c = false) : T s i 3 w (i + b.length + w.length) := by
  obtain ⟨c, w', rfl⟩ := List.exists_cons_of_ne_nil h0
  have hd := hw c (List.mem_cons_self ..)
  obtain ⟨n1, n2, n3⟩ := digit_not hd
  obtain ⟨e1, e2, e3⟩ := lex_at (b := b) (c := c) (x := w' ++ v) h hb n1
  have e4 := runTo_of (f := digit) (u := c :: w') (v := v) e3 hw hv
  unfold T lex
  simp only [e1, e2, if_neg n2, n3, Bool.false_eq_true, if_false, hd, if_true, e4]
  refine ⟨?_, cut_of (u := c :: w') (v := v) e3, trivial⟩
  rw [if_neg]
  rintro (h1 | ⟨h1, h2⟩)
  · omega
  · exact hz (by omega) (by rw [h2]; rfl)

theorem T_sign {s b v : List UInt8} {c : UInt8} {i : Nat} (h : s.drop i = b ++ ([c] ++ v)) (hb : Blanks b) (hc : c = 40 ∨ c = 41 ∨ c = 44) : T s i 5 [c] (i + b.length + 1) := by
  have n : blank c = false ∧ c ≠ 34 ∧ letter c = false ∧ digit c = false := by
    rcases hc with rfl | rfl | rfl <;> exact ⟨rfl, by decide, rfl, rfl⟩
  obtain ⟨e1, e2, e3⟩ := lex_at (b := b) (c := c) (x := v) h hb n.1
  unfold T lex
  simp only [e1, e2, if_neg n.2.1, n.2.2.1, n.2.2.2, Bool.false_eq_true, if_false, if_pos hc]
  exact ⟨trivial, cut_of (u := [c]) (v := v) e3, trivial⟩

theorem T_text {s b q v t : List UInt8} {i : Nat} (h : s.drop i = b ++ ((34 :: q) ++ v)) (hb : Blanks b) (hq : unq (q ++ v) = some (t, q.length)) : T s i 4 t (i + b.length + (q.length + 1)) := by
  obtain ⟨e1, e2, e3⟩ := lex_at (b := b) (c := 34) (x := q ++ v) h hb rfl
  have e4 : s.drop (i + b.length + 1) = q ++ v := drop_add (u := [34]) (v := q ++ v) e3
  unfold T lex
  simp only [e1, e2, if_true, e4, hq]
  exact ⟨trivial, trivial, by omega⟩

/-! ### numbers -/
theorem parse_append (x y : List UInt8) : ∀ acc, Lib.parseUint10 acc (x ++ y) = match Lib.parseUint10 acc x with | .ok v => Lib.parseUint10 v y | e => e := by
  induction x with
  | nil => intro acc; rfl
  | cons c x ih =>
    intro acc
    simp only [List.cons_append, Lib.parseUint10]
    split
    · split
      · rfl
      · split
        · rfl
        · exact ih _
    · rfl

theorem dec_digit {u : Nat} (h : u < 10) : (UInt8.ofNat (48 + u)).toNat = 48 + u := by
  rw [UInt8.toNat_ofNat']
  omega

theorem parse_dec (u : Nat) (h : u < 9223372036854775808) : Lib.parseUint10 0 (Lib.decDigits u) = .ok u := by
  induction u using Nat.strongRecOn with
  | _ u ih =>
    by_cases hu : u < 10
    · rw [Lib.decDigits, dif_pos hu]
      simp only [Lib.parseUint10, dec_digit hu]
      rw [if_pos (by omega), if_neg (by omega), if_neg (by omega)]
      congr 1
      omega
    · rw [Lib.decDigits, dif_neg hu, parse_append, ih (u / 10) (by omega) (by omega)]
      simp only [Lib.parseUint10, dec_digit (Nat.mod_lt u (by decide : 0 < 10))]
      rw [if_pos (by omega), if_neg (by omega), if_neg (by omega)]
      congr 1
      omega

theorem dec_all (u : Nat) : ∀ c ∈ Lib.decDigits u, digit c = true := by
  have one : ∀ d < 10, digit (UInt8.ofNat (48 + d)) = true := fun d hd => by
    simp only [digit, dec_digit hd, Bool.and_eq_true, decide_eq_true_eq]; omega
  induction u using Nat.strongRecOn with
  | _ u ih =>
    intro c hc
    by_cases hu : u < 10
    · rw [Lib.decDigits, dif_pos hu] at hc
      rw [List.mem_singleton.1 hc]
      exact one u hu
    · rw [Lib.decDigits, dif_neg hu, List.mem_append] at hc
      rcases hc with hc | hc
      · exact ih (u / 10) (by omega) c hc
      · rw [List.mem_singleton.1 hc]
        exact one _ (Nat.mod_lt u (by decide))

theorem dec_ne (u : Nat) : Lib.decDigits u ≠ [] := by
  rw [Lib.decDigits]
  split <;> simp

theorem dec_head (u : Nat) (h : 1 ≤ u) : (Lib.decDigits u).head? ≠ some 48 := by
  induction u using Nat.strongRecOn with
  | _ u ih =>
    by_cases hu : u < 10
    · rw [Lib.decDigits, dif_pos hu]
      intro e
      have := congrArg UInt8.toNat (Option.some.inj e)
      rw [dec_digit hu] at this
      simp at this
      omega
    · obtain ⟨c, r, hc⟩ := List.exists_cons_of_ne_nil (dec_ne (u / 10))
      have := ih (u / 10) (by omega) (by omega)
      rw [Lib.decDigits, dif_neg hu, hc, List.cons_append]
      rw [hc] at this
      exact this

theorem dec_len (u : Nat) (h : u < 10000000000) : (Lib.decDigits u).length ≤ 10 ∧ ((Lib.decDigits u).length > 1 → (Lib.decDigits u).head? ≠ some 48) := by
  have key : ∀ (k u : Nat), u < 10 ^ (k + 1) → Lib.nDigits u ≤ k + 1 := by
    intro k
    induction k with
    | zero => intro u hu; rw [Lib.nDigits_small (by simpa using hu)]; omega
    | succ k ih =>
      intro u hu
      by_cases h10 : u < 10
      · rw [Lib.nDigits_small h10]; omega
      · rw [Lib.nDigits_big h10]
        have := ih (u / 10) (by rw [Nat.pow_succ] at hu; omega)
        omega
  refine ⟨?_, fun hl => dec_head u ?_⟩
  · rw [Lib.decDigits_length]; exact key 9 u h
  · cases u with
    | zero => rw [Lib.decDigits, dif_pos (by decide)] at hl; simp at hl
    | succ u => omega

theorem atoi_dec (u : Nat) (h : u < 9223372036854775808) : Lib.atoiAll (Lib.decDigits u) = .ok (u : Int) := by
  obtain ⟨c, r, hc⟩ := List.exists_cons_of_ne_nil (dec_ne u)
  have hd := dec_all u c (by rw [hc]; exact List.mem_cons_self ..)
  simp only [digit, Bool.and_eq_true, decide_eq_true_eq] at hd
  have hp := parse_dec u h
  rw [hc] at hp ⊢
  unfold Lib.atoiAll
  have h43 : ¬ (c.toNat = 43 ∨ c.toNat = 45) := by omega
  simp only [if_neg h43, Lib.parseMag, reduceCtorEq, if_false, hp]
  have h45 : ¬ c.toNat = 45 := by omega
  simp only [h45, not_false_eq_true, true_and, false_and, if_false]
  rw [if_neg (by omega)]

end Glw
