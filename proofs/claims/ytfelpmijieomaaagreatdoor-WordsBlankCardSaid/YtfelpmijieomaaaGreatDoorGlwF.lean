/- A policy's tokens, and texts that are spaced anyhow. -/
import Derived.Test.YtfelpmijieomaaaGreatDoorGlwE
set_option linter.unusedSimpArgs false
set_option linter.unusedVariables false
namespace Glw
open Go Go.Proofs Glx

/-- what a node of a policy that may be has -/
def Own (k n : Int) (a b : List UInt8) (ks : List Rule) : Prop :=
  ((k = 1 ∨ k = 2) ∧ n = 0 ∧ a = [] ∧ b = []) ∨ (k = 3 ∧ n = 0 ∧ a = [] ∧ b = [] ∧ ks.length = 1) ∨ (k = 5 ∧ n = 0 ∧ a = [] ∧ b = [] ∧ ks = []) ∨
  (k = 6 ∧ n = 0 ∧ 1 ≤ a.length ∧ a.length ≤ 16 ∧ b.length ≤ 16 ∧ ks = []) ∨ (k = 4 ∧ a = [] ∧ b = [] ∧ ks = [] ∧ 0 ≤ n ∧ n ≤ 1073741824) ∨
  ((k = 7 ∨ k = 8) ∧ a = [] ∧ b = [] ∧ ks = [] ∧ 0 ≤ n ∧ n ≤ 1000) ∨ (k = 9 ∧ a = [] ∧ b = [] ∧ ks = [] ∧ 0 ≤ n ∧ n ≤ 1000000)

mutual
def Fine : Rule → Prop
  | .mk k n a b ks => Own k n a b ks ∧ FineL ks
def FineL : List Rule → Prop
  | [] => True
  | r :: l => Fine r ∧ FineL l
end
mutual
def size : Rule → Nat
  | .mk _ _ _ _ ks => 1 + sizeL ks
def sizeL : List Rule → Nat
  | [] => 0
  | r :: l => size r + sizeL l
end
theorem FineL_mem : ∀ {ks : List Rule}, FineL ks → ∀ r ∈ ks, Fine r
  | [], _, _, h => by cases h
  | x :: l, hf, r, h => by
    rw [FineL] at hf
    rcases List.mem_cons.1 h with rfl | h
    · exact hf.1
    · exact FineL_mem hf.2 r h
theorem sizeL_len : ∀ (ks : List Rule), ks.length ≤ sizeL ks
  | [] => Nat.le_refl _
  | .mk k n a b l :: ks => by
    have := sizeL_len ks
    simp only [sizeL, size, List.length_cons]
    omega
theorem sizeL_mem : ∀ {ks : List Rule}, ∀ r ∈ ks, size r ≤ sizeL ks
  | [], _, h => by cases h
  | x :: l, r, h => by
    rw [sizeL]
    rcases List.mem_cons.1 h with rfl | h
    · omega
    · have := sizeL_mem r h
      omega

/-- a kind's word -/
def wordOf (k : Int) : List UInt8 :=
  if k = 1 then [97, 108, 108] else if k = 2 then [97, 110, 121] else if k = 3 then [110, 111, 116] else if k = 4 then [115, 108, 111, 119] else if k = 5 then [101, 114, 114]
  else if k = 6 then [97, 116, 116, 114] else if k = 7 then [109, 97, 110, 121] else if k = 8 then [104, 97, 115, 104] else if k = 9 then [114, 97, 116, 101] else []

theorem word_ok {k : Int} (h : 1 ≤ k ∧ k ≤ 9) : kindOf (wordOf k) = k ∧ wordOf k ≠ [] ∧ ∀ c ∈ wordOf k, letter c = true := by
  have : k = 1 ∨ k = 2 ∨ k = 3 ∨ k = 4 ∨ k = 5 ∨ k = 6 ∨ k = 7 ∨ k = 8 ∨ k = 9 := by omega
  rcases this with rfl | rfl | rfl | rfl | rfl | rfl | rfl | rfl | rfl <;> exact ⟨by decide, by decide, by decide⟩

/-- a text between its quotes -/
def esc : List UInt8 → List UInt8
  | [] => []
  | c :: l => if c = 34 ∨ c = 92 then 92 :: c :: esc l else c :: esc l
def quote (l : List UInt8) : List UInt8 := 34 :: (esc l ++ [34])

theorem unq_q (r : List UInt8) : unq (34 :: r) = some ([], 1) := by unfold unq; rfl
theorem unq_e (d : UInt8) (r : List UInt8) : unq (92 :: d :: r) = (unq r).map fun x => (d :: x.1, x.2 + 2) := by
  rw [unq.eq_def]
  simp only [show ¬ (92 : UInt8) = 34 by decide, if_false, if_true]
theorem unq_p {c : UInt8} (r : List UInt8) (h1 : c ≠ 34) (h2 : c ≠ 92) : unq (c :: r) = (unq r).map fun x => (c :: x.1, x.2 + 1) := by
  rw [unq.eq_def]
  simp only [h1, h2, if_false]
theorem unq_esc (l v : List UInt8) : unq (esc l ++ (34 :: v)) = some (l, (esc l).length + 1) := by
  induction l with
  | nil => simp [esc, unq_q]
  | cons c l ih =>
    rw [esc]
    split
    · simp only [List.cons_append, unq_e, ih, Option.map_some, List.length_cons]
    · rename_i h
      rw [List.cons_append, unq_p _ (fun e => h (.inl e)) (fun e => h (.inr e)), ih]
      rfl

mutual
def toks : Rule → List (List UInt8)
  | .mk k n a b ks => wordOf k :: (if k = 1 ∨ k = 2 ∨ k = 3 then [40] :: (toksL ks ++ [[41]]) else if k = 6 then [quote a, quote b] else if k = 5 then [] else [Lib.decDigits n.toNat])
def toksL : List Rule → List (List UInt8)
  | [] => []
  | r :: l => match l with
    | [] => toks r
    | _ :: _ => toks r ++ [44] :: toksL l
end

/-- tokens, with blanks ahead of each -/
def Sp : List (List UInt8) → List UInt8 → Prop
  | [], w => w = []
  | t :: ts, w => ∃ b v, w = b ++ (t ++ v) ∧ Blanks b ∧ Sp ts v

theorem Sp_append : ∀ (x y : List (List UInt8)) (w : List UInt8), Sp (x ++ y) w ↔ ∃ u v, w = u ++ v ∧ Sp x u ∧ Sp y v
  | [], y, w => by
    constructor
    · intro h; exact ⟨[], w, rfl, rfl, h⟩
    · rintro ⟨u, v, rfl, rfl, h⟩; exact h
  | t :: x, y, w => by
    simp only [List.cons_append, Sp, Sp_append x y]
    constructor
    · rintro ⟨b, v, rfl, hb, u, v2, rfl, h1, h2⟩
      exact ⟨b ++ (t ++ u), v2, by simp, ⟨b, u, rfl, hb, h1⟩, h2⟩
    · rintro ⟨u, v, rfl, ⟨b, v2, rfl, hb, h1⟩, h2⟩
      exact ⟨b, v2 ++ v, by simp, hb, v2, v, rfl, h1, h2⟩

theorem stops_sign {b v : List UInt8} {c : UInt8} (hb : Blanks b) (hc : c = 40 ∨ c = 41 ∨ c = 44) : Stops (b ++ (c :: v)) := by
  intro d hd
  cases b with
  | nil => cases hd; rcases hc with rfl | rfl | rfl <;> exact ⟨rfl, rfl⟩
  | cons x b =>
    cases hd
    have := hb d (List.mem_cons_self ..)
    simp only [blank, Bool.or_eq_true, beq_iff_eq] at this
    rcases this with rfl | rfl <;> exact ⟨rfl, rfl⟩

theorem reads_of (r : Rule) : Fine r → size r ≤ 1000 → ∀ (s : List UInt8) (i : Nat) (w v : List UInt8), s.drop i = w ++ v → Sp (toks r) w → Stops v → Reads s r i (i + w.length) := by
  induction r using Rule.ind with
  | h k n a b ks ih =>
    intro hf hs s i w v hd hsp hst
    rw [Fine] at hf
    obtain ⟨hown, hfl⟩ := hf
    rw [toks] at hsp
    obtain ⟨b0, w1, rfl, hb0, hsp⟩ := hsp
    have hk : 1 ≤ k ∧ k ≤ 9 := by unfold Own at hown; omega
    obtain ⟨k1, k2, k3⟩ := word_ok hk
    rw [Reads]
    have hd1 : s.drop i = b0 ++ (wordOf k ++ (w1 ++ v)) := by rw [hd]; simp
    have hd2 : s.drop (i + b0.length + (wordOf k).length) = w1 ++ v := by
      have := drop_add hd1
      exact drop_add this
    have kidsR : ∀ (ks : List Rule), (∀ r ∈ ks, Fine r ∧ size r ≤ 1000) → (∀ r ∈ ks, Fine r → size r ≤ 1000 → ∀ (s : List UInt8) (i : Nat) (w v : List UInt8), s.drop i = w ++ v → Sp (toks r) w → Stops v → Reads s r i (i + w.length)) →
        ∀ (i : Nat) (w v : List UInt8), s.drop i = w ++ v → Sp (toksL ks) w → Stops v → ReadsL s ks i (i + w.length) := by
      intro ks
      induction ks with
      | nil => intro _ _ i w v _ h _; rw [toksL] at h; cases h; rfl
      | cons r l ihl =>
        intro h1 h2 i w v h3 h4 h5
        cases l with
        | nil =>
          simp only [ReadsL]
          exact h2 r (List.mem_cons_self ..) (h1 r (List.mem_cons_self ..)).1 (h1 r (List.mem_cons_self ..)).2 s i w v h3 (by simpa only [toksL] using h4) h5
        | cons x l =>
          rw [toksL] at h4
          obtain ⟨u1, u2, rfl, h6, h7⟩ := (Sp_append _ _ _).1 h4
          obtain ⟨b1, u3, rfl, hb1, h8⟩ := h7
          rw [ReadsL]
          have g1 : s.drop i = u1 ++ (b1 ++ ([44] ++ (u3 ++ v))) := by rw [h3]; simp
          have g2 := drop_add g1
          have g3 : s.drop (i + u1.length + b1.length + 1) = u3 ++ v := by
            have := drop_add g2
            exact drop_add this
          refine ⟨i + u1.length, i + u1.length + b1.length + 1, ?_, T_sign g2 hb1 (by simp), ?_⟩
          · exact h2 r (List.mem_cons_self ..) (h1 r (List.mem_cons_self ..)).1 (h1 r (List.mem_cons_self ..)).2 s i u1 _ g1 h6 (stops_sign hb1 (by simp))
          · have := ihl (fun r hr => h1 r (List.mem_cons_of_mem _ hr)) (fun r hr => h2 r (List.mem_cons_of_mem _ hr)) _ _ _ g3 h8 h5
            have e : i + (u1 ++ (b1 ++ ([44] ++ u3))).length = i + u1.length + b1.length + 1 + u3.length := by simp; omega
            rw [e]
            exact this
    have hlen := sizeL_len ks
    rw [size] at hs
    by_cases c1 : k = 1 ∨ k = 2 ∨ k = 3
    · rw [if_pos c1] at hsp
      obtain ⟨b1, w2, rfl, hb1, hsp⟩ := hsp
      obtain ⟨u, x, rfl, hu, hx⟩ := (Sp_append _ _ _).1 hsp
      obtain ⟨b2, y, rfl, hb2, hy⟩ := hx
      cases hy
      have g1 : s.drop (i + b0.length + (wordOf k).length) = b1 ++ ([40] ++ (u ++ (b2 ++ ([41] ++ v)))) := by rw [hd2]; simp
      have g2 : s.drop (i + b0.length + (wordOf k).length + b1.length + 1) = u ++ (b2 ++ ([41] ++ v)) := by
        have := drop_add g1
        exact drop_add this
      have g3 := drop_add g2
      refine ⟨_, _, T_word hd1 hb0 k3 k2 fun c hc => (stops_sign (v := u ++ (b2 ++ ([41] ++ v))) hb1 (.inl rfl) c (by simpa using hc)).1, k1, by omega, ?_⟩
      rw [if_pos c1]
      refine ⟨by unfold Own at hown; omega, by unfold Own at hown; rcases hown with h | h | h | h | h | h | h <;> first | exact h.2.2.1 | omega, by unfold Own at hown; rcases hown with h | h | h | h | h | h | h <;> first | exact h.2.2.2 | exact h.2.2.2.1 | omega,
        fun h3 => by unfold Own at hown; omega, by omega, _, _, T_sign g1 hb1 (.inl rfl), kidsR ks (fun r hr => ⟨FineL_mem hfl r hr, by have := sizeL_mem r hr; omega⟩) ih _ u _ g2 hu (stops_sign hb2 (by simp)), ?_⟩
      have := T_sign g3 hb2 (by simp)
      have e : i + (b0 ++ (wordOf k ++ (b1 ++ ([40] ++ (u ++ (b2 ++ ([41] ++ []))))))).length = i + b0.length + (wordOf k).length + b1.length + 1 + u.length + b2.length + 1 := by simp; omega
      rw [e]
      exact this
    · rw [if_neg c1] at hsp
      by_cases c6 : k = 6
      · rw [if_pos c6] at hsp
        subst c6
        obtain ⟨b1, w2, rfl, hb1, hsp⟩ := hsp
        obtain ⟨b2, w3, rfl, hb2, hsp⟩ := hsp
        cases hsp
        have g1 : s.drop (i + b0.length + (wordOf 6).length) = b1 ++ ((34 :: (esc a ++ [34])) ++ (b2 ++ (quote b ++ v))) := by rw [hd2]; simp [quote]
        have g2 : s.drop (i + b0.length + (wordOf 6).length + b1.length + ((esc a ++ [34]).length + 1)) = b2 ++ ((34 :: (esc b ++ [34])) ++ v) := by
          have := drop_add g1
          exact drop_add this
        have q1 : unq ((esc a ++ [34]) ++ (b2 ++ (quote b ++ v))) = some (a, (esc a ++ [34]).length) := by
          have := unq_esc a (b2 ++ (quote b ++ v))
          simpa using this
        have q2 : unq ((esc b ++ [34]) ++ v) = some (b, (esc b ++ [34]).length) := by
          have := unq_esc b v
          simpa using this
        refine ⟨_, _, T_word hd1 hb0 k3 k2 ?_, k1, by omega, ?_⟩
        · intro c hc
          cases b1 with
          | nil => cases hc; rfl
          | cons x b1 =>
            cases hc
            have := hb1 c (List.mem_cons_self ..)
            cases hl : letter c with
            | false => rfl
            | true => rw [(letter_not hl).1] at this; cases this
        · rw [if_neg c1, if_pos rfl]
          refine ⟨by unfold Own at hown; omega, by unfold Own at hown; rcases hown with h | h | h | h | h | h | h <;> first | exact h.2.2.2.2.2 | omega, _, T_text g1 hb1 q1, ?_⟩
          have := T_text g2 hb2 q2
          have e : i + (b0 ++ (wordOf 6 ++ (b1 ++ (quote a ++ (b2 ++ (quote b ++ [])))))).length = i + b0.length + (wordOf 6).length + b1.length + ((esc a ++ [34]).length + 1) + b2.length + ((esc b ++ [34]).length + 1) := by simp [quote]; omega
          rw [e]
          exact this
      · rw [if_neg c6] at hsp
        by_cases c5 : k = 5
        · rw [if_pos c5] at hsp
          subst c5
          cases hsp
          refine ⟨_, _, T_word hd1 hb0 k3 k2 (fun c hc => (hst c (by simpa using hc)).1), k1, by omega, ?_⟩
          rw [if_neg c1, if_neg c6, if_pos rfl]
          have hs : n = 0 ∧ a = [] ∧ b = [] ∧ ks = [] := by unfold Own at hown; rcases hown with h | h | h | h | h | h | h <;> first | exact h.2 | omega
          refine ⟨hs.1, hs.2.1, hs.2.2.1, hs.2.2.2, ?_⟩
          simp
          omega
        · rw [if_neg c5] at hsp
          obtain ⟨b1, w2, rfl, hb1, hsp⟩ := hsp
          cases hsp
          have hs : a = [] ∧ b = [] ∧ ks = [] ∧ 0 ≤ n ∧ n ≤ 1073741824 := by
            unfold Own at hown
            rcases hown with h | h | h | h | h | h | h
            · omega
            · omega
            · omega
            · omega
            · exact ⟨h.2.1, h.2.2.1, h.2.2.2.1, by omega, by omega⟩
            · exact ⟨h.2.1, h.2.2.1, h.2.2.2.1, by omega, by omega⟩
            · exact ⟨h.2.1, h.2.2.1, h.2.2.2.1, by omega, by omega⟩
          have g1 : s.drop (i + b0.length + (wordOf k).length) = b1 ++ (Lib.decDigits n.toNat ++ v) := by rw [hd2]; simp
          obtain ⟨l1, l2⟩ := dec_len n.toNat (by omega)
          refine ⟨_, _, T_word hd1 hb0 k3 k2 ?_, k1, by omega, ?_⟩
          · intro c hc
            cases b1 with
            | nil =>
              obtain ⟨d, x, hx⟩ := List.exists_cons_of_ne_nil (dec_ne n.toNat)
              rw [hx] at hc
              cases hc
              exact (digit_not (dec_all n.toNat c (by rw [hx]; exact List.mem_cons_self ..))).2.2
            | cons x b1 =>
              cases hc
              have := hb1 c (List.mem_cons_self ..)
              cases hl : letter c with
              | false => rfl
              | true => rw [(letter_not hl).1] at this; cases this
          · rw [if_neg c1, if_neg c6, if_neg c5]
            refine ⟨hs.1, hs.2.1, hs.2.2.1, Lib.decDigits n.toNat, ?_, ?_, by omega⟩
            · have := T_dig g1 hb1 (dec_all _) (dec_ne _) l1 l2 (fun c hc => (hst c hc).2)
              have e : i + (b0 ++ (wordOf k ++ (b1 ++ (Lib.decDigits n.toNat ++ [])))).length = i + b0.length + (wordOf k).length + b1.length + (Lib.decDigits n.toNat).length := by simp; omega
              rw [e]
              exact this
            · have := atoi_dec n.toNat (by omega)
              rw [this]
              congr 1
              omega

end Glw
