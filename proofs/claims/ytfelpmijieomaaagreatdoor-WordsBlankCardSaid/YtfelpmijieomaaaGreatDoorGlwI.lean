/- WordsBlank, by what its functions mean. -/
import Derived.Test.YtfelpmijieomaaaGreatDoorGlwH
set_option linter.unusedSimpArgs false
set_option linter.unusedVariables false
namespace Glw
open Go Go.Proofs Glx

/-- a text that is a policy's tokens, with blanks, is parsed as that policy -/
theorem parse_ok {r : Rule} (h1 : Fine r) (h2 : size r ≤ 20) (h3 : dep r ≤ 5) {u b : List UInt8} (hu : Sp (toks r) u) (hb : Blanks b) (hl : (u ++ b).length ≤ 2000) : L 10 [.s (bs (u ++ b))] = some (r.cells ++ [.i (-1), .i 0]) := by
  have hst : Stops b := by
    intro c hc
    cases b with
    | nil => cases hc
    | cons x b =>
      cases hc
      have := hb c (List.mem_cons_self ..)
      simp only [blank, Bool.or_eq_true, beq_iff_eq] at this
      rcases this with rfl | rfl <;> exact ⟨rfl, rfl⟩
  have hr := reads_of r h1 (by omega) (u ++ b) 0 u b rfl hu hst
  rw [Nat.zero_add] at hr
  obtain ⟨hj, hrule⟩ := rule_ok (s := u ++ b) (by omega) r 0 u.length (by omega) hr
  have hend : (lex (u ++ b) u.length).1 = 0 := by
    have e1 : runTo blank (u ++ b) u.length = u.length + b.length := runTo_of (u := b) (v := []) (by rw [List.drop_left, List.append_nil]) hb (fun c hc => by cases hc)
    unfold lex
    simp only [e1]
    rw [List.getElem?_eq_none (by simp)]
  have hright := right_eq h1 h2 h3
  refine l10 ?_ (by obtain ⟨k, n, a, b, ks⟩ := r; rfl)
  rw [fnDen_eq]
  obtain ⟨k, n, a, b', ks⟩ := r
  simp only [Rule.cells] at hright
  simp only [St, Rule.cells, List.cons_append, List.nil_append, hend] at hrule
  have hn := next_eq (u ++ b) [] 0 0 0 0 (by omega) (by omega)
  simp only [Int.natCast_zero] at hn
  generalize u ++ b = s at *
  simp (disch := omega) only [t10, z_leaf, z_jump, z_guard, z_letx, z_call, z_ite, z_join, grd_true, grd_pos, brn_true, brn_false, brn_pos, brn_neg, thn_some, lab_same, lab_other, rnd_same, rnd_other, Nat.reduceBEq, T_var, T_cell, T_blit, T_both, T_one, T_no, T_beq, T_eql, T_neq, T_lss, T_leq, T_gtr, T_geq, T_seql, T_sneq, T_slss, T_sgtr, bs_eq, dens, List.map_cons, List.map_nil, Ex.den, nth_zero, nth_succ, List.cons_append, List.nil_append, D.int_i, D.bool_b, D.str_s, D.rows_l, D.cells_r, compare_eql, compare_neq, compare_lss, compare_leq, compare_gtr, compare_geq, scompare_eql, scompare_neq, slit_bs, seq_dec, seqn_dec, bs_size, byteAt_bs, bs_append, scut_bs, eql_dec, bne_dec, or_dec, and_dec, not_dec, Bool.true_and, Bool.and_true, Bool.false_and, Bool.and_false, Bool.true_or, Bool.or_true, Bool.false_or, Bool.or_false, Bool.not_true, Bool.not_false, Int.toNat_natCast, add_i64, sub_i64, add_one, nat_add, decide_true, decide_false, if_true, if_false, true_and, and_true, false_and, and_false, true_or, or_true, false_or, or_false, not_true_eq_false, not_false_eq_true, eq_self, decide_eq_true_eq, Bool.and_eq_true, Bool.or_eq_true, Bool.not_eq_true', decide_eq_false_iff_not, Bool.false_eq_true, hn, hrule, hright, Rule.cells]

theorem parse_long {s : List UInt8} (h : s.length > 2000) : L 10 [.s (bs s)] = some [.i 0, .i 0, .s (bs []), .s (bs []), .l [], .i 0, .i 1] := by
  refine l10 ?_ rfl
  rw [fnDen_eq]
  simp (disch := omega) only [t10, z_leaf, z_jump, z_guard, z_letx, z_call, z_ite, z_join, grd_true, grd_pos, brn_true, brn_false, brn_pos, brn_neg, thn_some, lab_same, lab_other, rnd_same, rnd_other, Nat.reduceBEq, T_var, T_cell, T_blit, T_both, T_one, T_no, T_beq, T_eql, T_neq, T_lss, T_leq, T_gtr, T_geq, T_seql, T_sneq, T_slss, T_sgtr, bs_eq, dens, List.map_cons, List.map_nil, Ex.den, nth_zero, nth_succ, List.cons_append, List.nil_append, D.int_i, D.bool_b, D.str_s, D.rows_l, D.cells_r, compare_eql, compare_neq, compare_lss, compare_leq, compare_gtr, compare_geq, scompare_eql, scompare_neq, slit_bs, seq_dec, seqn_dec, bs_size, byteAt_bs, bs_append, scut_bs, eql_dec, bne_dec, or_dec, and_dec, not_dec, Bool.true_and, Bool.and_true, Bool.false_and, Bool.and_false, Bool.true_or, Bool.or_true, Bool.false_or, Bool.or_false, Bool.not_true, Bool.not_false, Int.toNat_natCast, add_i64, sub_i64, add_one, nat_add, decide_true, decide_false, if_true, if_false, true_and, and_true, false_and, and_false, true_or, or_true, false_or, or_false, not_true_eq_false, not_false_eq_true, eq_self, decide_eq_true_eq, Bool.and_eq_true, Bool.or_eq_true, Bool.not_eq_true', decide_eq_false_iff_not, Bool.false_eq_true]

/-- blanks that are put around signs and behind blanks -/
inductive Ins : List UInt8 → List UInt8 → Prop where
  | nil : Ins [] []
  | sign {c : UInt8} {w w' b1 b2 : List UInt8} : (c = 40 ∨ c = 41 ∨ c = 44) → Blanks b1 → Blanks b2 → Ins w w' → Ins (c :: w) (b1 ++ (c :: (b2 ++ w')))
  | space {w w' b : List UInt8} : Blanks b → Ins w w' → Ins (32 :: w) (32 :: (b ++ w'))
  | plain {c : UInt8} {w w' : List UInt8} : ¬ (c = 40 ∨ c = 41 ∨ c = 44) → c ≠ 32 → Ins w w' → Ins (c :: w) (c :: w')

theorem Blanks.app {a b : List UInt8} (ha : Blanks a) (hb : Blanks b) : Blanks (a ++ b) := fun c hc => (List.mem_append.1 hc).elim (ha c) (hb c)

theorem ins_blanks {b v x : List UInt8} (hb : Blanks b) (h : Ins (b ++ v) x) : ∃ b' y, x = b' ++ y ∧ Blanks b' ∧ Ins v y := by
  induction b generalizing x with
  | nil => exact ⟨[], x, rfl, (fun _ h => by cases h), h⟩
  | cons c b ih =>
    have hc := hb c (List.mem_cons_self ..)
    have hb' : Blanks b := fun d hd => hb d (List.mem_cons_of_mem _ hd)
    have cases32 : ∀ d, blank d = true → d = 32 ∨ d = 10 := fun d hd => by simpa [blank] using hd
    rw [List.cons_append] at h
    cases h with
    | sign h1 _ _ _ =>
      rcases cases32 c hc with rfl | rfl <;> simp at h1
    | space h1 h2 =>
      obtain ⟨b', y, rfl, h3, h4⟩ := ih hb' h2
      rename_i b0
      exact ⟨32 :: (b0 ++ b'), y, by simp, fun d hd => (List.mem_cons.1 hd).elim (fun e => by rw [e]; rfl) (fun e => (h1.app h3) d e), h4⟩
    | plain h1 h2 h3 =>
      obtain ⟨b', y, rfl, h4, h5⟩ := ih hb' h3
      exact ⟨c :: b', y, rfl, fun d hd => (List.mem_cons.1 hd).elim (fun e => by rw [e]; exact hc) (h4 d), h5⟩

/-- a token: a sign, or nothing that blanks are put into -/
def Whole (t : List UInt8) : Prop := (∃ c, (c = 40 ∨ c = 41 ∨ c = 44) ∧ t = [c]) ∨ (t ≠ [] ∧ ∀ c ∈ t, ¬ (c = 40 ∨ c = 41 ∨ c = 44) ∧ c ≠ 32)

theorem ins_plain {t v x : List UInt8} (ht : ∀ c ∈ t, ¬ (c = 40 ∨ c = 41 ∨ c = 44) ∧ c ≠ 32) (h : Ins (t ++ v) x) : ∃ y, x = t ++ y ∧ Ins v y := by
  induction t generalizing x with
  | nil => exact ⟨x, rfl, h⟩
  | cons c t ih =>
    obtain ⟨h1, h2⟩ := ht c (List.mem_cons_self ..)
    rw [List.cons_append] at h
    cases h with
    | sign h3 _ _ _ => exact absurd h3 h1
    | space _ _ => exact absurd rfl h2
    | plain _ _ h3 =>
      obtain ⟨y, rfl, h4⟩ := ih (fun d hd => ht d (List.mem_cons_of_mem _ hd)) h3
      exact ⟨y, rfl, h4⟩

theorem Sp_lead {t : List UInt8} {ts : List (List UInt8)} {b u : List UInt8} (hb : Blanks b) (h : Sp (t :: ts) u) : Sp (t :: ts) (b ++ u) := by
  obtain ⟨b0, v, rfl, h1, h2⟩ := h
  exact ⟨b ++ b0, v, by simp, hb.app h1, h2⟩

theorem ins_sp : ∀ (ts : List (List UInt8)), (∀ t ∈ ts, Whole t) → ∀ (w x : List UInt8), Sp ts w → Ins w x → ∃ u b, x = u ++ b ∧ Sp ts u ∧ Blanks b
  | [], _, w, x, hs, hi => by
    cases hs
    cases hi
    exact ⟨[], [], rfl, rfl, fun _ h => by cases h⟩
  | t :: ts, hw, w, x, hs, hi => by
    obtain ⟨b0, v, rfl, hb0, hv⟩ := hs
    obtain ⟨b0', y, rfl, hb0', hy⟩ := ins_blanks hb0 hi
    have rest : ∀ z, Ins v z → ∀ b2, Blanks b2 → ∃ u b, b2 ++ z = u ++ b ∧ Sp ts u ∧ Blanks b := by
      intro z hz b2 hb2
      obtain ⟨u, b, rfl, h1, h2⟩ := ins_sp ts (fun t ht => hw t (List.mem_cons_of_mem _ ht)) v z hv hz
      cases ts with
      | nil => cases h1; exact ⟨[], b2 ++ b, rfl, rfl, hb2.app h2⟩
      | cons t2 ts => exact ⟨b2 ++ u, b, by simp, Sp_lead hb2 h1, h2⟩
    rcases hw t (List.mem_cons_self ..) with ⟨c, hc, rfl⟩ | ⟨ht0, ht⟩
    · cases hy with
      | sign h1 h2 h3 h4 =>
        rename_i z b1 b2
        obtain ⟨u, b, e, h5, h6⟩ := rest z h4 b2 h3
        refine ⟨(b0' ++ b1) ++ ([c] ++ u), b, ?_, ⟨b0' ++ b1, u, rfl, hb0'.app h2, h5⟩, h6⟩
        simp only [List.append_assoc, List.cons_append, List.nil_append]
        rw [e]
      | space _ _ => simp at hc
      | plain h1 _ _ => exact absurd hc h1
    · obtain ⟨z, rfl, hz⟩ := ins_plain ht hy
      obtain ⟨u, b, e, h5, h6⟩ := rest z hz [] (fun _ h => by cases h)
      rw [List.nil_append] at e
      refine ⟨b0' ++ (t ++ u), b, ?_, ⟨b0', u, rfl, hb0', h5⟩, h6⟩
      rw [e]
      simp

mutual
/-- no attribute in it -/
def NoAttr : Rule → Prop
  | .mk k _ _ _ ks => k ≠ 6 ∧ NoAttrL ks
def NoAttrL : List Rule → Prop
  | [] => True
  | r :: l => NoAttr r ∧ NoAttrL l
end
theorem NoAttrL_mem : ∀ {ks : List Rule}, NoAttrL ks → ∀ r ∈ ks, NoAttr r
  | [], _, _, h => by cases h
  | x :: l, hf, r, h => by
    rw [NoAttrL] at hf
    rcases List.mem_cons.1 h with rfl | h
    · exact hf.1
    · exact NoAttrL_mem hf.2 r h

theorem plain_of {t : List UInt8} (h : ∀ c ∈ t, letter c = true ∨ digit c = true) : ∀ c ∈ t, ¬ (c = 40 ∨ c = 41 ∨ c = 44) ∧ c ≠ 32 := by
  intro c hc
  have := h c hc
  refine ⟨?_, ?_⟩
  · rintro (rfl | rfl | rfl) <;> rcases this with h | h <;> cases h
  · rintro rfl
    rcases this with h | h <;> cases h

theorem toks_whole (r : Rule) : Fine r → NoAttr r → ∀ t ∈ toks r, Whole t := by
  induction r using Rule.ind with
  | h k n a b ks ih =>
    intro hf hn t ht
    rw [Fine] at hf
    rw [NoAttr] at hn
    have hk : 1 ≤ k ∧ k ≤ 9 := by have := hf.1; unfold Own at this; omega
    obtain ⟨_, k2, k3⟩ := word_ok hk
    rw [toks] at ht
    rcases List.mem_cons.1 ht with rfl | ht
    · exact .inr ⟨k2, plain_of fun c hc => .inl (k3 c hc)⟩
    · have hkids : ∀ (l : List Rule), (∀ r ∈ l, ∀ t ∈ toks r, Whole t) → ∀ t ∈ toksL l, Whole t := by
        intro l
        induction l with
        | nil => intro _ t ht; rw [toksL] at ht; cases ht
        | cons r l ihl =>
          intro h t ht
          cases l with
          | nil => exact h r (List.mem_cons_self ..) t (by simpa only [toksL] using ht)
          | cons x l =>
            rw [toksL] at ht
            rcases List.mem_append.1 ht with ht | ht
            · exact h r (List.mem_cons_self ..) t ht
            · rcases List.mem_cons.1 ht with rfl | ht
              · exact .inl ⟨44, by simp, rfl⟩
              · exact ihl (fun y hy => h y (List.mem_cons_of_mem _ hy)) t ht
      split at ht
      · rcases List.mem_cons.1 ht with rfl | ht
        · exact .inl ⟨40, by simp, rfl⟩
        · rcases List.mem_append.1 ht with ht | ht
          · exact hkids ks (fun r hr => ih r hr (FineL_mem hf.2 r hr) (NoAttrL_mem hn.2 r hr)) t ht
          · rw [List.mem_singleton.1 ht]; exact .inl ⟨41, by simp, rfl⟩
      · split at ht
        · exact absurd (by assumption) hn.1
        · split at ht
          · cases ht
          · rw [List.mem_singleton.1 ht]
            exact .inr ⟨dec_ne _, plain_of fun c hc => .inr (dec_all _ c hc)⟩

theorem sp_show (r : Rule) : Sp (toks r) (shw r) := by
  have one : ∀ (t v : List UInt8) (ts : List (List UInt8)), Sp ts v → Sp (t :: ts) (t ++ v) := fun t v ts h => ⟨[], v, rfl, (fun _ h => by cases h), h⟩
  have sp1 : ∀ (t v : List UInt8) (ts : List (List UInt8)), Sp ts v → Sp (t :: ts) ([32] ++ (t ++ v)) := fun t v ts h => ⟨[32], v, rfl, (fun c h => by rw [List.mem_singleton.1 h]; rfl), h⟩
  induction r using Rule.ind with
  | h k n a b ks ih =>
    have hL : ∀ (l : List Rule), (∀ r ∈ l, Sp (toks r) (shw r)) → Sp (toksL l) (shwL l) ∧ ∀ r, Sp (toks r) (shw r) → Sp (toksL (r :: l)) (shw r ++ com l) := by
      intro l
      induction l with
      | nil =>
        intro _
        refine ⟨by rw [toksL, shwL]; rfl, fun r hr => ?_⟩
        simpa only [toksL, com, List.append_nil] using hr
      | cons x l ihl =>
        intro h
        obtain ⟨_, h2⟩ := ihl fun y hy => h y (List.mem_cons_of_mem _ hy)
        have h3 := h2 x (h x (List.mem_cons_self ..))
        refine ⟨by rw [shwL]; exact h3, fun r hr => ?_⟩
        rw [toksL, com]
        refine (Sp_append _ _ _).2 ⟨shw r, [44, 32] ++ (shw x ++ com l), rfl, hr, ?_⟩
        have : Sp (toksL (x :: l)) ([32] ++ (shw x ++ com l)) := by
          cases hq : toksL (x :: l) with
          | nil =>
            rw [hq] at h3
            obtain ⟨xk, xn, xa, xb, xks⟩ := x
            cases l with
            | nil => simp only [toksL, toks] at hq; cases hq
            | cons y l => simp only [toksL, toks] at hq; cases hq
          | cons t ts => rw [hq] at h3; exact Sp_lead (fun c h => by rw [List.mem_singleton.1 h]; rfl) h3
        exact one [44] _ _ this
    rw [toks, shw]
    refine one _ _ _ ?_
    by_cases c1 : k = 1 ∨ k = 2 ∨ k = 3
    · rw [if_pos c1, if_pos c1]
      refine one [40] _ _ ?_
      refine (Sp_append _ _ _).2 ⟨shwL ks, [41], rfl, (hL ks ih).1, ?_⟩
      exact one [41] [] [] rfl
    · rw [if_neg c1, if_neg c1]
      by_cases c6 : k = 6
      · subst c6
        rw [if_pos rfl, if_neg (by decide), if_pos rfl]
        refine sp1 _ _ _ ?_
        have := sp1 (quote b) [] [] rfl
        simpa using this
      · rw [if_neg c6]
        by_cases c5 : k = 5
        · rw [if_pos c5, if_pos c5]; rfl
        · rw [if_neg c5, if_neg c5, if_neg c6]
          have := sp1 (Lib.decDigits n.toNat) [] [] rfl
          simpa using this

theorem shwL_sub : ∀ (ks : List Rule), ∀ r ∈ ks, ∀ c ∈ shw r, c ∈ shwL ks ∧ c ∈ com ks
  | [], _, h => by cases h
  | x :: l, r, h => by
    intro c hc
    rw [shwL, com]
    rcases List.mem_cons.1 h with rfl | h
    · simp [hc]
    · have := (shwL_sub l r h c hc).2
      simp [this]

theorem noattr_of (r : Rule) : Fine r → (34 : UInt8) ∉ shw r → NoAttr r := by
  induction r using Rule.ind with
  | h k n a b ks ih =>
    intro hf h
    rw [Fine] at hf
    rw [shw] at h
    rw [NoAttr]
    by_cases c1 : k = 1 ∨ k = 2 ∨ k = 3
    · rw [if_pos c1] at h
      refine ⟨by omega, ?_⟩
      have key : ∀ l : List Rule, (∀ r ∈ l, NoAttr r) → NoAttrL l := by
        intro l
        induction l with
        | nil => intro _; rw [NoAttrL]; trivial
        | cons x l ihl => intro h; rw [NoAttrL]; exact ⟨h x (List.mem_cons_self ..), ihl fun y hy => h y (List.mem_cons_of_mem _ hy)⟩
      refine key ks fun r hr => ih r hr (FineL_mem hf.2 r hr) fun hc => h ?_
      have := (shwL_sub ks r hr _ hc).1
      simp [this]
    · rw [if_neg c1] at h
      have hks : ks = [] := by
        have := hf.1
        unfold Own at this
        rcases this with h | h | h | h | h | h | h
        · omega
        · omega
        · exact h.2.2.2.2
        · exact h.2.2.2.2.2
        · exact h.2.2.2.1
        · exact h.2.2.2.1
        · exact h.2.2.2.1
      subst hks
      refine ⟨?_, by rw [NoAttrL]; trivial⟩
      rintro rfl
      exact h (by simp [quote])

end Glw
