/- How the document writes a policy. -/
import Derived.Test.YtfelpmijieomaaaGreatDoorGlwG
set_option linter.unusedSimpArgs false
set_option linter.unusedVariables false
namespace Glw
open Go Go.Proofs Glx

theorem rem_nat (u : Nat) : arith .rem .i64 (u : Int) 10 = ((u % 10 : Nat) : Int) := rfl
theorem quo_nat (u : Nat) (h : u < 9223372036854775808) : arith .quo .i64 (u : Int) 10 = ((u / 10 : Nat) : Int) := by
  have : arith .quo .i64 (u : Int) 10 = IntKind.i64.wrap ((u / 10 : Nat) : Int) := rfl
  rw [this, wrap_of (by omega) (by omega)]
theorem digit_cut (d : Nat) (h : d < 10) : (([48, 49, 50, 51, 52, 53, 54, 55, 56, 57] : List UInt8).take (d + 1)).drop d = [UInt8.ofNat (48 + d)] := by
  have : d = 0 ∨ d = 1 ∨ d = 2 ∨ d = 3 ∨ d = 4 ∨ d = 5 ∨ d = 6 ∨ d = 7 ∨ d = 8 ∨ d = 9 := by omega
  rcases this with rfl | rfl | rfl | rfl | rfl | rfl | rfl | rfl | rfl | rfl <;> rfl

theorem dec_eq (u : Nat) (h : u < 1000000000000) : L 36 [.i u] = some [.s (bs (Lib.decDigits u))] := by
  induction u using Nat.strongRecOn with
  | _ u ih =>
    refine l36 ?_ rfl
    rw [fnDen_eq]
    have hm : u % 10 < 10 := Nat.mod_lt u (by decide)
    have hl : (([48, 49, 50, 51, 52, 53, 54, 55, 56, 57] : List UInt8).length : Int) = 10 := rfl
    by_cases hu : u < 10
    · rw [Lib.decDigits, dif_pos hu, Nat.mod_eq_of_lt hu] at *
      simp (disch := omega) only [t36, z_leaf, z_jump, z_guard, z_letx, z_call, z_ite, z_join, grd_true, grd_pos, brn_true, brn_false, brn_pos, brn_neg, thn_some, lab_same, lab_other, rnd_same, rnd_other, Nat.reduceBEq, T_var, T_cell, T_blit, T_both, T_one, T_no, T_beq, T_eql, T_neq, T_lss, T_leq, T_gtr, T_geq, T_seql, T_sneq, T_slss, T_sgtr, bs_eq, dens, List.map_cons, List.map_nil, Ex.den, nth_zero, nth_succ, List.cons_append, List.nil_append, D.int_i, D.bool_b, D.str_s, D.rows_l, D.cells_r, compare_eql, compare_neq, compare_lss, compare_leq, compare_gtr, compare_geq, scompare_eql, scompare_neq, slit_bs, seq_dec, seqn_dec, bs_size, byteAt_bs, bs_append, scut_bs, eql_dec, bne_dec, or_dec, and_dec, not_dec, Bool.true_and, Bool.and_true, Bool.false_and, Bool.and_false, Bool.true_or, Bool.or_true, Bool.false_or, Bool.or_false, Bool.not_true, Bool.not_false, Int.toNat_natCast, add_i64, sub_i64, add_one, nat_add, decide_true, decide_false, if_true, if_false, true_and, and_true, false_and, and_false, true_or, or_true, false_or, or_false, not_true_eq_false, not_false_eq_true, eq_self, decide_eq_true_eq, Bool.and_eq_true, Bool.or_eq_true, Bool.not_eq_true', decide_eq_false_iff_not, Bool.false_eq_true, rem_nat, hl, gt_iff_lt, digit_cut]
      rw [Nat.mod_eq_of_lt hu]
    · have hih := ih (u / 10) (by omega) (by omega)
      have hlen : (Lib.decDigits (u / 10)).length ≤ 12 := by
        have key : ∀ (k u : Nat), u < 10 ^ (k + 1) → Lib.nDigits u ≤ k + 1 := by
          intro k
          induction k with
          | zero => intro u hu; rw [Lib.nDigits_small (by simpa using hu)]; omega
          | succ k ih =>
            intro u hu
            by_cases h10 : u < 10
            · rw [Lib.nDigits_small h10]; omega
            · rw [Lib.nDigits_big h10]
              have := ih (u / 10) (by rw [Nat.pow_succ] at hu; omega)
              omega
        rw [Lib.decDigits_length]
        exact key 11 _ (by omega)
      have h1 : ([UInt8.ofNat (48 + u % 10)] : List UInt8).length = 1 := rfl
      simp (disch := omega) only [t36, z_leaf, z_jump, z_guard, z_letx, z_call, z_ite, z_join, grd_true, grd_pos, brn_true, brn_false, brn_pos, brn_neg, thn_some, lab_same, lab_other, rnd_same, rnd_other, Nat.reduceBEq, T_var, T_cell, T_blit, T_both, T_one, T_no, T_beq, T_eql, T_neq, T_lss, T_leq, T_gtr, T_geq, T_seql, T_sneq, T_slss, T_sgtr, bs_eq, dens, List.map_cons, List.map_nil, Ex.den, nth_zero, nth_succ, List.cons_append, List.nil_append, D.int_i, D.bool_b, D.str_s, D.rows_l, D.cells_r, compare_eql, compare_neq, compare_lss, compare_leq, compare_gtr, compare_geq, scompare_eql, scompare_neq, slit_bs, seq_dec, seqn_dec, bs_size, byteAt_bs, bs_append, scut_bs, eql_dec, bne_dec, or_dec, and_dec, not_dec, Bool.true_and, Bool.and_true, Bool.false_and, Bool.and_false, Bool.true_or, Bool.or_true, Bool.false_or, Bool.or_false, Bool.not_true, Bool.not_false, Int.toNat_natCast, add_i64, sub_i64, add_one, nat_add, decide_true, decide_false, if_true, if_false, true_and, and_true, false_and, and_false, true_or, or_true, false_or, or_false, not_true_eq_false, not_false_eq_true, eq_self, decide_eq_true_eq, Bool.and_eq_true, Bool.or_eq_true, Bool.not_eq_true', decide_eq_false_iff_not, Bool.false_eq_true, rem_nat, quo_nat, hl, gt_iff_lt, digit_cut, hih, h1]
      conv => rhs; rw [Lib.decDigits, dif_neg hu]

theorem esc_len (l : List UInt8) : (esc l).length ≤ 2 * l.length := by
  induction l with
  | nil => simp [esc]
  | cons c l ih => rw [esc]; split <;> simp <;> omega

theorem byte_cut {s : List UInt8} {i : Nat} (h : i < s.length) : (s.take (i + 1)).drop i = [s[i]] := by
  have : s.drop i = [s[i]] ++ s.drop (i + 1) := by rw [List.drop_eq_getElem_cons h]; rfl
  exact cut_of (u := [s[i]]) this

theorem refQuote_eq (s : List UInt8) (h : s.length < 1000) : L 35 [.s (bs s)] = some [.s (bs (quote s))] := by
  refine l35 ?_ rfl
  rw [fnDen_eq]
  unfold t35
  refine z_loop fun G hG => ?_
  have key : ∀ (n i : Nat) (out : List UInt8), s.length - i = n → i ≤ s.length → out.length ≤ 2 * i + 1 → G [.s (bs out), .i i] = some [.s (bs (out ++ (esc (s.drop i) ++ [34])))] := by
    intro n
    induction n with
    | zero =>
      intro i out h1 h2 h3
      have h0 : ([34] : List UInt8).length = 1 := rfl
      rw [hG, List.drop_eq_nil_of_le (by omega)]
      simp (disch := omega) only [z_leaf, z_jump, z_guard, z_letx, z_call, z_ite, z_join, grd_true, grd_pos, brn_true, brn_false, brn_pos, brn_neg, thn_some, lab_same, lab_other, rnd_same, rnd_other, Nat.reduceBEq, T_var, T_cell, T_blit, T_both, T_one, T_no, T_beq, T_eql, T_neq, T_lss, T_leq, T_gtr, T_geq, T_seql, T_sneq, T_slss, T_sgtr, bs_eq, dens, List.map_cons, List.map_nil, Ex.den, nth_zero, nth_succ, List.cons_append, List.nil_append, D.int_i, D.bool_b, D.str_s, D.rows_l, D.cells_r, compare_eql, compare_neq, compare_lss, compare_leq, compare_gtr, compare_geq, scompare_eql, scompare_neq, slit_bs, seq_dec, seqn_dec, bs_size, byteAt_bs, bs_append, scut_bs, eql_dec, bne_dec, or_dec, and_dec, not_dec, Bool.true_and, Bool.and_true, Bool.false_and, Bool.and_false, Bool.true_or, Bool.or_true, Bool.false_or, Bool.or_false, Bool.not_true, Bool.not_false, Int.toNat_natCast, add_i64, sub_i64, add_one, nat_add, decide_true, decide_false, if_true, if_false, true_and, and_true, false_and, and_false, true_or, or_true, false_or, or_false, not_true_eq_false, not_false_eq_true, eq_self, decide_eq_true_eq, Bool.and_eq_true, Bool.or_eq_true, Bool.not_eq_true', decide_eq_false_iff_not, Bool.false_eq_true, esc]
    | succ n ih =>
      intro i out h1 h2 h3
      have h4 : i < s.length := by omega
      obtain ⟨c, hg, hg2⟩ : ∃ c, s.getD i 0 = c ∧ s[i] = c := ⟨_, getD_lt h4, rfl⟩
      have hcut := byte_cut h4
      rw [hg2] at hcut
      have h0 : ([92] : List UInt8).length = 1 := rfl
      have h01 : ([c] : List UInt8).length = 1 := rfl
      have hlen : (out ++ [92]).length = out.length + 1 := by simp
      rw [hG, List.drop_eq_getElem_cons h4, hg2, esc]
      simp (disch := omega) only [z_leaf, z_jump, z_guard, z_letx, z_call, z_ite, z_join, grd_true, grd_pos, brn_true, brn_false, brn_pos, brn_neg, thn_some, lab_same, lab_other, rnd_same, rnd_other, Nat.reduceBEq, T_var, T_cell, T_blit, T_both, T_one, T_no, T_beq, T_eql, T_neq, T_lss, T_leq, T_gtr, T_geq, T_seql, T_sneq, T_slss, T_sgtr, bs_eq, dens, List.map_cons, List.map_nil, Ex.den, nth_zero, nth_succ, List.cons_append, List.nil_append, D.int_i, D.bool_b, D.str_s, D.rows_l, D.cells_r, compare_eql, compare_neq, compare_lss, compare_leq, compare_gtr, compare_geq, scompare_eql, scompare_neq, slit_bs, seq_dec, seqn_dec, bs_size, byteAt_bs, bs_append, scut_bs, eql_dec, bne_dec, or_dec, and_dec, not_dec, Bool.true_and, Bool.and_true, Bool.false_and, Bool.and_false, Bool.true_or, Bool.or_true, Bool.false_or, Bool.or_false, Bool.not_true, Bool.not_false, Int.toNat_natCast, add_i64, sub_i64, add_one, nat_add, decide_true, decide_false, if_true, if_false, true_and, and_true, false_and, and_false, true_or, or_true, false_or, or_false, not_true_eq_false, not_false_eq_true, eq_self, decide_eq_true_eq, Bool.and_eq_true, Bool.or_eq_true, Bool.not_eq_true', decide_eq_false_iff_not, Bool.false_eq_true, hg, c34, c92]
      refine brn_dec (fun hc => ?_) fun hc => ?_
      · simp (disch := omega) only [z_leaf, z_jump, z_guard, z_letx, z_call, z_ite, z_join, grd_true, grd_pos, brn_true, brn_false, brn_pos, brn_neg, thn_some, lab_same, lab_other, rnd_same, rnd_other, Nat.reduceBEq, T_var, T_cell, T_blit, T_both, T_one, T_no, T_beq, T_eql, T_neq, T_lss, T_leq, T_gtr, T_geq, T_seql, T_sneq, T_slss, T_sgtr, bs_eq, dens, List.map_cons, List.map_nil, Ex.den, nth_zero, nth_succ, List.cons_append, List.nil_append, D.int_i, D.bool_b, D.str_s, D.rows_l, D.cells_r, compare_eql, compare_neq, compare_lss, compare_leq, compare_gtr, compare_geq, scompare_eql, scompare_neq, slit_bs, seq_dec, seqn_dec, bs_size, byteAt_bs, bs_append, scut_bs, eql_dec, bne_dec, or_dec, and_dec, not_dec, Bool.true_and, Bool.and_true, Bool.false_and, Bool.and_false, Bool.true_or, Bool.or_true, Bool.false_or, Bool.or_false, Bool.not_true, Bool.not_false, Int.toNat_natCast, add_i64, sub_i64, add_one, nat_add, decide_true, decide_false, if_true, if_false, true_and, and_true, false_and, and_false, true_or, or_true, false_or, or_false, not_true_eq_false, not_false_eq_true, eq_self, decide_eq_true_eq, Bool.and_eq_true, Bool.or_eq_true, Bool.not_eq_true', decide_eq_false_iff_not, Bool.false_eq_true, hcut, if_pos hc]
        rw [ih (i + 1) _ (by omega) (by omega) (by simp; omega)]
        simp
      · simp (disch := omega) only [z_leaf, z_jump, z_guard, z_letx, z_call, z_ite, z_join, grd_true, grd_pos, brn_true, brn_false, brn_pos, brn_neg, thn_some, lab_same, lab_other, rnd_same, rnd_other, Nat.reduceBEq, T_var, T_cell, T_blit, T_both, T_one, T_no, T_beq, T_eql, T_neq, T_lss, T_leq, T_gtr, T_geq, T_seql, T_sneq, T_slss, T_sgtr, bs_eq, dens, List.map_cons, List.map_nil, Ex.den, nth_zero, nth_succ, List.cons_append, List.nil_append, D.int_i, D.bool_b, D.str_s, D.rows_l, D.cells_r, compare_eql, compare_neq, compare_lss, compare_leq, compare_gtr, compare_geq, scompare_eql, scompare_neq, slit_bs, seq_dec, seqn_dec, bs_size, byteAt_bs, bs_append, scut_bs, eql_dec, bne_dec, or_dec, and_dec, not_dec, Bool.true_and, Bool.and_true, Bool.false_and, Bool.and_false, Bool.true_or, Bool.or_true, Bool.false_or, Bool.or_false, Bool.not_true, Bool.not_false, Int.toNat_natCast, add_i64, sub_i64, add_one, nat_add, decide_true, decide_false, if_true, if_false, true_and, and_true, false_and, and_false, true_or, or_true, false_or, or_false, not_true_eq_false, not_false_eq_true, eq_self, decide_eq_true_eq, Bool.and_eq_true, Bool.or_eq_true, Bool.not_eq_true', decide_eq_false_iff_not, Bool.false_eq_true, hcut, if_neg hc]
        rw [ih (i + 1) _ (by omega) (by omega) (by simp; omega)]
        simp
  have := key _ 0 [34] rfl (by omega) (by simp)
  simp (disch := omega) only [z_leaf, z_jump, z_guard, z_letx, z_call, z_ite, z_join, grd_true, grd_pos, brn_true, brn_false, brn_pos, brn_neg, thn_some, lab_same, lab_other, rnd_same, rnd_other, Nat.reduceBEq, T_var, T_cell, T_blit, T_both, T_one, T_no, T_beq, T_eql, T_neq, T_lss, T_leq, T_gtr, T_geq, T_seql, T_sneq, T_slss, T_sgtr, bs_eq, dens, List.map_cons, List.map_nil, Ex.den, nth_zero, nth_succ, List.cons_append, List.nil_append, D.int_i, D.bool_b, D.str_s, D.rows_l, D.cells_r, compare_eql, compare_neq, compare_lss, compare_leq, compare_gtr, compare_geq, scompare_eql, scompare_neq, slit_bs, seq_dec, seqn_dec, bs_size, byteAt_bs, bs_append, scut_bs, eql_dec, bne_dec, or_dec, and_dec, not_dec, Bool.true_and, Bool.and_true, Bool.false_and, Bool.and_false, Bool.true_or, Bool.or_true, Bool.false_or, Bool.or_false, Bool.not_true, Bool.not_false, Int.toNat_natCast, add_i64, sub_i64, add_one, nat_add, decide_true, decide_false, if_true, if_false, true_and, and_true, false_and, and_false, true_or, or_true, false_or, or_false, not_true_eq_false, not_false_eq_true, eq_self, decide_eq_true_eq, Bool.and_eq_true, Bool.or_eq_true, Bool.not_eq_true', decide_eq_false_iff_not, Bool.false_eq_true]
  exact this

theorem ite_len {c : Prop} [Decidable c] {a b : List UInt8} (ha : a.length ≤ 4) (hb : b.length ≤ 4) : (if c then a else b).length ≤ 4 := by split <;> assumption
theorem word_len (k : Int) : (wordOf k).length ≤ 4 := by
  unfold wordOf
  repeat' apply ite_len
  all_goals decide

mutual
/-- a policy as a text -/
def shw : Rule → List UInt8
  | .mk k n a b ks => wordOf k ++ (if k = 1 ∨ k = 2 ∨ k = 3 then [40] ++ (shwL ks ++ [41]) else if k = 5 then [] else if k = 6 then [32] ++ (quote a ++ ([32] ++ quote b)) else [32] ++ Lib.decDigits n.toNat)
def shwL : List Rule → List UInt8
  | [] => []
  | r :: l => shw r ++ com l
def com : List Rule → List UInt8
  | [] => []
  | r :: l => [44, 32] ++ (shw r ++ com l)
end

theorem shw_len (r : Rule) : Fine r → (shw r).length + 2 ≤ 100 * size r := by
  induction r using Rule.ind with
  | h k n a b ks ih =>
    intro hf
    rw [Fine] at hf
    obtain ⟨ho, hfl⟩ := hf
    have hw := word_len k
    have hcom : ∀ l : List Rule, (∀ r ∈ l, (shw r).length + 2 ≤ 100 * size r) → (com l).length ≤ 100 * sizeL l := by
      intro l
      induction l with
      | nil => intro _; simp [com]
      | cons r l ihl =>
        intro h
        have h1 := h r (List.mem_cons_self ..)
        have h2 := ihl fun x hx => h x (List.mem_cons_of_mem _ hx)
        rw [com, sizeL]
        simp
        omega
    have hks : ∀ r ∈ ks, (shw r).length + 2 ≤ 100 * size r := fun r hr => ih r hr (FineL_mem hfl r hr)
    have hl : (shwL ks).length ≤ 100 * sizeL ks := by
      cases ks with
      | nil => simp [shwL]
      | cons r l =>
        have h1 := hks r (List.mem_cons_self ..)
        have h2 := hcom l fun x hx => hks x (List.mem_cons_of_mem _ hx)
        rw [shwL, sizeL]
        simp
        omega
    rw [shw, size]
    by_cases c1 : k = 1 ∨ k = 2 ∨ k = 3
    · simp only [if_pos c1, List.length_append, List.length_singleton]; omega
    · rw [if_neg c1]
      by_cases c5 : k = 5
      · simp only [if_pos c5, List.length_append, List.length_nil]; omega
      · rw [if_neg c5]
        by_cases c6 : k = 6
        · have h1 := esc_len a
          have h2 := esc_len b
          have : a.length ≤ 16 ∧ b.length ≤ 16 := by unfold Own at ho; omega
          simp only [if_pos c6, List.length_append, List.length_singleton, quote, List.length_cons, List.length_nil]
          omega
        · have : (Lib.decDigits n.toNat).length ≤ 10 := (dec_len n.toNat (by unfold Own at ho; omega)).1
          simp only [if_neg c6, List.length_append, List.length_singleton]
          omega

def wordRows : List (List D) := [[.s (bs [])], [.s (bs [97, 108, 108])], [.s (bs [97, 110, 121])], [.s (bs [110, 111, 116])], [.s (bs [115, 108, 111, 119])], [.s (bs [101, 114, 114])], [.s (bs [97, 116, 116, 114])], [.s (bs [109, 97, 110, 121])], [.s (bs [104, 97, 115, 104])], [.s (bs [114, 97, 116, 101])]]
theorem words_eq : L 34 [] = some [.l wordRows] := l34 rfl rfl
theorem words_at {k : Int} (h : 1 ≤ k ∧ k ≤ 9) : cellAt wordRows k 0 = .s (bs (wordOf k)) := by
  have : k = 1 ∨ k = 2 ∨ k = 3 ∨ k = 4 ∨ k = 5 ∨ k = 6 ∨ k = 7 ∨ k = 8 ∨ k = 9 := by omega
  rcases this with rfl | rfl | rfl | rfl | rfl | rfl | rfl | rfl | rfl <;> rfl

theorem show_eq (r : Rule) : Fine r → size r ≤ 1000 → L 22 r.cells = some [.s (bs (shw r))] := by
  induction r using Rule.ind with
  | h k n a b ks ih =>
    intro hf hs
    have hlen := shw_len _ hf
    rw [Fine] at hf
    obtain ⟨ho, hfl⟩ := hf
    have hk : 1 ≤ k ∧ k ≤ 9 := by unfold Own at ho; omega
    have hw := word_len k
    have hat0 := words_at hk
    have hrl : wordRows.length = 10 := rfl
    have l32 : ([32] : List UInt8).length = 1 := rfl
    have l40 : ([40] : List UInt8).length = 1 := rfl
    have l41 : ([41] : List UInt8).length = 1 := rfl
    have l4432 : ([44, 32] : List UInt8).length = 2 := rfl
    rw [size] at hs hlen
    refine l22 ?_ rfl
    rw [fnDen_eq]
    by_cases c1 : k = 1 ∨ k = 2 ∨ k = 3
    · have key0 : (shwL ks).length + 10 ≤ 200000 := by
        rw [shw, if_pos c1] at hlen
        simp only [List.length_append, List.length_singleton] at hlen
        omega
      have hcomb : ∀ l : List Rule, (∀ r ∈ l, Fine r) → (com l).length ≤ 100 * sizeL l := by
        intro l
        induction l with
        | nil => intro _; simp [com]
        | cons r l ihl =>
          intro h
          have h1 := shw_len r (h r (List.mem_cons_self ..))
          have h2 := ihl fun x hx => h x (List.mem_cons_of_mem _ hx)
          rw [com, sizeL]
          simp
          omega
      have c7 : k = 1 ∨ k = 2 ∨ k = 3 := c1
      have main : ∀ G : List D → Option (List D), (∀ st, G st = Tm.den L (fun us e => some (List.map (Ex.den e) us)) (.ite (.cmp .lss (.var 8) (.len (.var 4)))
          (.join 17
            (.ite (.cmp .gtr (.var 8) (.ilit 0))
              (.guard (.cmp .leq (.slen (.var 7)) (.ilit 1152921504606846976)) <|
              (.guard (.cmp .leq (.slen (.slit [44, 32])) (.ilit 1152921504606846976)) <|
              (.jump 17 [(.scat (.var 7) (.slit [44, 32]))])))
              (.jump 17 [(.var 7)]))
            (.guard (.cmp .leq (.ilit 0) (.var 8)) <|
            (.guard (.cmp .lss (.var 8) (.len (.var 4))) <|
            (.call 22 [(.cell (.var 4) (.var 8) 0), (.cell (.var 4) (.var 8) 1), (.cell (.var 4) (.var 8) 2), (.cell (.var 4) (.var 8) 3), (.cell (.var 4) (.var 8) 4)] <|
            (.guard (.cmp .leq (.slen (.var 9)) (.ilit 1152921504606846976)) <|
            (.guard (.cmp .leq (.slen (.var 10)) (.ilit 1152921504606846976)) <|
            (.jump 11 [(.scat (.var 9) (.var 10)), (.bin .add .i64 (.var 8) (.ilit 1))])))))))
          (.guard (.cmp .leq (.slen (.var 7)) (.ilit 1152921504606846976)) <|
          (.guard (.cmp .leq (.slen (.slit [41])) (.ilit 1152921504606846976)) <|
          (.leaf [(.scat (.var 7) (.slit [41]))])))) (rnd 11 G fun _ _ => none) ([.i k, .i n, .s (bs a), .s (bs b), .l (rows ks), .l wordRows, .b true] ++ st)) →
          ∀ (suf pre : List Rule) (acc : List UInt8), ks = pre ++ suf → acc.length + 100 * sizeL suf ≤ 200000 → G [.s (bs acc), .i (pre.length : Nat)] = some [.s (bs (acc ++ ((if pre = [] then shwL suf else com suf) ++ [41])))] := by
        intro G hG suf
        induction suf with
        | nil =>
          intro pre acc e h1
          have hl : (((rows ks).length : Nat) : Int) = pre.length := by rw [rows_length, e, List.append_nil]
          rw [sizeL] at h1
          rw [hG]
          simp (disch := omega) only [z_leaf, z_jump, z_guard, z_letx, z_call, z_ite, z_join, grd_true, grd_pos, brn_true, brn_false, brn_pos, brn_neg, thn_some, lab_same, lab_other, rnd_same, rnd_other, Nat.reduceBEq, T_var, T_cell, T_blit, T_both, T_one, T_no, T_beq, T_eql, T_neq, T_lss, T_leq, T_gtr, T_geq, T_seql, T_sneq, T_slss, T_sgtr, bs_eq, dens, List.map_cons, List.map_nil, Ex.den, nth_zero, nth_succ, List.cons_append, List.nil_append, D.int_i, D.bool_b, D.str_s, D.rows_l, D.cells_r, compare_eql, compare_neq, compare_lss, compare_leq, compare_gtr, compare_geq, scompare_eql, scompare_neq, slit_bs, seq_dec, seqn_dec, bs_size, byteAt_bs, bs_append, scut_bs, eql_dec, bne_dec, or_dec, and_dec, not_dec, Bool.true_and, Bool.and_true, Bool.false_and, Bool.and_false, Bool.true_or, Bool.or_true, Bool.false_or, Bool.or_false, Bool.not_true, Bool.not_false, Int.toNat_natCast, add_i64, sub_i64, add_one, nat_add, decide_true, decide_false, if_true, if_false, true_and, and_true, false_and, and_false, true_or, or_true, false_or, or_false, not_true_eq_false, not_false_eq_true, eq_self, decide_eq_true_eq, Bool.and_eq_true, Bool.or_eq_true, Bool.not_eq_true', decide_eq_false_iff_not, Bool.false_eq_true, hl]
          split <;> simp [shwL, com]
        | cons r suf ihs =>
          intro pre acc e h1
          have hat : (rows ks).getD pre.length [] = r.cells := by rw [e]; exact rows_at pre suf r
          have hl : (((rows ks).length : Nat) : Int) = (pre.length : Int) + 1 + (suf.length : Int) := by rw [e]; exact rows_app_len pre suf r
          have hmem : r ∈ ks := by rw [e]; simp
          have hsz := sizeL_mem r hmem
          have hln := sizeL_len ks
          have hkl : ks.length = pre.length + 1 + suf.length := by rw [e, List.length_append, List.length_cons]; omega
          have q := ih r hmem (FineL_mem hfl r hmem) (by omega)
          have hq := shw_len r (FineL_mem hfl r hmem)
          rw [sizeL] at h1
          have hne : ¬ (pre ++ [r] = []) := by simp
          by_cases hp : pre = []
          · subst hp
            have g := ihs [r] (acc ++ shw r) (by rw [e]; rfl) (by simp; omega)
            rw [if_neg (by simp)] at g
            rw [if_pos rfl, shwL]
            obtain ⟨rk, rn, ra, rb, rks⟩ := r
            simp only [Rule.cells] at q hat
            generalize shw (Rule.mk rk rn ra rb rks) = sh at *
            rw [hG]
            simp only [List.length_nil] at hl hat ⊢
            simp (disch := omega) only [z_leaf, z_jump, z_guard, z_letx, z_call, z_ite, z_join, grd_true, grd_pos, brn_true, brn_false, brn_pos, brn_neg, thn_some, lab_same, lab_other, rnd_same, rnd_other, Nat.reduceBEq, T_var, T_cell, T_blit, T_both, T_one, T_no, T_beq, T_eql, T_neq, T_lss, T_leq, T_gtr, T_geq, T_seql, T_sneq, T_slss, T_sgtr, bs_eq, dens, List.map_cons, List.map_nil, Ex.den, nth_zero, nth_succ, List.cons_append, List.nil_append, D.int_i, D.bool_b, D.str_s, D.rows_l, D.cells_r, compare_eql, compare_neq, compare_lss, compare_leq, compare_gtr, compare_geq, scompare_eql, scompare_neq, slit_bs, seq_dec, seqn_dec, bs_size, byteAt_bs, bs_append, scut_bs, eql_dec, bne_dec, or_dec, and_dec, not_dec, Bool.true_and, Bool.and_true, Bool.false_and, Bool.and_false, Bool.true_or, Bool.or_true, Bool.false_or, Bool.or_false, Bool.not_true, Bool.not_false, Int.toNat_natCast, add_i64, sub_i64, add_one, nat_add, decide_true, decide_false, if_true, if_false, true_and, and_true, false_and, and_false, true_or, or_true, false_or, or_false, not_true_eq_false, not_false_eq_true, eq_self, decide_eq_true_eq, Bool.and_eq_true, Bool.or_eq_true, Bool.not_eq_true', decide_eq_false_iff_not, Bool.false_eq_true, gt_iff_lt, hl, hat, cell_at, q]
            simpa using g
          · have hp0 : 0 < pre.length := List.length_pos_iff.2 hp
            have g := ihs (pre ++ [r]) (acc ++ [44, 32] ++ shw r) (by rw [e]; simp) (by simp; omega)
            rw [if_neg hne] at g
            rw [if_neg hp, com]
            obtain ⟨rk, rn, ra, rb, rks⟩ := r
            simp only [Rule.cells] at q hat
            generalize shw (Rule.mk rk rn ra rb rks) = sh at *
            have hll : (acc ++ [44, 32]).length = acc.length + 2 := by simp
            rw [hG]
            simp (disch := omega) only [z_leaf, z_jump, z_guard, z_letx, z_call, z_ite, z_join, grd_true, grd_pos, brn_true, brn_false, brn_pos, brn_neg, thn_some, lab_same, lab_other, rnd_same, rnd_other, Nat.reduceBEq, T_var, T_cell, T_blit, T_both, T_one, T_no, T_beq, T_eql, T_neq, T_lss, T_leq, T_gtr, T_geq, T_seql, T_sneq, T_slss, T_sgtr, bs_eq, dens, List.map_cons, List.map_nil, Ex.den, nth_zero, nth_succ, List.cons_append, List.nil_append, D.int_i, D.bool_b, D.str_s, D.rows_l, D.cells_r, compare_eql, compare_neq, compare_lss, compare_leq, compare_gtr, compare_geq, scompare_eql, scompare_neq, slit_bs, seq_dec, seqn_dec, bs_size, byteAt_bs, bs_append, scut_bs, eql_dec, bne_dec, or_dec, and_dec, not_dec, Bool.true_and, Bool.and_true, Bool.false_and, Bool.and_false, Bool.true_or, Bool.or_true, Bool.false_or, Bool.or_false, Bool.not_true, Bool.not_false, Int.toNat_natCast, add_i64, sub_i64, add_one, nat_add, decide_true, decide_false, if_true, if_false, true_and, and_true, false_and, and_false, true_or, or_true, false_or, or_false, not_true_eq_false, not_false_eq_true, eq_self, decide_eq_true_eq, Bool.and_eq_true, Bool.or_eq_true, Bool.not_eq_true', decide_eq_false_iff_not, Bool.false_eq_true, gt_iff_lt, hl, hat, cell_at, q]
            simpa using g
      rw [shw, if_pos c1]
      have hszb : (wordOf k ++ [40]).length = (wordOf k).length + 1 := by simp
      rcases c7 with rfl | rfl | rfl
      all_goals
        simp (disch := omega) only [t22, Rule.cells, z_leaf, z_jump, z_guard, z_letx, z_call, z_ite, z_join, grd_true, grd_pos, brn_true, brn_false, brn_pos, brn_neg, thn_some, lab_same, lab_other, rnd_same, rnd_other, Nat.reduceBEq, T_var, T_cell, T_blit, T_both, T_one, T_no, T_beq, T_eql, T_neq, T_lss, T_leq, T_gtr, T_geq, T_seql, T_sneq, T_slss, T_sgtr, bs_eq, dens, List.map_cons, List.map_nil, Ex.den, nth_zero, nth_succ, List.cons_append, List.nil_append, D.int_i, D.bool_b, D.str_s, D.rows_l, D.cells_r, compare_eql, compare_neq, compare_lss, compare_leq, compare_gtr, compare_geq, scompare_eql, scompare_neq, slit_bs, seq_dec, seqn_dec, bs_size, byteAt_bs, bs_append, scut_bs, eql_dec, bne_dec, or_dec, and_dec, not_dec, Bool.true_and, Bool.and_true, Bool.false_and, Bool.and_false, Bool.true_or, Bool.or_true, Bool.false_or, Bool.or_false, Bool.not_true, Bool.not_false, Int.toNat_natCast, add_i64, sub_i64, add_one, nat_add, decide_true, decide_false, if_true, if_false, true_and, and_true, false_and, and_false, true_or, or_true, false_or, or_false, not_true_eq_false, not_false_eq_true, eq_self, decide_eq_true_eq, Bool.and_eq_true, Bool.or_eq_true, Bool.not_eq_true', decide_eq_false_iff_not, Bool.false_eq_true, words_eq, hrl, hat0]
        refine z_loop fun G hG => ?_
        have := main G hG ks [] _ rfl (by rw [hszb]; omega)
        simp (disch := omega) only [z_leaf, z_jump, z_guard, z_letx, z_call, z_ite, z_join, grd_true, grd_pos, brn_true, brn_false, brn_pos, brn_neg, thn_some, lab_same, lab_other, rnd_same, rnd_other, Nat.reduceBEq, T_var, T_cell, T_blit, T_both, T_one, T_no, T_beq, T_eql, T_neq, T_lss, T_leq, T_gtr, T_geq, T_seql, T_sneq, T_slss, T_sgtr, bs_eq, dens, List.map_cons, List.map_nil, Ex.den, nth_zero, nth_succ, List.cons_append, List.nil_append, D.int_i, D.bool_b, D.str_s, D.rows_l, D.cells_r, compare_eql, compare_neq, compare_lss, compare_leq, compare_gtr, compare_geq, scompare_eql, scompare_neq, slit_bs, seq_dec, seqn_dec, bs_size, byteAt_bs, bs_append, scut_bs, eql_dec, bne_dec, or_dec, and_dec, not_dec, Bool.true_and, Bool.and_true, Bool.false_and, Bool.and_false, Bool.true_or, Bool.or_true, Bool.false_or, Bool.or_false, Bool.not_true, Bool.not_false, Int.toNat_natCast, add_i64, sub_i64, add_one, nat_add, decide_true, decide_false, if_true, if_false, true_and, and_true, false_and, and_false, true_or, or_true, false_or, or_false, not_true_eq_false, not_false_eq_true, eq_self, decide_eq_true_eq, Bool.and_eq_true, Bool.or_eq_true, Bool.not_eq_true', decide_eq_false_iff_not, Bool.false_eq_true]
        refine this.trans ?_
        simp
    · by_cases c5 : k = 5
      · subst c5
        rw [shw, if_neg c1, if_pos rfl, List.append_nil]
        simp (disch := omega) only [t22, Rule.cells, z_leaf, z_jump, z_guard, z_letx, z_call, z_ite, z_join, grd_true, grd_pos, brn_true, brn_false, brn_pos, brn_neg, thn_some, lab_same, lab_other, rnd_same, rnd_other, Nat.reduceBEq, T_var, T_cell, T_blit, T_both, T_one, T_no, T_beq, T_eql, T_neq, T_lss, T_leq, T_gtr, T_geq, T_seql, T_sneq, T_slss, T_sgtr, bs_eq, dens, List.map_cons, List.map_nil, Ex.den, nth_zero, nth_succ, List.cons_append, List.nil_append, D.int_i, D.bool_b, D.str_s, D.rows_l, D.cells_r, compare_eql, compare_neq, compare_lss, compare_leq, compare_gtr, compare_geq, scompare_eql, scompare_neq, slit_bs, seq_dec, seqn_dec, bs_size, byteAt_bs, bs_append, scut_bs, eql_dec, bne_dec, or_dec, and_dec, not_dec, Bool.true_and, Bool.and_true, Bool.false_and, Bool.and_false, Bool.true_or, Bool.or_true, Bool.false_or, Bool.or_false, Bool.not_true, Bool.not_false, Int.toNat_natCast, add_i64, sub_i64, add_one, nat_add, decide_true, decide_false, if_true, if_false, true_and, and_true, false_and, and_false, true_or, or_true, false_or, or_false, not_true_eq_false, not_false_eq_true, eq_self, decide_eq_true_eq, Bool.and_eq_true, Bool.or_eq_true, Bool.not_eq_true', decide_eq_false_iff_not, Bool.false_eq_true, words_eq, hrl, hat0]
      · by_cases c6 : k = 6
        · subst c6
          have h16 : a.length ≤ 16 ∧ b.length ≤ 16 := by unfold Own at ho; omega
          have e1 := esc_len a
          have e2 := esc_len b
          have e3 : (quote a).length = (esc a).length + 2 := by simp [quote]
          have e4 : (quote b).length = (esc b).length + 2 := by simp [quote]
          rw [shw, if_neg c1, if_neg c5, if_pos rfl]
          simp (disch := first | omega | (simp only [List.length_append, List.length_cons, List.length_nil]; omega)) only [t22, Rule.cells, z_leaf, z_jump, z_guard, z_letx, z_call, z_ite, z_join, grd_true, grd_pos, brn_true, brn_false, brn_pos, brn_neg, thn_some, lab_same, lab_other, rnd_same, rnd_other, Nat.reduceBEq, T_var, T_cell, T_blit, T_both, T_one, T_no, T_beq, T_eql, T_neq, T_lss, T_leq, T_gtr, T_geq, T_seql, T_sneq, T_slss, T_sgtr, bs_eq, dens, List.map_cons, List.map_nil, Ex.den, nth_zero, nth_succ, List.cons_append, List.nil_append, D.int_i, D.bool_b, D.str_s, D.rows_l, D.cells_r, compare_eql, compare_neq, compare_lss, compare_leq, compare_gtr, compare_geq, scompare_eql, scompare_neq, slit_bs, seq_dec, seqn_dec, bs_size, byteAt_bs, bs_append, scut_bs, eql_dec, bne_dec, or_dec, and_dec, not_dec, Bool.true_and, Bool.and_true, Bool.false_and, Bool.and_false, Bool.true_or, Bool.or_true, Bool.false_or, Bool.or_false, Bool.not_true, Bool.not_false, Int.toNat_natCast, add_i64, sub_i64, add_one, nat_add, decide_true, decide_false, if_true, if_false, true_and, and_true, false_and, and_false, true_or, or_true, false_or, or_false, not_true_eq_false, not_false_eq_true, eq_self, decide_eq_true_eq, Bool.and_eq_true, Bool.or_eq_true, Bool.not_eq_true', decide_eq_false_iff_not, Bool.false_eq_true, words_eq, hrl, hat0, refQuote_eq, List.append_assoc]
        · have hn : 0 ≤ n ∧ n ≤ 1073741824 := by unfold Own at ho; omega
          obtain ⟨u, rfl⟩ : ∃ u : Nat, n = u := ⟨n.toNat, by omega⟩
          have hd := (dec_len u (by omega)).1
          rw [shw, if_neg c1, if_neg c5, if_neg c6]
          simp (disch := first | omega | (simp only [List.length_append, List.length_cons, List.length_nil]; omega)) only [t22, Rule.cells, z_leaf, z_jump, z_guard, z_letx, z_call, z_ite, z_join, grd_true, grd_pos, brn_true, brn_false, brn_pos, brn_neg, thn_some, lab_same, lab_other, rnd_same, rnd_other, Nat.reduceBEq, T_var, T_cell, T_blit, T_both, T_one, T_no, T_beq, T_eql, T_neq, T_lss, T_leq, T_gtr, T_geq, T_seql, T_sneq, T_slss, T_sgtr, bs_eq, dens, List.map_cons, List.map_nil, Ex.den, nth_zero, nth_succ, List.cons_append, List.nil_append, D.int_i, D.bool_b, D.str_s, D.rows_l, D.cells_r, compare_eql, compare_neq, compare_lss, compare_leq, compare_gtr, compare_geq, scompare_eql, scompare_neq, slit_bs, seq_dec, seqn_dec, bs_size, byteAt_bs, bs_append, scut_bs, eql_dec, bne_dec, or_dec, and_dec, not_dec, Bool.true_and, Bool.and_true, Bool.false_and, Bool.and_false, Bool.true_or, Bool.or_true, Bool.false_or, Bool.or_false, Bool.not_true, Bool.not_false, Int.toNat_natCast, add_i64, sub_i64, add_one, nat_add, decide_true, decide_false, if_true, if_false, true_and, and_true, false_and, and_false, true_or, or_true, false_or, or_false, not_true_eq_false, not_false_eq_true, eq_self, decide_eq_true_eq, Bool.and_eq_true, Bool.or_eq_true, Bool.not_eq_true', decide_eq_false_iff_not, Bool.false_eq_true, words_eq, hrl, hat0, dec_eq, List.append_assoc]

end Glw
