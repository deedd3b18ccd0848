/- WordsBlank: what the law's function gives. -/
import Derived.Test.YtfelpmijieomaaaGreatDoorGlwI
set_option linter.unusedSimpArgs false
set_option linter.unusedVariables false
namespace Glw
open Go Go.Proofs Glx

theorem size_tot (r : Rule) : ∀ d : Nat, d ≤ 31 → ∃ v : Int, L 14 (r.cells ++ [.i d]) = some [.i v] ∧ 1 ≤ v ∧ v ≤ 1000 * (33 - (d : Int)) := by
  induction r using Rule.ind with
  | h k n a b ks ih =>
    intro d hd
    have main : ∃ v : Int, fnDen L t14 ((Rule.mk k n a b ks).cells ++ [.i (d : Nat)]) = some [.i v] ∧ 1 ≤ v ∧ v ≤ 1000 * (33 - (d : Int)) := by
      rw [fnDen_eq]
      by_cases hc : ((30 : Int) < d ∨ (100 : Int) < a.length) ∨ (100 : Int) < b.length
      · refine ⟨1000, ?_, by omega, by omega⟩
        simp (disch := omega) only [t14, Rule.cells, z_leaf, z_jump, z_guard, z_letx, z_call, z_ite, z_join, grd_true, grd_pos, brn_true, brn_false, brn_pos, brn_neg, thn_some, lab_same, lab_other, rnd_same, rnd_other, Nat.reduceBEq, T_var, T_cell, T_blit, T_both, T_one, T_no, T_beq, T_eql, T_neq, T_lss, T_leq, T_gtr, T_geq, T_seql, T_sneq, T_slss, T_sgtr, bs_eq, dens, List.map_cons, List.map_nil, Ex.den, nth_zero, nth_succ, List.cons_append, List.nil_append, D.int_i, D.bool_b, D.str_s, D.rows_l, D.cells_r, compare_eql, compare_neq, compare_lss, compare_leq, compare_gtr, compare_geq, scompare_eql, scompare_neq, slit_bs, seq_dec, seqn_dec, bs_size, byteAt_bs, bs_append, scut_bs, eql_dec, bne_dec, or_dec, and_dec, not_dec, Bool.true_and, Bool.and_true, Bool.false_and, Bool.and_false, Bool.true_or, Bool.or_true, Bool.false_or, Bool.or_false, Bool.not_true, Bool.not_false, Int.toNat_natCast, add_i64, sub_i64, add_one, nat_add, decide_true, decide_false, if_true, if_false, true_and, and_true, false_and, and_false, true_or, or_true, false_or, or_false, not_true_eq_false, not_false_eq_true, eq_self, decide_eq_true_eq, Bool.and_eq_true, Bool.or_eq_true, Bool.not_eq_true', decide_eq_false_iff_not, Bool.false_eq_true]
      · simp (disch := omega) only [t14, Rule.cells, z_leaf, z_jump, z_guard, z_letx, z_call, z_ite, z_join, grd_true, grd_pos, brn_true, brn_false, brn_pos, brn_neg, thn_some, lab_same, lab_other, rnd_same, rnd_other, Nat.reduceBEq, T_var, T_cell, T_blit, T_both, T_one, T_no, T_beq, T_eql, T_neq, T_lss, T_leq, T_gtr, T_geq, T_seql, T_sneq, T_slss, T_sgtr, bs_eq, dens, List.map_cons, List.map_nil, Ex.den, nth_zero, nth_succ, List.cons_append, List.nil_append, D.int_i, D.bool_b, D.str_s, D.rows_l, D.cells_r, compare_eql, compare_neq, compare_lss, compare_leq, compare_gtr, compare_geq, scompare_eql, scompare_neq, slit_bs, seq_dec, seqn_dec, bs_size, byteAt_bs, bs_append, scut_bs, eql_dec, bne_dec, or_dec, and_dec, not_dec, Bool.true_and, Bool.and_true, Bool.false_and, Bool.and_false, Bool.true_or, Bool.or_true, Bool.false_or, Bool.or_false, Bool.not_true, Bool.not_false, Int.toNat_natCast, add_i64, sub_i64, add_one, nat_add, decide_true, decide_false, if_true, if_false, true_and, and_true, false_and, and_false, true_or, or_true, false_or, or_false, not_true_eq_false, not_false_eq_true, eq_self, decide_eq_true_eq, Bool.and_eq_true, Bool.or_eq_true, Bool.not_eq_true', decide_eq_false_iff_not, Bool.false_eq_true]
        refine z_loopP (fun (x : Option (List D)) => ∃ v : Int, x = some [.i v] ∧ 1 ≤ v ∧ v ≤ 1000 * (33 - (d : Int))) fun G hG => ?_
        have key : ∀ (suf pre : List Rule) (m : Int), ks = pre ++ suf → 1 + (pre.length : Int) ≤ m → m ≤ 1000 * (33 - (d : Int)) → ∃ v : Int, G [.i m, .i (pre.length : Nat)] = some [.i v] ∧ 1 ≤ v ∧ v ≤ 1000 * (33 - (d : Int)) := by
          intro suf
          induction suf with
          | nil =>
            intro pre m e h1 h2
            have hl : (((rows ks).length : Nat) : Int) = pre.length := by rw [rows_length, e, List.append_nil]
            refine ⟨m, ?_, by omega, h2⟩
            rw [hG]
            simp (disch := omega) only [z_leaf, z_jump, z_guard, z_letx, z_call, z_ite, z_join, grd_true, grd_pos, brn_true, brn_false, brn_pos, brn_neg, thn_some, lab_same, lab_other, rnd_same, rnd_other, Nat.reduceBEq, T_var, T_cell, T_blit, T_both, T_one, T_no, T_beq, T_eql, T_neq, T_lss, T_leq, T_gtr, T_geq, T_seql, T_sneq, T_slss, T_sgtr, bs_eq, dens, List.map_cons, List.map_nil, Ex.den, nth_zero, nth_succ, List.cons_append, List.nil_append, D.int_i, D.bool_b, D.str_s, D.rows_l, D.cells_r, compare_eql, compare_neq, compare_lss, compare_leq, compare_gtr, compare_geq, scompare_eql, scompare_neq, slit_bs, seq_dec, seqn_dec, bs_size, byteAt_bs, bs_append, scut_bs, eql_dec, bne_dec, or_dec, and_dec, not_dec, Bool.true_and, Bool.and_true, Bool.false_and, Bool.and_false, Bool.true_or, Bool.or_true, Bool.false_or, Bool.or_false, Bool.not_true, Bool.not_false, Int.toNat_natCast, add_i64, sub_i64, add_one, nat_add, decide_true, decide_false, if_true, if_false, true_and, and_true, false_and, and_false, true_or, or_true, false_or, or_false, not_true_eq_false, not_false_eq_true, eq_self, decide_eq_true_eq, Bool.and_eq_true, Bool.or_eq_true, Bool.not_eq_true', decide_eq_false_iff_not, Bool.false_eq_true, hl]
          | cons r suf ihs =>
            intro pre m e h1 h2
            by_cases hm : m < 1000
            · obtain ⟨v1, q1, q2, q3⟩ := ih r (by rw [e]; simp) (d + 1) (by omega)
              have hat : (rows ks).getD pre.length [] = r.cells := by rw [e]; exact rows_at pre suf r
              have hl : (((rows ks).length : Nat) : Int) = (pre.length : Int) + 1 + (suf.length : Int) := by rw [e]; exact rows_app_len pre suf r
              obtain ⟨v2, g1, g2, g3⟩ := ihs (pre ++ [r]) (m + v1) (by rw [e]; simp) (by simp; omega) (by omega)
              refine ⟨v2, ?_, g2, g3⟩
              obtain ⟨rk, rn, ra, rb, rks⟩ := r
              simp only [Rule.cells, List.cons_append, List.nil_append] at q1 hat
              rw [hG]
              simp (disch := omega) only [z_leaf, z_jump, z_guard, z_letx, z_call, z_ite, z_join, grd_true, grd_pos, brn_true, brn_false, brn_pos, brn_neg, thn_some, lab_same, lab_other, rnd_same, rnd_other, Nat.reduceBEq, T_var, T_cell, T_blit, T_both, T_one, T_no, T_beq, T_eql, T_neq, T_lss, T_leq, T_gtr, T_geq, T_seql, T_sneq, T_slss, T_sgtr, bs_eq, dens, List.map_cons, List.map_nil, Ex.den, nth_zero, nth_succ, List.cons_append, List.nil_append, D.int_i, D.bool_b, D.str_s, D.rows_l, D.cells_r, compare_eql, compare_neq, compare_lss, compare_leq, compare_gtr, compare_geq, scompare_eql, scompare_neq, slit_bs, seq_dec, seqn_dec, bs_size, byteAt_bs, bs_append, scut_bs, eql_dec, bne_dec, or_dec, and_dec, not_dec, Bool.true_and, Bool.and_true, Bool.false_and, Bool.and_false, Bool.true_or, Bool.or_true, Bool.false_or, Bool.or_false, Bool.not_true, Bool.not_false, Int.toNat_natCast, add_i64, sub_i64, add_one, nat_add, decide_true, decide_false, if_true, if_false, true_and, and_true, false_and, and_false, true_or, or_true, false_or, or_false, not_true_eq_false, not_false_eq_true, eq_self, decide_eq_true_eq, Bool.and_eq_true, Bool.or_eq_true, Bool.not_eq_true', decide_eq_false_iff_not, Bool.false_eq_true, hl, hat, cell_at, q1]
              rw [← g1]
              simp
            · refine ⟨m, ?_, by omega, h2⟩
              rw [hG]
              simp (disch := omega) only [z_leaf, z_jump, z_guard, z_letx, z_call, z_ite, z_join, grd_true, grd_pos, brn_true, brn_false, brn_pos, brn_neg, thn_some, lab_same, lab_other, rnd_same, rnd_other, Nat.reduceBEq, T_var, T_cell, T_blit, T_both, T_one, T_no, T_beq, T_eql, T_neq, T_lss, T_leq, T_gtr, T_geq, T_seql, T_sneq, T_slss, T_sgtr, bs_eq, dens, List.map_cons, List.map_nil, Ex.den, nth_zero, nth_succ, List.cons_append, List.nil_append, D.int_i, D.bool_b, D.str_s, D.rows_l, D.cells_r, compare_eql, compare_neq, compare_lss, compare_leq, compare_gtr, compare_geq, scompare_eql, scompare_neq, slit_bs, seq_dec, seqn_dec, bs_size, byteAt_bs, bs_append, scut_bs, eql_dec, bne_dec, or_dec, and_dec, not_dec, Bool.true_and, Bool.and_true, Bool.false_and, Bool.and_false, Bool.true_or, Bool.or_true, Bool.false_or, Bool.or_false, Bool.not_true, Bool.not_false, Int.toNat_natCast, add_i64, sub_i64, add_one, nat_add, decide_true, decide_false, if_true, if_false, true_and, and_true, false_and, and_false, true_or, or_true, false_or, or_false, not_true_eq_false, not_false_eq_true, eq_self, decide_eq_true_eq, Bool.and_eq_true, Bool.or_eq_true, Bool.not_eq_true', decide_eq_false_iff_not, Bool.false_eq_true]
        obtain ⟨v, g1, g2, g3⟩ := key ks [] 1 rfl (by simp) (by omega)
        exact ⟨v, g1, g2, g3⟩
    obtain ⟨v, g1, g2, g3⟩ := main
    exact ⟨v, l14 g1 rfl, g2, g3⟩

theorem few_tot (r : Rule) : ∃ x, L 7 r.cells = some [.b x] := by
  obtain ⟨v, q1, _, _⟩ := size_tot r 0 (by omega)
  have main : fnDen L t7 r.cells = some [.b (decide (v ≤ 100))] := by
    obtain ⟨k, n, a, b, ks⟩ := r
    simp only [Rule.cells, List.cons_append, List.nil_append] at q1
    rw [fnDen_eq]
    simp (disch := omega) only [t7, Rule.cells, z_leaf, z_jump, z_guard, z_letx, z_call, z_ite, z_join, grd_true, grd_pos, brn_true, brn_false, brn_pos, brn_neg, thn_some, lab_same, lab_other, rnd_same, rnd_other, Nat.reduceBEq, T_var, T_cell, T_blit, T_both, T_one, T_no, T_beq, T_eql, T_neq, T_lss, T_leq, T_gtr, T_geq, T_seql, T_sneq, T_slss, T_sgtr, bs_eq, dens, List.map_cons, List.map_nil, Ex.den, nth_zero, nth_succ, List.cons_append, List.nil_append, D.int_i, D.bool_b, D.str_s, D.rows_l, D.cells_r, compare_eql, compare_neq, compare_lss, compare_leq, compare_gtr, compare_geq, scompare_eql, scompare_neq, slit_bs, seq_dec, seqn_dec, bs_size, byteAt_bs, bs_append, scut_bs, eql_dec, bne_dec, or_dec, and_dec, not_dec, Bool.true_and, Bool.and_true, Bool.false_and, Bool.and_false, Bool.true_or, Bool.or_true, Bool.false_or, Bool.or_false, Bool.not_true, Bool.not_false, Int.toNat_natCast, add_i64, sub_i64, add_one, nat_add, decide_true, decide_false, if_true, if_false, true_and, and_true, false_and, and_false, true_or, or_true, false_or, or_false, not_true_eq_false, not_false_eq_true, eq_self, decide_eq_true_eq, Bool.and_eq_true, Bool.or_eq_true, Bool.not_eq_true', decide_eq_false_iff_not, Bool.false_eq_true, show (0 : Int) = ((0 : Nat) : Int) from rfl, q1]
  exact ⟨_, l7 main rfl⟩

theorem print_tot (r : Rule) : ∃ s, L 13 r.cells = some [.s (bs s)] ∧ (s = [] ∨ (s = shw r ∧ Fine r ∧ size r ≤ 20 ∧ dep r ≤ 5)) := by
  obtain ⟨x, q1, q2⟩ := right_tot r
  cases x with
  | false =>
    refine ⟨[], l13 ?_ rfl, .inl rfl⟩
    obtain ⟨k, n, a, b, ks⟩ := r
    simp only [Rule.cells] at q1
    rw [fnDen_eq]
    simp (disch := omega) only [t13, Rule.cells, z_leaf, z_jump, z_guard, z_letx, z_call, z_ite, z_join, grd_true, grd_pos, brn_true, brn_false, brn_pos, brn_neg, thn_some, lab_same, lab_other, rnd_same, rnd_other, Nat.reduceBEq, T_var, T_cell, T_blit, T_both, T_one, T_no, T_beq, T_eql, T_neq, T_lss, T_leq, T_gtr, T_geq, T_seql, T_sneq, T_slss, T_sgtr, bs_eq, dens, List.map_cons, List.map_nil, Ex.den, nth_zero, nth_succ, List.cons_append, List.nil_append, D.int_i, D.bool_b, D.str_s, D.rows_l, D.cells_r, compare_eql, compare_neq, compare_lss, compare_leq, compare_gtr, compare_geq, scompare_eql, scompare_neq, slit_bs, seq_dec, seqn_dec, bs_size, byteAt_bs, bs_append, scut_bs, eql_dec, bne_dec, or_dec, and_dec, not_dec, Bool.true_and, Bool.and_true, Bool.false_and, Bool.and_false, Bool.true_or, Bool.or_true, Bool.false_or, Bool.or_false, Bool.not_true, Bool.not_false, Int.toNat_natCast, add_i64, sub_i64, add_one, nat_add, decide_true, decide_false, if_true, if_false, true_and, and_true, false_and, and_false, true_or, or_true, false_or, or_false, not_true_eq_false, not_false_eq_true, eq_self, decide_eq_true_eq, Bool.and_eq_true, Bool.or_eq_true, Bool.not_eq_true', decide_eq_false_iff_not, Bool.false_eq_true, q1]
  | true =>
    obtain ⟨h1, h2, h3⟩ := q2 rfl
    have q3 := show_eq r h1 (by omega)
    refine ⟨shw r, l13 ?_ rfl, .inr ⟨rfl, h1, h2, h3⟩⟩
    obtain ⟨k, n, a, b, ks⟩ := r
    simp only [Rule.cells] at q1 q3
    generalize shw (Rule.mk k n a b ks) = s at *
    rw [fnDen_eq]
    simp (disch := omega) only [t13, Rule.cells, z_leaf, z_jump, z_guard, z_letx, z_call, z_ite, z_join, grd_true, grd_pos, brn_true, brn_false, brn_pos, brn_neg, thn_some, lab_same, lab_other, rnd_same, rnd_other, Nat.reduceBEq, T_var, T_cell, T_blit, T_both, T_one, T_no, T_beq, T_eql, T_neq, T_lss, T_leq, T_gtr, T_geq, T_seql, T_sneq, T_slss, T_sgtr, bs_eq, dens, List.map_cons, List.map_nil, Ex.den, nth_zero, nth_succ, List.cons_append, List.nil_append, D.int_i, D.bool_b, D.str_s, D.rows_l, D.cells_r, compare_eql, compare_neq, compare_lss, compare_leq, compare_gtr, compare_geq, scompare_eql, scompare_neq, slit_bs, seq_dec, seqn_dec, bs_size, byteAt_bs, bs_append, scut_bs, eql_dec, bne_dec, or_dec, and_dec, not_dec, Bool.true_and, Bool.and_true, Bool.false_and, Bool.and_false, Bool.true_or, Bool.or_true, Bool.false_or, Bool.or_false, Bool.not_true, Bool.not_false, Int.toNat_natCast, add_i64, sub_i64, add_one, nat_add, decide_true, decide_false, if_true, if_false, true_and, and_true, false_and, and_false, true_or, or_true, false_or, or_false, not_true_eq_false, not_false_eq_true, eq_self, decide_eq_true_eq, Bool.and_eq_true, Bool.or_eq_true, Bool.not_eq_true', decide_eq_false_iff_not, Bool.false_eq_true, q1, q3]

theorem alive_eq : L 6 [] = some [.b true] := Book.lim_of (n := 40) (Book.ev_phi (B := bookOf Tryz.prog es) (m := 100) 40 6 _ _ (by kernel_rfl))

theorem num_eq (x : Int) : L 11 [.i x] = some [.i x] := l11 rfl rfl

/-- numbers as a row of cells -/
def intRows (l : List Int) : List (List D) := l.map fun x => [D.i x]

theorem blank_law (r : Rule) (pad : List Int) : L 5 (r.cells ++ [.l (intRows pad)]) = some [.b true] := by
  obtain ⟨few, hfew⟩ := few_tot r
  obtain ⟨s, hs, hcase⟩ := print_tot r
  refine l5 ?_ rfl
  rw [fnDen_eq]
  obtain ⟨k, n, a, b, ks⟩ := r
  have hpl : (intRows pad).length = pad.length := List.length_map _
  simp only [Rule.cells] at hs hfew
  simp (disch := omega) only [t5, Rule.cells, z_leaf, z_jump, z_guard, z_letx, z_call, z_ite, z_join, grd_true, grd_pos, brn_true, brn_false, brn_pos, brn_neg, thn_some, lab_same, lab_other, rnd_same, rnd_other, Nat.reduceBEq, T_var, T_cell, T_blit, T_both, T_one, T_no, T_beq, T_eql, T_neq, T_lss, T_leq, T_gtr, T_geq, T_seql, T_sneq, T_slss, T_sgtr, bs_eq, dens, List.map_cons, List.map_nil, Ex.den, nth_zero, nth_succ, List.cons_append, List.nil_append, D.int_i, D.bool_b, D.str_s, D.rows_l, D.cells_r, compare_eql, compare_neq, compare_lss, compare_leq, compare_gtr, compare_geq, scompare_eql, scompare_neq, slit_bs, seq_dec, seqn_dec, bs_size, byteAt_bs, bs_append, scut_bs, eql_dec, bne_dec, or_dec, and_dec, not_dec, Bool.true_and, Bool.and_true, Bool.false_and, Bool.and_false, Bool.true_or, Bool.or_true, Bool.false_or, Bool.or_false, Bool.not_true, Bool.not_false, Int.toNat_natCast, add_i64, sub_i64, add_one, nat_add, decide_true, decide_false, if_true, if_false, true_and, and_true, false_and, and_false, true_or, or_true, false_or, or_false, not_true_eq_false, not_false_eq_true, eq_self, decide_eq_true_eq, Bool.and_eq_true, Bool.or_eq_true, Bool.not_eq_true', decide_eq_false_iff_not, Bool.false_eq_true, alive_eq, hs, hfew]
  refine brn_dec (fun h => ?_) fun h => ?_
  · simp (disch := omega) only [z_leaf, z_jump, z_guard, z_letx, z_call, z_ite, z_join, grd_true, grd_pos, brn_true, brn_false, brn_pos, brn_neg, thn_some, lab_same, lab_other, rnd_same, rnd_other, Nat.reduceBEq, T_var, T_cell, T_blit, T_both, T_one, T_no, T_beq, T_eql, T_neq, T_lss, T_leq, T_gtr, T_geq, T_seql, T_sneq, T_slss, T_sgtr, bs_eq, dens, List.map_cons, List.map_nil, Ex.den, nth_zero, nth_succ, List.cons_append, List.nil_append, D.int_i, D.bool_b, D.str_s, D.rows_l, D.cells_r, compare_eql, compare_neq, compare_lss, compare_leq, compare_gtr, compare_geq, scompare_eql, scompare_neq, slit_bs, seq_dec, seqn_dec, bs_size, byteAt_bs, bs_append, scut_bs, eql_dec, bne_dec, or_dec, and_dec, not_dec, Bool.true_and, Bool.and_true, Bool.false_and, Bool.and_false, Bool.true_or, Bool.or_true, Bool.false_or, Bool.or_false, Bool.not_true, Bool.not_false, Int.toNat_natCast, add_i64, sub_i64, add_one, nat_add, decide_true, decide_false, if_true, if_false, true_and, and_true, false_and, and_false, true_or, or_true, false_or, or_false, not_true_eq_false, not_false_eq_true, eq_self, decide_eq_true_eq, Bool.and_eq_true, Bool.or_eq_true, Bool.not_eq_true', decide_eq_false_iff_not, Bool.false_eq_true]
  · have hs0 : s ≠ [] := by
      rintro rfl
      exact h (.inl (.inr rfl))
    obtain ⟨rfl, hf, hsz, hdp⟩ := hcase.resolve_left hs0
    have hlen := shw_len _ hf
    have hpad : (shw (Rule.mk k n a b ks)).length ≤ (intRows pad).length := by omega
    have hright := same_eq (Rule.mk k n a b ks) (by omega)
    have hfin : ∀ x, Ins (shw (Rule.mk k n a b ks)) x → (34 : UInt8) ∉ shw (Rule.mk k n a b ks) → x.length ≤ 2000 → L 10 [.s (bs x)] = some [.i k, .i n, .s (bs a), .s (bs b), .l (rows ks), .i (-1), .i 0] := by
      intro x hx h34 hl
      obtain ⟨u, v, rfl, h1, h2⟩ := ins_sp _ (toks_whole _ hf (noattr_of _ hf h34)) _ _ (sp_show _) hx
      have := parse_ok hf hsz hdp h1 h2 hl
      simpa only [Rule.cells, List.cons_append, List.nil_append] using this
    simp only [Rule.cells, List.cons_append, List.nil_append] at hright
    generalize shw (Rule.mk k n a b ks) = s at *
    refine z_loop fun G hG => ?_
    have fin : ∀ x, Ins s x → (34 : UInt8) ∉ s → x.length ≤ 20000 → G [.s (bs x), .i s.length] = some [.b true] := by
      intro x hx h34 hl
      rw [hG]
      by_cases hx2 : x.length ≤ 2000
      · have hp := hfin x hx h34 hx2
        simp (disch := omega) only [z_leaf, z_jump, z_guard, z_letx, z_call, z_ite, z_join, grd_true, grd_pos, brn_true, brn_false, brn_pos, brn_neg, thn_some, lab_same, lab_other, rnd_same, rnd_other, Nat.reduceBEq, T_var, T_cell, T_blit, T_both, T_one, T_no, T_beq, T_eql, T_neq, T_lss, T_leq, T_gtr, T_geq, T_seql, T_sneq, T_slss, T_sgtr, bs_eq, dens, List.map_cons, List.map_nil, Ex.den, nth_zero, nth_succ, List.cons_append, List.nil_append, D.int_i, D.bool_b, D.str_s, D.rows_l, D.cells_r, compare_eql, compare_neq, compare_lss, compare_leq, compare_gtr, compare_geq, scompare_eql, scompare_neq, slit_bs, seq_dec, seqn_dec, bs_size, byteAt_bs, bs_append, scut_bs, eql_dec, bne_dec, or_dec, and_dec, not_dec, Bool.true_and, Bool.and_true, Bool.false_and, Bool.and_false, Bool.true_or, Bool.or_true, Bool.false_or, Bool.or_false, Bool.not_true, Bool.not_false, Int.toNat_natCast, add_i64, sub_i64, add_one, nat_add, decide_true, decide_false, if_true, if_false, true_and, and_true, false_and, and_false, true_or, or_true, false_or, or_false, not_true_eq_false, not_false_eq_true, eq_self, decide_eq_true_eq, Bool.and_eq_true, Bool.or_eq_true, Bool.not_eq_true', decide_eq_false_iff_not, Bool.false_eq_true, hp, num_eq, hright]
      · have hp := parse_long (s := x) (by omega)
        simp (disch := omega) only [z_leaf, z_jump, z_guard, z_letx, z_call, z_ite, z_join, grd_true, grd_pos, brn_true, brn_false, brn_pos, brn_neg, thn_some, lab_same, lab_other, rnd_same, rnd_other, Nat.reduceBEq, T_var, T_cell, T_blit, T_both, T_one, T_no, T_beq, T_eql, T_neq, T_lss, T_leq, T_gtr, T_geq, T_seql, T_sneq, T_slss, T_sgtr, bs_eq, dens, List.map_cons, List.map_nil, Ex.den, nth_zero, nth_succ, List.cons_append, List.nil_append, D.int_i, D.bool_b, D.str_s, D.rows_l, D.cells_r, compare_eql, compare_neq, compare_lss, compare_leq, compare_gtr, compare_geq, scompare_eql, scompare_neq, slit_bs, seq_dec, seqn_dec, bs_size, byteAt_bs, bs_append, scut_bs, eql_dec, bne_dec, or_dec, and_dec, not_dec, Bool.true_and, Bool.and_true, Bool.false_and, Bool.and_false, Bool.true_or, Bool.or_true, Bool.false_or, Bool.or_false, Bool.not_true, Bool.not_false, Int.toNat_natCast, add_i64, sub_i64, add_one, nat_add, decide_true, decide_false, if_true, if_false, true_and, and_true, false_and, and_false, true_or, or_true, false_or, or_false, not_true_eq_false, not_false_eq_true, eq_self, decide_eq_true_eq, Bool.and_eq_true, Bool.or_eq_true, Bool.not_eq_true', decide_eq_false_iff_not, Bool.false_eq_true, hp]
    have key : ∀ (m i : Nat) (t : List UInt8), s.length - i = m → i ≤ s.length → t.length ≤ 5 * i → (∀ c ∈ s.take i, c ≠ 34) → (∀ w, Ins (s.drop i) w → w.length ≤ 5 * (s.length - i) → Ins s (t ++ w)) → G [.s (bs t), .i i] = some [.b true] := by
      intro m
      induction m with
      | zero =>
        intro i t g1 g2 g3 g4 g5
        have hi : i = s.length := by omega
        subst hi
        have h34 : (34 : UInt8) ∉ s := fun hc => g4 34 (by rw [List.take_length]; exact hc) rfl
        have := g5 [] (by rw [List.drop_length]; exact .nil) (by simp)
        rw [List.append_nil] at this
        exact fin t this h34 (by omega)
      | succ m ih =>
        intro i t g1 g2 g3 g4 g5
        have h4 : i < s.length := by omega
        obtain ⟨c, hg, hg2⟩ : ∃ c, s.getD i 0 = c ∧ s[i] = c := ⟨_, getD_lt h4, rfl⟩
        have hdrop : s.drop i = c :: s.drop (i + 1) := by rw [List.drop_eq_getElem_cons h4, hg2]
        have hcut := byte_cut h4
        rw [hg2] at hcut
        have hb1 : Blanks [32, 10] := by intro d hd; simp at hd; rcases hd with rfl | rfl <;> rfl
        have hb2 : Blanks [32, 32] := by intro d hd; simp at hd; subst hd; rfl
        have hb0 : Blanks [] := fun d hd => by cases hd
        have l1 : ([c] : List UInt8).length = 1 := rfl
        have l2 : ([32, 10] : List UInt8).length = 2 := rfl
        have l3 : ([32, 32] : List UInt8).length = 2 := rfl
        have step : c ≠ 34 → ∀ b1 b2 : List UInt8, b1.length ≤ 2 → b2.length ≤ 2 → (∀ w, Ins (s.drop (i + 1)) w → Ins (c :: s.drop (i + 1)) (b1 ++ (c :: (b2 ++ w)))) → G [.s (bs (t ++ (b1 ++ ([c] ++ b2)))), .i ((i + 1 : Nat) : Int)] = some [.b true] := by
          intro hc b1 b2 e1 e2 hins
          refine ih (i + 1) _ (by omega) (by omega) (by simp; omega) ?_ fun w hw hwl => ?_
          · intro d hd
            rw [List.take_succ_eq_append_getElem h4, hg2] at hd
            rcases List.mem_append.1 hd with hd | hd
            · exact g4 d hd
            · rw [List.mem_singleton.1 hd]; exact hc
          · have := g5 (b1 ++ (c :: (b2 ++ w))) (by rw [hdrop]; exact hins w hw) (by simp; omega)
            simpa using this
        rw [hG]
        simp (disch := omega) only [z_leaf, z_jump, z_guard, z_letx, z_call, z_ite, z_join, grd_true, grd_pos, brn_true, brn_false, brn_pos, brn_neg, thn_some, lab_same, lab_other, rnd_same, rnd_other, Nat.reduceBEq, T_var, T_cell, T_blit, T_both, T_one, T_no, T_beq, T_eql, T_neq, T_lss, T_leq, T_gtr, T_geq, T_seql, T_sneq, T_slss, T_sgtr, bs_eq, dens, List.map_cons, List.map_nil, Ex.den, nth_zero, nth_succ, List.cons_append, List.nil_append, D.int_i, D.bool_b, D.str_s, D.rows_l, D.cells_r, compare_eql, compare_neq, compare_lss, compare_leq, compare_gtr, compare_geq, scompare_eql, scompare_neq, slit_bs, seq_dec, seqn_dec, bs_size, byteAt_bs, bs_append, scut_bs, eql_dec, bne_dec, or_dec, and_dec, not_dec, Bool.true_and, Bool.and_true, Bool.false_and, Bool.and_false, Bool.true_or, Bool.or_true, Bool.false_or, Bool.or_false, Bool.not_true, Bool.not_false, Int.toNat_natCast, add_i64, sub_i64, add_one, nat_add, decide_true, decide_false, if_true, if_false, true_and, and_true, false_and, and_false, true_or, or_true, false_or, or_false, not_true_eq_false, not_false_eq_true, eq_self, decide_eq_true_eq, Bool.and_eq_true, Bool.or_eq_true, Bool.not_eq_true', decide_eq_false_iff_not, Bool.false_eq_true, hg, c34, c32, c40, c41, c44]
        refine brn_dec (fun hc => ?_) fun hc => ?_
        · simp (disch := omega) only [z_leaf, z_jump, z_guard, z_letx, z_call, z_ite, z_join, grd_true, grd_pos, brn_true, brn_false, brn_pos, brn_neg, thn_some, lab_same, lab_other, rnd_same, rnd_other, Nat.reduceBEq, T_var, T_cell, T_blit, T_both, T_one, T_no, T_beq, T_eql, T_neq, T_lss, T_leq, T_gtr, T_geq, T_seql, T_sneq, T_slss, T_sgtr, bs_eq, dens, List.map_cons, List.map_nil, Ex.den, nth_zero, nth_succ, List.cons_append, List.nil_append, D.int_i, D.bool_b, D.str_s, D.rows_l, D.cells_r, compare_eql, compare_neq, compare_lss, compare_leq, compare_gtr, compare_geq, scompare_eql, scompare_neq, slit_bs, seq_dec, seqn_dec, bs_size, byteAt_bs, bs_append, scut_bs, eql_dec, bne_dec, or_dec, and_dec, not_dec, Bool.true_and, Bool.and_true, Bool.false_and, Bool.and_false, Bool.true_or, Bool.or_true, Bool.false_or, Bool.or_false, Bool.not_true, Bool.not_false, Int.toNat_natCast, add_i64, sub_i64, add_one, nat_add, decide_true, decide_false, if_true, if_false, true_and, and_true, false_and, and_false, true_or, or_true, false_or, or_false, not_true_eq_false, not_false_eq_true, eq_self, decide_eq_true_eq, Bool.and_eq_true, Bool.or_eq_true, Bool.not_eq_true', decide_eq_false_iff_not, Bool.false_eq_true]
        · simp (disch := omega) only [z_leaf, z_jump, z_guard, z_letx, z_call, z_ite, z_join, grd_true, grd_pos, brn_true, brn_false, brn_pos, brn_neg, thn_some, lab_same, lab_other, rnd_same, rnd_other, Nat.reduceBEq, T_var, T_cell, T_blit, T_both, T_one, T_no, T_beq, T_eql, T_neq, T_lss, T_leq, T_gtr, T_geq, T_seql, T_sneq, T_slss, T_sgtr, bs_eq, dens, List.map_cons, List.map_nil, Ex.den, nth_zero, nth_succ, List.cons_append, List.nil_append, D.int_i, D.bool_b, D.str_s, D.rows_l, D.cells_r, compare_eql, compare_neq, compare_lss, compare_leq, compare_gtr, compare_geq, scompare_eql, scompare_neq, slit_bs, seq_dec, seqn_dec, bs_size, byteAt_bs, bs_append, scut_bs, eql_dec, bne_dec, or_dec, and_dec, not_dec, Bool.true_and, Bool.and_true, Bool.false_and, Bool.and_false, Bool.true_or, Bool.or_true, Bool.false_or, Bool.or_false, Bool.not_true, Bool.not_false, Int.toNat_natCast, add_i64, sub_i64, add_one, nat_add, decide_true, decide_false, if_true, if_false, true_and, and_true, false_and, and_false, true_or, or_true, false_or, or_false, not_true_eq_false, not_false_eq_true, eq_self, decide_eq_true_eq, Bool.and_eq_true, Bool.or_eq_true, Bool.not_eq_true', decide_eq_false_iff_not, Bool.false_eq_true, hg, c34, c32, c40, c41, c44]
          refine brn_dec (fun p1 => ?_) fun p1 => ?_
          · have hsg : c = 40 ∨ c = 41 ∨ c = 44 := by rcases p1.1 with (h | h) | h <;> simp [h]
            simp (disch := first | omega | (simp only [List.length_append, List.length_cons, List.length_nil]; omega)) only [z_leaf, z_jump, z_guard, z_letx, z_call, z_ite, z_join, grd_true, grd_pos, brn_true, brn_false, brn_pos, brn_neg, thn_some, lab_same, lab_other, rnd_same, rnd_other, Nat.reduceBEq, T_var, T_cell, T_blit, T_both, T_one, T_no, T_beq, T_eql, T_neq, T_lss, T_leq, T_gtr, T_geq, T_seql, T_sneq, T_slss, T_sgtr, bs_eq, dens, List.map_cons, List.map_nil, Ex.den, nth_zero, nth_succ, List.cons_append, List.nil_append, D.int_i, D.bool_b, D.str_s, D.rows_l, D.cells_r, compare_eql, compare_neq, compare_lss, compare_leq, compare_gtr, compare_geq, scompare_eql, scompare_neq, slit_bs, seq_dec, seqn_dec, bs_size, byteAt_bs, bs_append, scut_bs, eql_dec, bne_dec, or_dec, and_dec, not_dec, Bool.true_and, Bool.and_true, Bool.false_and, Bool.and_false, Bool.true_or, Bool.or_true, Bool.false_or, Bool.or_false, Bool.not_true, Bool.not_false, Int.toNat_natCast, add_i64, sub_i64, add_one, nat_add, decide_true, decide_false, if_true, if_false, true_and, and_true, false_and, and_false, true_or, or_true, false_or, or_false, not_true_eq_false, not_false_eq_true, eq_self, decide_eq_true_eq, Bool.and_eq_true, Bool.or_eq_true, Bool.not_eq_true', decide_eq_false_iff_not, Bool.false_eq_true, hg, hcut, c34, c32, c40, c41, c44]
            refine brn_dec (fun p2 => ?_) fun p2 => ?_
            · simp (disch := first | omega | (simp only [List.length_append, List.length_cons, List.length_nil]; omega)) only [z_leaf, z_jump, z_guard, z_letx, z_call, z_ite, z_join, grd_true, grd_pos, brn_true, brn_false, brn_pos, brn_neg, thn_some, lab_same, lab_other, rnd_same, rnd_other, Nat.reduceBEq, T_var, T_cell, T_blit, T_both, T_one, T_no, T_beq, T_eql, T_neq, T_lss, T_leq, T_gtr, T_geq, T_seql, T_sneq, T_slss, T_sgtr, bs_eq, dens, List.map_cons, List.map_nil, Ex.den, nth_zero, nth_succ, List.cons_append, List.nil_append, D.int_i, D.bool_b, D.str_s, D.rows_l, D.cells_r, compare_eql, compare_neq, compare_lss, compare_leq, compare_gtr, compare_geq, scompare_eql, scompare_neq, slit_bs, seq_dec, seqn_dec, bs_size, byteAt_bs, bs_append, scut_bs, eql_dec, bne_dec, or_dec, and_dec, not_dec, Bool.true_and, Bool.and_true, Bool.false_and, Bool.and_false, Bool.true_or, Bool.or_true, Bool.false_or, Bool.or_false, Bool.not_true, Bool.not_false, Int.toNat_natCast, add_i64, sub_i64, add_one, nat_add, decide_true, decide_false, if_true, if_false, true_and, and_true, false_and, and_false, true_or, or_true, false_or, or_false, not_true_eq_false, not_false_eq_true, eq_self, decide_eq_true_eq, Bool.and_eq_true, Bool.or_eq_true, Bool.not_eq_true', decide_eq_false_iff_not, Bool.false_eq_true, hcut]
              have := step hc [32, 10] [32, 32] (by simp) (by simp) fun w hw => .sign hsg hb1 hb2 hw
              simpa using this
            · simp (disch := first | omega | (simp only [List.length_append, List.length_cons, List.length_nil]; omega)) only [z_leaf, z_jump, z_guard, z_letx, z_call, z_ite, z_join, grd_true, grd_pos, brn_true, brn_false, brn_pos, brn_neg, thn_some, lab_same, lab_other, rnd_same, rnd_other, Nat.reduceBEq, T_var, T_cell, T_blit, T_both, T_one, T_no, T_beq, T_eql, T_neq, T_lss, T_leq, T_gtr, T_geq, T_seql, T_sneq, T_slss, T_sgtr, bs_eq, dens, List.map_cons, List.map_nil, Ex.den, nth_zero, nth_succ, List.cons_append, List.nil_append, D.int_i, D.bool_b, D.str_s, D.rows_l, D.cells_r, compare_eql, compare_neq, compare_lss, compare_leq, compare_gtr, compare_geq, scompare_eql, scompare_neq, slit_bs, seq_dec, seqn_dec, bs_size, byteAt_bs, bs_append, scut_bs, eql_dec, bne_dec, or_dec, and_dec, not_dec, Bool.true_and, Bool.and_true, Bool.false_and, Bool.and_false, Bool.true_or, Bool.or_true, Bool.false_or, Bool.or_false, Bool.not_true, Bool.not_false, Int.toNat_natCast, add_i64, sub_i64, add_one, nat_add, decide_true, decide_false, if_true, if_false, true_and, and_true, false_and, and_false, true_or, or_true, false_or, or_false, not_true_eq_false, not_false_eq_true, eq_self, decide_eq_true_eq, Bool.and_eq_true, Bool.or_eq_true, Bool.not_eq_true', decide_eq_false_iff_not, Bool.false_eq_true, hcut]
              have := step hc [32, 10] [] (by simp) (by simp) fun w hw => .sign hsg hb1 hb0 hw
              simpa using this
          · simp (disch := first | omega | (simp only [List.length_append, List.length_cons, List.length_nil]; omega)) only [z_leaf, z_jump, z_guard, z_letx, z_call, z_ite, z_join, grd_true, grd_pos, brn_true, brn_false, brn_pos, brn_neg, thn_some, lab_same, lab_other, rnd_same, rnd_other, Nat.reduceBEq, T_var, T_cell, T_blit, T_both, T_one, T_no, T_beq, T_eql, T_neq, T_lss, T_leq, T_gtr, T_geq, T_seql, T_sneq, T_slss, T_sgtr, bs_eq, dens, List.map_cons, List.map_nil, Ex.den, nth_zero, nth_succ, List.cons_append, List.nil_append, D.int_i, D.bool_b, D.str_s, D.rows_l, D.cells_r, compare_eql, compare_neq, compare_lss, compare_leq, compare_gtr, compare_geq, scompare_eql, scompare_neq, slit_bs, seq_dec, seqn_dec, bs_size, byteAt_bs, bs_append, scut_bs, eql_dec, bne_dec, or_dec, and_dec, not_dec, Bool.true_and, Bool.and_true, Bool.false_and, Bool.and_false, Bool.true_or, Bool.or_true, Bool.false_or, Bool.or_false, Bool.not_true, Bool.not_false, Int.toNat_natCast, add_i64, sub_i64, add_one, nat_add, decide_true, decide_false, if_true, if_false, true_and, and_true, false_and, and_false, true_or, or_true, false_or, or_false, not_true_eq_false, not_false_eq_true, eq_self, decide_eq_true_eq, Bool.and_eq_true, Bool.or_eq_true, Bool.not_eq_true', decide_eq_false_iff_not, Bool.false_eq_true, hg, hcut, c34, c32, c40, c41, c44]
            refine brn_dec (fun p2 => ?_) fun p2 => ?_
            · simp (disch := first | omega | (simp only [List.length_append, List.length_cons, List.length_nil]; omega)) only [z_leaf, z_jump, z_guard, z_letx, z_call, z_ite, z_join, grd_true, grd_pos, brn_true, brn_false, brn_pos, brn_neg, thn_some, lab_same, lab_other, rnd_same, rnd_other, Nat.reduceBEq, T_var, T_cell, T_blit, T_both, T_one, T_no, T_beq, T_eql, T_neq, T_lss, T_leq, T_gtr, T_geq, T_seql, T_sneq, T_slss, T_sgtr, bs_eq, dens, List.map_cons, List.map_nil, Ex.den, nth_zero, nth_succ, List.cons_append, List.nil_append, D.int_i, D.bool_b, D.str_s, D.rows_l, D.cells_r, compare_eql, compare_neq, compare_lss, compare_leq, compare_gtr, compare_geq, scompare_eql, scompare_neq, slit_bs, seq_dec, seqn_dec, bs_size, byteAt_bs, bs_append, scut_bs, eql_dec, bne_dec, or_dec, and_dec, not_dec, Bool.true_and, Bool.and_true, Bool.false_and, Bool.and_false, Bool.true_or, Bool.or_true, Bool.false_or, Bool.or_false, Bool.not_true, Bool.not_false, Int.toNat_natCast, add_i64, sub_i64, add_one, nat_add, decide_true, decide_false, if_true, if_false, true_and, and_true, false_and, and_false, true_or, or_true, false_or, or_false, not_true_eq_false, not_false_eq_true, eq_self, decide_eq_true_eq, Bool.and_eq_true, Bool.or_eq_true, Bool.not_eq_true', decide_eq_false_iff_not, Bool.false_eq_true, hcut]
              rcases p2 with p2 | rfl
              · have hsg : c = 40 ∨ c = 41 ∨ c = 44 := by rcases p2.1 with (h | h) | h <;> simp [h]
                have := step hc [] [32, 32] (by simp) (by simp) fun w hw => .sign hsg hb0 hb2 hw
                simpa using this
              · have := step hc [] [32, 32] (by simp) (by simp) fun w hw => .space hb2 hw
                simpa using this
            · simp (disch := first | omega | (simp only [List.length_append, List.length_cons, List.length_nil]; omega)) only [z_leaf, z_jump, z_guard, z_letx, z_call, z_ite, z_join, grd_true, grd_pos, brn_true, brn_false, brn_pos, brn_neg, thn_some, lab_same, lab_other, rnd_same, rnd_other, Nat.reduceBEq, T_var, T_cell, T_blit, T_both, T_one, T_no, T_beq, T_eql, T_neq, T_lss, T_leq, T_gtr, T_geq, T_seql, T_sneq, T_slss, T_sgtr, bs_eq, dens, List.map_cons, List.map_nil, Ex.den, nth_zero, nth_succ, List.cons_append, List.nil_append, D.int_i, D.bool_b, D.str_s, D.rows_l, D.cells_r, compare_eql, compare_neq, compare_lss, compare_leq, compare_gtr, compare_geq, scompare_eql, scompare_neq, slit_bs, seq_dec, seqn_dec, bs_size, byteAt_bs, bs_append, scut_bs, eql_dec, bne_dec, or_dec, and_dec, not_dec, Bool.true_and, Bool.and_true, Bool.false_and, Bool.and_false, Bool.true_or, Bool.or_true, Bool.false_or, Bool.or_false, Bool.not_true, Bool.not_false, Int.toNat_natCast, add_i64, sub_i64, add_one, nat_add, decide_true, decide_false, if_true, if_false, true_and, and_true, false_and, and_false, true_or, or_true, false_or, or_false, not_true_eq_false, not_false_eq_true, eq_self, decide_eq_true_eq, Bool.and_eq_true, Bool.or_eq_true, Bool.not_eq_true', decide_eq_false_iff_not, Bool.false_eq_true, hcut]
              have hins : ∀ w, Ins (s.drop (i + 1)) w → Ins (c :: s.drop (i + 1)) ([] ++ (c :: ([] ++ w))) := fun w hw => by
                by_cases hsg : c = 40 ∨ c = 41 ∨ c = 44
                · exact .sign hsg hb0 hb0 hw
                · exact .plain hsg (fun e => p2 (.inr e)) hw
              have := step hc [] [] (by simp) (by simp) hins
              simpa using this
    simp (disch := omega) only [z_leaf, z_jump, z_guard, z_letx, z_call, z_ite, z_join, grd_true, grd_pos, brn_true, brn_false, brn_pos, brn_neg, thn_some, lab_same, lab_other, rnd_same, rnd_other, Nat.reduceBEq, T_var, T_cell, T_blit, T_both, T_one, T_no, T_beq, T_eql, T_neq, T_lss, T_leq, T_gtr, T_geq, T_seql, T_sneq, T_slss, T_sgtr, bs_eq, dens, List.map_cons, List.map_nil, Ex.den, nth_zero, nth_succ, List.cons_append, List.nil_append, D.int_i, D.bool_b, D.str_s, D.rows_l, D.cells_r, compare_eql, compare_neq, compare_lss, compare_leq, compare_gtr, compare_geq, scompare_eql, scompare_neq, slit_bs, seq_dec, seqn_dec, bs_size, byteAt_bs, bs_append, scut_bs, eql_dec, bne_dec, or_dec, and_dec, not_dec, Bool.true_and, Bool.and_true, Bool.false_and, Bool.and_false, Bool.true_or, Bool.or_true, Bool.false_or, Bool.or_false, Bool.not_true, Bool.not_false, Int.toNat_natCast, add_i64, sub_i64, add_one, nat_add, decide_true, decide_false, if_true, if_false, true_and, and_true, false_and, and_false, true_or, or_true, false_or, or_false, not_true_eq_false, not_false_eq_true, eq_self, decide_eq_true_eq, Bool.and_eq_true, Bool.or_eq_true, Bool.not_eq_true', decide_eq_false_iff_not, Bool.false_eq_true]
    refine key _ 0 [] rfl (by omega) (by simp) (by simp) (fun w hw _ => by simpa using hw)

end Glw
