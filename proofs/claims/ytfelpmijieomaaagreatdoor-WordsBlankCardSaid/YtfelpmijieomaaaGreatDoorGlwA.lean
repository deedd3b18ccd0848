/- The parser's small steps. -/
import Derived.Test.YtfelpmijieomaaaGreatDoorGlwWay
import Derived.Test.YtfelpmijieomaaaGreatDoorGlxLazy
set_option linter.unusedSimpArgs false
set_option linter.unusedVariables false
namespace Glw
open Go Go.Proofs Glx

theorem is_eq (s ts g : List UInt8) (at0 tk tat trip : Int) (bad : Bool) : L 52 [.s (bs s), .i at0, .i tk, .i tat, .s (bs ts), .b bad, .i trip, .s (bs g)] = some [.s (bs s), .i at0, .i tk, .i tat, .s (bs ts), .b bad, .i trip, .b (!bad && decide (tk = 5) && decide (ts = g))] := by
  refine l52 ?_ rfl
  rw [fnDen_eq]
  simp (disch := omega) only [t52, z_leaf, z_jump, z_guard, z_letx, z_call, z_ite, z_join, grd_true, grd_pos, brn_true, brn_false, brn_pos, brn_neg, thn_some, lab_same, lab_other, rnd_same, rnd_other, Nat.reduceBEq, T_var, T_cell, T_blit, T_both, T_one, T_no, T_beq, T_eql, T_neq, T_lss, T_leq, T_gtr, T_geq, T_seql, T_sneq, T_slss, T_sgtr, bs_eq, dens, List.map_cons, List.map_nil, Ex.den, nth_zero, nth_succ, List.cons_append, List.nil_append, D.int_i, D.bool_b, D.str_s, D.rows_l, D.cells_r, compare_eql, compare_neq, compare_lss, compare_leq, compare_gtr, compare_geq, scompare_eql, scompare_neq, slit_bs, seq_dec, seqn_dec, bs_size, byteAt_bs, bs_append, scut_bs, eql_dec, bne_dec, or_dec, and_dec, not_dec, Bool.true_and, Bool.and_true, Bool.false_and, Bool.and_false, Bool.true_or, Bool.or_true, Bool.false_or, Bool.or_false, Bool.not_true, Bool.not_false, Int.toNat_natCast, add_i64, sub_i64, add_one, nat_add, decide_true, decide_false, if_true, if_false, true_and, and_true, false_and, and_false, true_or, or_true, false_or, or_false, not_true_eq_false, not_false_eq_true, eq_self, decide_eq_true_eq, Bool.and_eq_true, Bool.or_eq_true, Bool.not_eq_true', decide_eq_false_iff_not, Bool.false_eq_true]

def blank (c : UInt8) : Bool := c == 32 || c == 10
def letter (c : UInt8) : Bool := decide (97 ≤ c.toNat) && decide (c.toNat ≤ 122)
def digit (c : UInt8) : Bool := decide (48 ≤ c.toNat) && decide (c.toNat ≤ 57)

theorem u8_eq (c : UInt8) (n : Nat) (h : n < 256) : ((c.toNat : Int) == (n : Int)) = (c == UInt8.ofNat n) := by
  rw [Bool.eq_iff_iff]
  simp only [beq_iff_eq]
  constructor
  · intro e
    have : c.toNat = n := by omega
    rw [← this]; simp
  · intro e
    subst e
    simp [Nat.mod_eq_of_lt h]

theorem blank_eq (c : UInt8) : L 47 [.i c.toNat] = some [.b (blank c)] := by
  refine l47 ?_ rfl
  rw [fnDen_eq]
  simp only [t47, den_leaf, den_jump, den_guard, den_letx, den_call, den_ite, den_join, upd_same, dens, List.map_cons, List.map_nil, Ex.den, nth_zero, nth_succ, List.cons_append, List.nil_append, List.append_assoc, List.append_nil, Option.bind_some, D.int_i, D.bool_b, D.str_s, D.rows_l, D.cells_r, compare_eql, compare_neq, compare_lss, compare_leq, compare_gtr, compare_geq, scompare_eql, scompare_neq, sequal_bs, bs_size, byteAt_bs, z_leaf, blank]
  rw [show (32 : Int) = ((32 : Nat) : Int) from rfl, show (10 : Int) = ((10 : Nat) : Int) from rfl, u8_eq _ _ (by decide), u8_eq _ _ (by decide)]
  rfl
theorem letter_eq (c : UInt8) : L 49 [.i c.toNat] = some [.b (letter c)] := by
  refine l49 ?_ rfl
  rw [fnDen_eq]
  simp only [t49, den_leaf, den_jump, den_guard, den_letx, den_call, den_ite, den_join, upd_same, dens, List.map_cons, List.map_nil, Ex.den, nth_zero, nth_succ, List.cons_append, List.nil_append, List.append_assoc, List.append_nil, Option.bind_some, D.int_i, D.bool_b, D.str_s, D.rows_l, D.cells_r, compare_eql, compare_neq, compare_lss, compare_leq, compare_gtr, compare_geq, scompare_eql, scompare_neq, sequal_bs, bs_size, byteAt_bs, letter]
  simp only [ge_iff_le, show (97 : Int) = ((97 : Nat) : Int) from rfl, show (122 : Int) = ((122 : Nat) : Int) from rfl, Int.ofNat_le]
theorem digit_eq (c : UInt8) : L 50 [.i c.toNat] = some [.b (digit c)] := by
  refine l50 ?_ rfl
  rw [fnDen_eq]
  simp only [t50, den_leaf, den_jump, den_guard, den_letx, den_call, den_ite, den_join, upd_same, dens, List.map_cons, List.map_nil, Ex.den, nth_zero, nth_succ, List.cons_append, List.nil_append, List.append_assoc, List.append_nil, Option.bind_some, D.int_i, D.bool_b, D.str_s, D.rows_l, D.cells_r, compare_eql, compare_neq, compare_lss, compare_leq, compare_gtr, compare_geq, scompare_eql, scompare_neq, sequal_bs, bs_size, byteAt_bs, digit]
  simp only [ge_iff_le, show (48 : Int) = ((48 : Nat) : Int) from rfl, show (57 : Int) = ((57 : Nat) : Int) from rfl, Int.ofNat_le]

/-- where bytes that are so end -/
def runTo (f : UInt8 → Bool) (s : List UInt8) (i : Nat) : Nat := i + ((s.drop i).takeWhile f).length

theorem runTo_end {f : UInt8 → Bool} {s : List UInt8} {i : Nat} (h : s.length ≤ i) : runTo f s i = i := by
  unfold runTo
  rw [List.drop_eq_nil_of_le h]
  rfl
theorem runTo_yes {f : UInt8 → Bool} {s : List UInt8} {i : Nat} (h : i < s.length) (hf : f s[i] = true) : runTo f s i = runTo f s (i + 1) := by
  unfold runTo
  rw [List.drop_eq_getElem_cons h, List.takeWhile_cons, if_pos hf]
  simp only [List.length_cons]
  omega
theorem runTo_no {f : UInt8 → Bool} {s : List UInt8} {i : Nat} (h : i < s.length) (hf : f s[i] = false) : runTo f s i = i := by
  unfold runTo
  rw [List.drop_eq_getElem_cons h, List.takeWhile_cons, if_neg (by simp [hf])]
  rfl
theorem run_le {f : UInt8 → Bool} {s : List UInt8} {i : Nat} (h : i ≤ s.length) : runTo f s i ≤ s.length := by
  unfold runTo
  have := List.takeWhile_sublist (p := f) (l := s.drop i)
  have := this.length_le
  rw [List.length_drop] at this
  omega
theorem run_ge {f : UInt8 → Bool} {s : List UInt8} {i : Nat} : i ≤ runTo f s i := by unfold runTo; omega

theorem run47 (s ts : List UInt8) (at0 tk tat trip : Int) (bad : Bool) (i : Nat) (h : s.length < 1000000) (hi : i ≤ s.length) :
    L 46047 [.s (bs s), .i at0, .i tk, .i tat, .s (bs ts), .b bad, .i trip, .i i] = some [.s (bs s), .i at0, .i tk, .i tat, .s (bs ts), .b bad, .i trip, .i (runTo blank s i : Nat)] := by
  refine l46047 ?_ rfl
  rw [fnDen_eq]
  unfold t46047
  refine z_loop fun G hG => ?_
  have key : ∀ (n i : Nat), s.length - i = n → i ≤ s.length → G [.i i] = some [.s (bs s), .i at0, .i tk, .i tat, .s (bs ts), .b bad, .i trip, .i (runTo blank s i : Nat)] := by
    intro n
    induction n with
    | zero =>
      intro i h1 h2
      rw [hG, runTo_end (by omega)]
      simp (disch := omega) only [z_leaf, z_jump, z_guard, z_letx, z_call, z_ite, z_join, grd_true, grd_pos, brn_true, brn_false, brn_pos, brn_neg, thn_some, lab_same, lab_other, rnd_same, rnd_other, Nat.reduceBEq, T_var, T_cell, T_blit, T_both, T_one, T_no, T_beq, T_eql, T_neq, T_lss, T_leq, T_gtr, T_geq, T_seql, T_sneq, T_slss, T_sgtr, bs_eq, dens, List.map_cons, List.map_nil, Ex.den, nth_zero, nth_succ, List.cons_append, List.nil_append, D.int_i, D.bool_b, D.str_s, D.rows_l, D.cells_r, compare_eql, compare_neq, compare_lss, compare_leq, compare_gtr, compare_geq, scompare_eql, scompare_neq, slit_bs, seq_dec, seqn_dec, bs_size, byteAt_bs, bs_append, scut_bs, eql_dec, bne_dec, or_dec, and_dec, not_dec, Bool.true_and, Bool.and_true, Bool.false_and, Bool.and_false, Bool.true_or, Bool.or_true, Bool.false_or, Bool.or_false, Bool.not_true, Bool.not_false, Int.toNat_natCast, add_i64, sub_i64, add_one, nat_add, decide_true, decide_false, if_true, if_false, true_and, and_true, false_and, and_false, true_or, or_true, false_or, or_false, not_true_eq_false, not_false_eq_true, eq_self, decide_eq_true_eq, Bool.and_eq_true, Bool.or_eq_true, Bool.not_eq_true', decide_eq_false_iff_not, Bool.false_eq_true]
    | succ n ih =>
      intro i h1 h2
      have h3 : i < s.length := by omega
      rw [hG]
      simp (disch := omega) only [z_leaf, z_jump, z_guard, z_letx, z_call, z_ite, z_join, grd_true, grd_pos, brn_true, brn_false, brn_pos, brn_neg, thn_some, lab_same, lab_other, rnd_same, rnd_other, Nat.reduceBEq, T_var, T_cell, T_blit, T_both, T_one, T_no, T_beq, T_eql, T_neq, T_lss, T_leq, T_gtr, T_geq, T_seql, T_sneq, T_slss, T_sgtr, bs_eq, dens, List.map_cons, List.map_nil, Ex.den, nth_zero, nth_succ, List.cons_append, List.nil_append, D.int_i, D.bool_b, D.str_s, D.rows_l, D.cells_r, compare_eql, compare_neq, compare_lss, compare_leq, compare_gtr, compare_geq, scompare_eql, scompare_neq, slit_bs, seq_dec, seqn_dec, bs_size, byteAt_bs, bs_append, scut_bs, eql_dec, bne_dec, or_dec, and_dec, not_dec, Bool.true_and, Bool.and_true, Bool.false_and, Bool.and_false, Bool.true_or, Bool.or_true, Bool.false_or, Bool.or_false, Bool.not_true, Bool.not_false, Int.toNat_natCast, add_i64, sub_i64, add_one, nat_add, decide_true, decide_false, if_true, if_false, true_and, and_true, false_and, and_false, true_or, or_true, false_or, or_false, not_true_eq_false, not_false_eq_true, eq_self, decide_eq_true_eq, Bool.and_eq_true, Bool.or_eq_true, Bool.not_eq_true', decide_eq_false_iff_not, Bool.false_eq_true, getD_lt h3, blank_eq]
      cases hb : blank s[i] with
      | true => simp (disch := omega) only [z_leaf, z_jump, z_guard, z_letx, z_call, z_ite, z_join, grd_true, grd_pos, brn_true, brn_false, brn_pos, brn_neg, thn_some, lab_same, lab_other, rnd_same, rnd_other, Nat.reduceBEq, T_var, T_cell, T_blit, T_both, T_one, T_no, T_beq, T_eql, T_neq, T_lss, T_leq, T_gtr, T_geq, T_seql, T_sneq, T_slss, T_sgtr, bs_eq, dens, List.map_cons, List.map_nil, Ex.den, nth_zero, nth_succ, List.cons_append, List.nil_append, D.int_i, D.bool_b, D.str_s, D.rows_l, D.cells_r, compare_eql, compare_neq, compare_lss, compare_leq, compare_gtr, compare_geq, scompare_eql, scompare_neq, slit_bs, seq_dec, seqn_dec, bs_size, byteAt_bs, bs_append, scut_bs, eql_dec, bne_dec, or_dec, and_dec, not_dec, Bool.true_and, Bool.and_true, Bool.false_and, Bool.and_false, Bool.true_or, Bool.or_true, Bool.false_or, Bool.or_false, Bool.not_true, Bool.not_false, Int.toNat_natCast, add_i64, sub_i64, add_one, nat_add, decide_true, decide_false, if_true, if_false, true_and, and_true, false_and, and_false, true_or, or_true, false_or, or_false, not_true_eq_false, not_false_eq_true, eq_self, decide_eq_true_eq, Bool.and_eq_true, Bool.or_eq_true, Bool.not_eq_true', decide_eq_false_iff_not, Bool.false_eq_true]; rw [ih (i + 1) (by omega) (by omega), runTo_yes h3 hb]
      | false => simp (disch := omega) only [z_leaf, z_jump, z_guard, z_letx, z_call, z_ite, z_join, grd_true, grd_pos, brn_true, brn_false, brn_pos, brn_neg, thn_some, lab_same, lab_other, rnd_same, rnd_other, Nat.reduceBEq, T_var, T_cell, T_blit, T_both, T_one, T_no, T_beq, T_eql, T_neq, T_lss, T_leq, T_gtr, T_geq, T_seql, T_sneq, T_slss, T_sgtr, bs_eq, dens, List.map_cons, List.map_nil, Ex.den, nth_zero, nth_succ, List.cons_append, List.nil_append, D.int_i, D.bool_b, D.str_s, D.rows_l, D.cells_r, compare_eql, compare_neq, compare_lss, compare_leq, compare_gtr, compare_geq, scompare_eql, scompare_neq, slit_bs, seq_dec, seqn_dec, bs_size, byteAt_bs, bs_append, scut_bs, eql_dec, bne_dec, or_dec, and_dec, not_dec, Bool.true_and, Bool.and_true, Bool.false_and, Bool.and_false, Bool.true_or, Bool.or_true, Bool.false_or, Bool.or_false, Bool.not_true, Bool.not_false, Int.toNat_natCast, add_i64, sub_i64, add_one, nat_add, decide_true, decide_false, if_true, if_false, true_and, and_true, false_and, and_false, true_or, or_true, false_or, or_false, not_true_eq_false, not_false_eq_true, eq_self, decide_eq_true_eq, Bool.and_eq_true, Bool.or_eq_true, Bool.not_eq_true', decide_eq_false_iff_not, Bool.false_eq_true]; rw [runTo_no h3 hb]
  exact key _ i rfl hi

theorem run49 (s ts : List UInt8) (at0 tk tat trip : Int) (bad : Bool) (i : Nat) (h : s.length < 1000000) (hi : i ≤ s.length) :
    L 46049 [.s (bs s), .i at0, .i tk, .i tat, .s (bs ts), .b bad, .i trip, .i i] = some [.s (bs s), .i at0, .i tk, .i tat, .s (bs ts), .b bad, .i trip, .i (runTo letter s i : Nat)] := by
  refine l46049 ?_ rfl
  rw [fnDen_eq]
  unfold t46049
  refine z_loop fun G hG => ?_
  have key : ∀ (n i : Nat), s.length - i = n → i ≤ s.length → G [.i i] = some [.s (bs s), .i at0, .i tk, .i tat, .s (bs ts), .b bad, .i trip, .i (runTo letter s i : Nat)] := by
    intro n
    induction n with
    | zero =>
      intro i h1 h2
      rw [hG, runTo_end (by omega)]
      simp (disch := omega) only [z_leaf, z_jump, z_guard, z_letx, z_call, z_ite, z_join, grd_true, grd_pos, brn_true, brn_false, brn_pos, brn_neg, thn_some, lab_same, lab_other, rnd_same, rnd_other, Nat.reduceBEq, T_var, T_cell, T_blit, T_both, T_one, T_no, T_beq, T_eql, T_neq, T_lss, T_leq, T_gtr, T_geq, T_seql, T_sneq, T_slss, T_sgtr, bs_eq, dens, List.map_cons, List.map_nil, Ex.den, nth_zero, nth_succ, List.cons_append, List.nil_append, D.int_i, D.bool_b, D.str_s, D.rows_l, D.cells_r, compare_eql, compare_neq, compare_lss, compare_leq, compare_gtr, compare_geq, scompare_eql, scompare_neq, slit_bs, seq_dec, seqn_dec, bs_size, byteAt_bs, bs_append, scut_bs, eql_dec, bne_dec, or_dec, and_dec, not_dec, Bool.true_and, Bool.and_true, Bool.false_and, Bool.and_false, Bool.true_or, Bool.or_true, Bool.false_or, Bool.or_false, Bool.not_true, Bool.not_false, Int.toNat_natCast, add_i64, sub_i64, add_one, nat_add, decide_true, decide_false, if_true, if_false, true_and, and_true, false_and, and_false, true_or, or_true, false_or, or_false, not_true_eq_false, not_false_eq_true, eq_self, decide_eq_true_eq, Bool.and_eq_true, Bool.or_eq_true, Bool.not_eq_true', decide_eq_false_iff_not, Bool.false_eq_true]
    | succ n ih =>
      intro i h1 h2
      have h3 : i < s.length := by omega
      rw [hG]
      simp (disch := omega) only [z_leaf, z_jump, z_guard, z_letx, z_call, z_ite, z_join, grd_true, grd_pos, brn_true, brn_false, brn_pos, brn_neg, thn_some, lab_same, lab_other, rnd_same, rnd_other, Nat.reduceBEq, T_var, T_cell, T_blit, T_both, T_one, T_no, T_beq, T_eql, T_neq, T_lss, T_leq, T_gtr, T_geq, T_seql, T_sneq, T_slss, T_sgtr, bs_eq, dens, List.map_cons, List.map_nil, Ex.den, nth_zero, nth_succ, List.cons_append, List.nil_append, D.int_i, D.bool_b, D.str_s, D.rows_l, D.cells_r, compare_eql, compare_neq, compare_lss, compare_leq, compare_gtr, compare_geq, scompare_eql, scompare_neq, slit_bs, seq_dec, seqn_dec, bs_size, byteAt_bs, bs_append, scut_bs, eql_dec, bne_dec, or_dec, and_dec, not_dec, Bool.true_and, Bool.and_true, Bool.false_and, Bool.and_false, Bool.true_or, Bool.or_true, Bool.false_or, Bool.or_false, Bool.not_true, Bool.not_false, Int.toNat_natCast, add_i64, sub_i64, add_one, nat_add, decide_true, decide_false, if_true, if_false, true_and, and_true, false_and, and_false, true_or, or_true, false_or, or_false, not_true_eq_false, not_false_eq_true, eq_self, decide_eq_true_eq, Bool.and_eq_true, Bool.or_eq_true, Bool.not_eq_true', decide_eq_false_iff_not, Bool.false_eq_true, getD_lt h3, letter_eq]
      cases hb : letter s[i] with
      | true => simp (disch := omega) only [z_leaf, z_jump, z_guard, z_letx, z_call, z_ite, z_join, grd_true, grd_pos, brn_true, brn_false, brn_pos, brn_neg, thn_some, lab_same, lab_other, rnd_same, rnd_other, Nat.reduceBEq, T_var, T_cell, T_blit, T_both, T_one, T_no, T_beq, T_eql, T_neq, T_lss, T_leq, T_gtr, T_geq, T_seql, T_sneq, T_slss, T_sgtr, bs_eq, dens, List.map_cons, List.map_nil, Ex.den, nth_zero, nth_succ, List.cons_append, List.nil_append, D.int_i, D.bool_b, D.str_s, D.rows_l, D.cells_r, compare_eql, compare_neq, compare_lss, compare_leq, compare_gtr, compare_geq, scompare_eql, scompare_neq, slit_bs, seq_dec, seqn_dec, bs_size, byteAt_bs, bs_append, scut_bs, eql_dec, bne_dec, or_dec, and_dec, not_dec, Bool.true_and, Bool.and_true, Bool.false_and, Bool.and_false, Bool.true_or, Bool.or_true, Bool.false_or, Bool.or_false, Bool.not_true, Bool.not_false, Int.toNat_natCast, add_i64, sub_i64, add_one, nat_add, decide_true, decide_false, if_true, if_false, true_and, and_true, false_and, and_false, true_or, or_true, false_or, or_false, not_true_eq_false, not_false_eq_true, eq_self, decide_eq_true_eq, Bool.and_eq_true, Bool.or_eq_true, Bool.not_eq_true', decide_eq_false_iff_not, Bool.false_eq_true]; rw [ih (i + 1) (by omega) (by omega), runTo_yes h3 hb]
      | false => simp (disch := omega) only [z_leaf, z_jump, z_guard, z_letx, z_call, z_ite, z_join, grd_true, grd_pos, brn_true, brn_false, brn_pos, brn_neg, thn_some, lab_same, lab_other, rnd_same, rnd_other, Nat.reduceBEq, T_var, T_cell, T_blit, T_both, T_one, T_no, T_beq, T_eql, T_neq, T_lss, T_leq, T_gtr, T_geq, T_seql, T_sneq, T_slss, T_sgtr, bs_eq, dens, List.map_cons, List.map_nil, Ex.den, nth_zero, nth_succ, List.cons_append, List.nil_append, D.int_i, D.bool_b, D.str_s, D.rows_l, D.cells_r, compare_eql, compare_neq, compare_lss, compare_leq, compare_gtr, compare_geq, scompare_eql, scompare_neq, slit_bs, seq_dec, seqn_dec, bs_size, byteAt_bs, bs_append, scut_bs, eql_dec, bne_dec, or_dec, and_dec, not_dec, Bool.true_and, Bool.and_true, Bool.false_and, Bool.and_false, Bool.true_or, Bool.or_true, Bool.false_or, Bool.or_false, Bool.not_true, Bool.not_false, Int.toNat_natCast, add_i64, sub_i64, add_one, nat_add, decide_true, decide_false, if_true, if_false, true_and, and_true, false_and, and_false, true_or, or_true, false_or, or_false, not_true_eq_false, not_false_eq_true, eq_self, decide_eq_true_eq, Bool.and_eq_true, Bool.or_eq_true, Bool.not_eq_true', decide_eq_false_iff_not, Bool.false_eq_true]; rw [runTo_no h3 hb]
  exact key _ i rfl hi

theorem run50 (s ts : List UInt8) (at0 tk tat trip : Int) (bad : Bool) (i : Nat) (h : s.length < 1000000) (hi : i ≤ s.length) :
    L 46050 [.s (bs s), .i at0, .i tk, .i tat, .s (bs ts), .b bad, .i trip, .i i] = some [.s (bs s), .i at0, .i tk, .i tat, .s (bs ts), .b bad, .i trip, .i (runTo digit s i : Nat)] := by
  refine l46050 ?_ rfl
  rw [fnDen_eq]
  unfold t46050
  refine z_loop fun G hG => ?_
  have key : ∀ (n i : Nat), s.length - i = n → i ≤ s.length → G [.i i] = some [.s (bs s), .i at0, .i tk, .i tat, .s (bs ts), .b bad, .i trip, .i (runTo digit s i : Nat)] := by
    intro n
    induction n with
    | zero =>
      intro i h1 h2
      rw [hG, runTo_end (by omega)]
      simp (disch := omega) only [z_leaf, z_jump, z_guard, z_letx, z_call, z_ite, z_join, grd_true, grd_pos, brn_true, brn_false, brn_pos, brn_neg, thn_some, lab_same, lab_other, rnd_same, rnd_other, Nat.reduceBEq, T_var, T_cell, T_blit, T_both, T_one, T_no, T_beq, T_eql, T_neq, T_lss, T_leq, T_gtr, T_geq, T_seql, T_sneq, T_slss, T_sgtr, bs_eq, dens, List.map_cons, List.map_nil, Ex.den, nth_zero, nth_succ, List.cons_append, List.nil_append, D.int_i, D.bool_b, D.str_s, D.rows_l, D.cells_r, compare_eql, compare_neq, compare_lss, compare_leq, compare_gtr, compare_geq, scompare_eql, scompare_neq, slit_bs, seq_dec, seqn_dec, bs_size, byteAt_bs, bs_append, scut_bs, eql_dec, bne_dec, or_dec, and_dec, not_dec, Bool.true_and, Bool.and_true, Bool.false_and, Bool.and_false, Bool.true_or, Bool.or_true, Bool.false_or, Bool.or_false, Bool.not_true, Bool.not_false, Int.toNat_natCast, add_i64, sub_i64, add_one, nat_add, decide_true, decide_false, if_true, if_false, true_and, and_true, false_and, and_false, true_or, or_true, false_or, or_false, not_true_eq_false, not_false_eq_true, eq_self, decide_eq_true_eq, Bool.and_eq_true, Bool.or_eq_true, Bool.not_eq_true', decide_eq_false_iff_not, Bool.false_eq_true]
    | succ n ih =>
      intro i h1 h2
      have h3 : i < s.length := by omega
      rw [hG]
      simp (disch := omega) only [z_leaf, z_jump, z_guard, z_letx, z_call, z_ite, z_join, grd_true, grd_pos, brn_true, brn_false, brn_pos, brn_neg, thn_some, lab_same, lab_other, rnd_same, rnd_other, Nat.reduceBEq, T_var, T_cell, T_blit, T_both, T_one, T_no, T_beq, T_eql, T_neq, T_lss, T_leq, T_gtr, T_geq, T_seql, T_sneq, T_slss, T_sgtr, bs_eq, dens, List.map_cons, List.map_nil, Ex.den, nth_zero, nth_succ, List.cons_append, List.nil_append, D.int_i, D.bool_b, D.str_s, D.rows_l, D.cells_r, compare_eql, compare_neq, compare_lss, compare_leq, compare_gtr, compare_geq, scompare_eql, scompare_neq, slit_bs, seq_dec, seqn_dec, bs_size, byteAt_bs, bs_append, scut_bs, eql_dec, bne_dec, or_dec, and_dec, not_dec, Bool.true_and, Bool.and_true, Bool.false_and, Bool.and_false, Bool.true_or, Bool.or_true, Bool.false_or, Bool.or_false, Bool.not_true, Bool.not_false, Int.toNat_natCast, add_i64, sub_i64, add_one, nat_add, decide_true, decide_false, if_true, if_false, true_and, and_true, false_and, and_false, true_or, or_true, false_or, or_false, not_true_eq_false, not_false_eq_true, eq_self, decide_eq_true_eq, Bool.and_eq_true, Bool.or_eq_true, Bool.not_eq_true', decide_eq_false_iff_not, Bool.false_eq_true, getD_lt h3, digit_eq]
      cases hb : digit s[i] with
      | true => simp (disch := omega) only [z_leaf, z_jump, z_guard, z_letx, z_call, z_ite, z_join, grd_true, grd_pos, brn_true, brn_false, brn_pos, brn_neg, thn_some, lab_same, lab_other, rnd_same, rnd_other, Nat.reduceBEq, T_var, T_cell, T_blit, T_both, T_one, T_no, T_beq, T_eql, T_neq, T_lss, T_leq, T_gtr, T_geq, T_seql, T_sneq, T_slss, T_sgtr, bs_eq, dens, List.map_cons, List.map_nil, Ex.den, nth_zero, nth_succ, List.cons_append, List.nil_append, D.int_i, D.bool_b, D.str_s, D.rows_l, D.cells_r, compare_eql, compare_neq, compare_lss, compare_leq, compare_gtr, compare_geq, scompare_eql, scompare_neq, slit_bs, seq_dec, seqn_dec, bs_size, byteAt_bs, bs_append, scut_bs, eql_dec, bne_dec, or_dec, and_dec, not_dec, Bool.true_and, Bool.and_true, Bool.false_and, Bool.and_false, Bool.true_or, Bool.or_true, Bool.false_or, Bool.or_false, Bool.not_true, Bool.not_false, Int.toNat_natCast, add_i64, sub_i64, add_one, nat_add, decide_true, decide_false, if_true, if_false, true_and, and_true, false_and, and_false, true_or, or_true, false_or, or_false, not_true_eq_false, not_false_eq_true, eq_self, decide_eq_true_eq, Bool.and_eq_true, Bool.or_eq_true, Bool.not_eq_true', decide_eq_false_iff_not, Bool.false_eq_true]; rw [ih (i + 1) (by omega) (by omega), runTo_yes h3 hb]
      | false => simp (disch := omega) only [z_leaf, z_jump, z_guard, z_letx, z_call, z_ite, z_join, grd_true, grd_pos, brn_true, brn_false, brn_pos, brn_neg, thn_some, lab_same, lab_other, rnd_same, rnd_other, Nat.reduceBEq, T_var, T_cell, T_blit, T_both, T_one, T_no, T_beq, T_eql, T_neq, T_lss, T_leq, T_gtr, T_geq, T_seql, T_sneq, T_slss, T_sgtr, bs_eq, dens, List.map_cons, List.map_nil, Ex.den, nth_zero, nth_succ, List.cons_append, List.nil_append, D.int_i, D.bool_b, D.str_s, D.rows_l, D.cells_r, compare_eql, compare_neq, compare_lss, compare_leq, compare_gtr, compare_geq, scompare_eql, scompare_neq, slit_bs, seq_dec, seqn_dec, bs_size, byteAt_bs, bs_append, scut_bs, eql_dec, bne_dec, or_dec, and_dec, not_dec, Bool.true_and, Bool.and_true, Bool.false_and, Bool.and_false, Bool.true_or, Bool.or_true, Bool.false_or, Bool.or_false, Bool.not_true, Bool.not_false, Int.toNat_natCast, add_i64, sub_i64, add_one, nat_add, decide_true, decide_false, if_true, if_false, true_and, and_true, false_and, and_false, true_or, or_true, false_or, or_false, not_true_eq_false, not_false_eq_true, eq_self, decide_eq_true_eq, Bool.and_eq_true, Bool.or_eq_true, Bool.not_eq_true', decide_eq_false_iff_not, Bool.false_eq_true]; rw [runTo_no h3 hb]
  exact key _ i rfl hi

theorem fail_eq (s ts : List UInt8) (at0 tk tat trip : Int) (bad : Bool) : L 21 [.s (bs s), .i at0, .i tk, .i tat, .s (bs ts), .b bad, .i trip] = some [.s (bs s), .i at0, .i tk, .i tat, .s (bs ts), .b true, .i (if bad then trip else tat)] := by
  refine l21 ?_ rfl
  rw [fnDen_eq]
  cases bad <;> simp (disch := omega) only [t21, z_leaf, z_jump, z_guard, z_letx, z_call, z_ite, z_join, grd_true, grd_pos, brn_true, brn_false, brn_pos, brn_neg, thn_some, lab_same, lab_other, rnd_same, rnd_other, Nat.reduceBEq, T_var, T_cell, T_blit, T_both, T_one, T_no, T_beq, T_eql, T_neq, T_lss, T_leq, T_gtr, T_geq, T_seql, T_sneq, T_slss, T_sgtr, bs_eq, dens, List.map_cons, List.map_nil, Ex.den, nth_zero, nth_succ, List.cons_append, List.nil_append, D.int_i, D.bool_b, D.str_s, D.rows_l, D.cells_r, compare_eql, compare_neq, compare_lss, compare_leq, compare_gtr, compare_geq, scompare_eql, scompare_neq, slit_bs, seq_dec, seqn_dec, bs_size, byteAt_bs, bs_append, scut_bs, eql_dec, bne_dec, or_dec, and_dec, not_dec, Bool.true_and, Bool.and_true, Bool.false_and, Bool.and_false, Bool.true_or, Bool.or_true, Bool.false_or, Bool.or_false, Bool.not_true, Bool.not_false, Int.toNat_natCast, add_i64, sub_i64, add_one, nat_add, decide_true, decide_false, if_true, if_false, true_and, and_true, false_and, and_false, true_or, or_true, false_or, or_false, not_true_eq_false, not_false_eq_true, eq_self, decide_eq_true_eq, Bool.and_eq_true, Bool.or_eq_true, Bool.not_eq_true', decide_eq_false_iff_not, Bool.false_eq_true] <;> rfl

end Glw
