/- A text that reads as a policy is parsed as that policy. -/
import Derived.Test.YtfelpmijieomaaaGreatDoorGlwC
set_option linter.unusedSimpArgs false
set_option linter.unusedVariables false
namespace Glw
open Go Go.Proofs Glx

inductive Rule where
  | mk (kind n : Int) (key val : List UInt8) (kids : List Rule)

theorem Rule.ind {P : Rule → Prop} (h : ∀ k n a b ks, (∀ r ∈ ks, P r) → P (.mk k n a b ks)) (r : Rule) : P r :=
  Rule.rec (motive_1 := P) (motive_2 := fun l => ∀ r ∈ l, P r) (fun k n a b ks ih => h k n a b ks ih) (fun _ h => by cases h) (fun _ _ h1 h2 r hr => by
    rcases List.mem_cons.1 hr with rfl | hr
    · exact h1
    · exact h2 r hr) r

mutual
def Rule.cells : Rule → List D
  | .mk k n a b ks => [.i k, .i n, .s (bs a), .s (bs b), .l (rows ks)]
def rows : List Rule → List (List D)
  | [] => []
  | r :: l => r.cells :: rows l
end

theorem rows_append : ∀ a b : List Rule, rows (a ++ b) = rows a ++ rows b
  | [], _ => rfl
  | r :: a, b => by simp only [List.cons_append, rows, rows_append a b]
@[simp] theorem rows_length : ∀ a : List Rule, (rows a).length = a.length
  | [] => rfl
  | r :: a => by simp only [rows, List.length_cons, rows_length a]

/-- the token at a place, and where it ends -/
def T (s : List UInt8) (i : Nat) (k : Int) (g : List UInt8) (j : Nat) : Prop := (lex s i).1 = k ∧ (lex s i).2.2.1 = g ∧ (lex s i).2.2.2 = j

/-- a parser that looks at the token at a place -/
def St (s : List UInt8) (i : Nat) : List D := [.s (bs s), .i ((lex s i).2.2.2 : Nat), .i (lex s i).1, .i ((lex s i).2.1 : Nat), .s (bs (lex s i).2.2.1), .b false, .i 0]

mutual
/-- a policy's tokens from a place to another -/
def Reads (s : List UInt8) : Rule → Nat → Nat → Prop
  | .mk k n a b ks, i, j => ∃ w m, T s i 2 w m ∧ kindOf w = k ∧ k ≠ 0 ∧
    if k = 1 ∨ k = 2 ∨ k = 3 then n = 0 ∧ a = [] ∧ b = [] ∧ (k = 3 → ks.length = 1) ∧ ks.length ≤ 1000 ∧ ∃ m1 m2, T s m 5 [40] m1 ∧ ReadsL s ks m1 m2 ∧ T s m2 5 [41] j
    else if k = 6 then n = 0 ∧ ks = [] ∧ ∃ m1, T s m 4 a m1 ∧ T s m1 4 b j
    else if k = 5 then n = 0 ∧ a = [] ∧ b = [] ∧ ks = [] ∧ j = m
    else a = [] ∧ b = [] ∧ ks = [] ∧ ∃ g, T s m 3 g j ∧ Lib.atoiAll g = .ok n ∧ g.length < 1000000
def ReadsL (s : List UInt8) : List Rule → Nat → Nat → Prop
  | [], i, j => i = j
  | r :: l, i, j => match l with
    | [] => Reads s r i j
    | _ :: _ => ∃ m m', Reads s r i m ∧ T s m 5 [44] m' ∧ ReadsL s l m' j
end

theorem atoi_eq {g : List UInt8} {n : Int} (h : Lib.atoiAll g = .ok n) (hg : g.length < 1000000) : L 33 [.s (bs g)] = some [.i n, .b true] := by
  refine l33 ?_ rfl
  unfold atoiD
  simp only [List.getD_cons_zero, D.str_s, bs_data, h]
  rw [if_pos (by rw [bs_size]; omega)]

theorem must_sign (s g : List UInt8) (pos : Nat) (tat trip : Int) (h : s.length < 1000000) (hp : pos ≤ s.length) :
    L 31 [.s (bs s), .i pos, .i 5, .i tat, .s (bs g), .b false, .i trip, .i 5, .s (bs g)] = some [.s (bs s), .i ((lex s pos).2.2.2 : Nat), .i (lex s pos).1, .i ((lex s pos).2.1 : Nat), .s (bs (lex s pos).2.2.1), .b false, .i trip, .s (bs g)] :=
  must_ok s g g pos 5 tat trip h hp fun _ => rfl
theorem must_tok (s ts g : List UInt8) (pos : Nat) (tk tat trip : Int) (h : s.length < 1000000) (hp : pos ≤ s.length) (hk : tk ≠ 5) :
    L 31 [.s (bs s), .i pos, .i tk, .i tat, .s (bs ts), .b false, .i trip, .i tk, .s (bs g)] = some [.s (bs s), .i ((lex s pos).2.2.2 : Nat), .i (lex s pos).1, .i ((lex s pos).2.1 : Nat), .s (bs (lex s pos).2.2.1), .b false, .i trip, .s (bs ts)] :=
  must_ok s ts g pos tk tat trip h hp fun h => absurd h hk

theorem T.le {s : List UInt8} {i j : Nat} {k : Int} {g : List UInt8} (h : T s i k g j) (hi : i ≤ s.length) : j ≤ s.length := by
  have := lex_le hi
  rw [h.2.2] at this
  exact this

/-- what is to be shown of a policy -/
def Good (s : List UInt8) (r : Rule) : Prop := ∀ i j, i ≤ s.length → Reads s r i j → j ≤ s.length ∧ L 20 (St s i) = some (St s j ++ r.cells)

theorem readsL_le {s : List UInt8} : ∀ (ks : List Rule), (∀ r ∈ ks, Good s r) → ∀ i j, i ≤ s.length → ReadsL s ks i j → j ≤ s.length
  | [], _, i, j, hi, hr => by cases hr; exact hi
  | [r], hk, i, j, hi, hr => (hk r (List.mem_cons_self ..) i j hi (by simpa only [ReadsL] using hr)).1
  | r :: x :: l, hk, i, j, hi, hr => by
    rw [ReadsL] at hr
    obtain ⟨m, m', h1, h2, h3⟩ := hr
    have h4 := (hk r (List.mem_cons_self ..) i m hi h1).1
    exact readsL_le (x :: l) (fun y hy => hk y (List.mem_cons_of_mem _ hy)) m' j (h2.le h4) h3

theorem n4144 : (([41] : List UInt8) = [44]) = False := by simp
theorem n4441 : (([44] : List UInt8) = [41]) = False := by simp

theorem readsL_first {s : List UInt8} {r0 : Rule} {l0 : List Rule} {i j : Nat} (hr : ReadsL s (r0 :: l0) i j) : (lex s i).1 = 2 := by
  obtain ⟨k, n, a, b, ks⟩ := r0
  cases l0 with
  | nil =>
    simp only [ReadsL, Reads] at hr
    obtain ⟨w, m, h1, _⟩ := hr
    exact h1.1
  | cons x l =>
    simp only [ReadsL, Reads] at hr
    obtain ⟨m, m', ⟨w, m2, h1, _⟩, _⟩ := hr
    exact h1.1

theorem kids_ok {s : List UInt8} (h : s.length < 1000000) {ks : List Rule} (hks : ∀ r ∈ ks, Good s r) (hl : ks.length ≤ 1000) {i j e : Nat} (hi : i ≤ s.length) (hr : ReadsL s ks i j) (he : T s j 5 [41] e) :
    L 32 (St s i) = some (St s j ++ [.l (rows ks)]) := by
  refine l32 ?_ rfl
  obtain ⟨he1, he2, he3⟩ := he
  rw [fnDen_eq]
  cases ks with
  | nil =>
    cases hr
    simp (disch := omega) only [t32, St, z_leaf, z_jump, z_guard, z_letx, z_call, z_ite, z_join, grd_true, grd_pos, brn_true, brn_false, brn_pos, brn_neg, thn_some, lab_same, lab_other, rnd_same, rnd_other, Nat.reduceBEq, T_var, T_cell, T_blit, T_both, T_one, T_no, T_beq, T_eql, T_neq, T_lss, T_leq, T_gtr, T_geq, T_seql, T_sneq, T_slss, T_sgtr, bs_eq, dens, List.map_cons, List.map_nil, Ex.den, nth_zero, nth_succ, List.cons_append, List.nil_append, D.int_i, D.bool_b, D.str_s, D.rows_l, D.cells_r, compare_eql, compare_neq, compare_lss, compare_leq, compare_gtr, compare_geq, scompare_eql, scompare_neq, slit_bs, seq_dec, seqn_dec, bs_size, byteAt_bs, bs_append, scut_bs, eql_dec, bne_dec, or_dec, and_dec, not_dec, Bool.true_and, Bool.and_true, Bool.false_and, Bool.and_false, Bool.true_or, Bool.or_true, Bool.false_or, Bool.or_false, Bool.not_true, Bool.not_false, Int.toNat_natCast, add_i64, sub_i64, add_one, nat_add, decide_true, decide_false, if_true, if_false, true_and, and_true, false_and, and_false, true_or, or_true, false_or, or_false, not_true_eq_false, not_false_eq_true, eq_self, decide_eq_true_eq, Bool.and_eq_true, Bool.or_eq_true, Bool.not_eq_true', decide_eq_false_iff_not, Bool.false_eq_true, is_eq, he1, he2]
    refine z_loop fun G hG => ?_
    simp (disch := omega) only [z_leaf, z_jump, z_guard, z_letx, z_call, z_ite, z_join, grd_true, grd_pos, brn_true, brn_false, brn_pos, brn_neg, thn_some, lab_same, lab_other, rnd_same, rnd_other, Nat.reduceBEq, T_var, T_cell, T_blit, T_both, T_one, T_no, T_beq, T_eql, T_neq, T_lss, T_leq, T_gtr, T_geq, T_seql, T_sneq, T_slss, T_sgtr, bs_eq, dens, List.map_cons, List.map_nil, Ex.den, nth_zero, nth_succ, List.cons_append, List.nil_append, D.int_i, D.bool_b, D.str_s, D.rows_l, D.cells_r, compare_eql, compare_neq, compare_lss, compare_leq, compare_gtr, compare_geq, scompare_eql, scompare_neq, slit_bs, seq_dec, seqn_dec, bs_size, byteAt_bs, bs_append, scut_bs, eql_dec, bne_dec, or_dec, and_dec, not_dec, Bool.true_and, Bool.and_true, Bool.false_and, Bool.and_false, Bool.true_or, Bool.or_true, Bool.false_or, Bool.or_false, Bool.not_true, Bool.not_false, Int.toNat_natCast, add_i64, sub_i64, add_one, nat_add, decide_true, decide_false, if_true, if_false, true_and, and_true, false_and, and_false, true_or, or_true, false_or, or_false, not_true_eq_false, not_false_eq_true, eq_self, decide_eq_true_eq, Bool.and_eq_true, Bool.or_eq_true, Bool.not_eq_true', decide_eq_false_iff_not, Bool.false_eq_true]
    rw [hG]
    simp (disch := omega) only [z_leaf, z_jump, z_guard, z_letx, z_call, z_ite, z_join, grd_true, grd_pos, brn_true, brn_false, brn_pos, brn_neg, thn_some, lab_same, lab_other, rnd_same, rnd_other, Nat.reduceBEq, T_var, T_cell, T_blit, T_both, T_one, T_no, T_beq, T_eql, T_neq, T_lss, T_leq, T_gtr, T_geq, T_seql, T_sneq, T_slss, T_sgtr, bs_eq, dens, List.map_cons, List.map_nil, Ex.den, nth_zero, nth_succ, List.cons_append, List.nil_append, D.int_i, D.bool_b, D.str_s, D.rows_l, D.cells_r, compare_eql, compare_neq, compare_lss, compare_leq, compare_gtr, compare_geq, scompare_eql, scompare_neq, slit_bs, seq_dec, seqn_dec, bs_size, byteAt_bs, bs_append, scut_bs, eql_dec, bne_dec, or_dec, and_dec, not_dec, Bool.true_and, Bool.and_true, Bool.false_and, Bool.and_false, Bool.true_or, Bool.or_true, Bool.false_or, Bool.or_false, Bool.not_true, Bool.not_false, Int.toNat_natCast, add_i64, sub_i64, add_one, nat_add, decide_true, decide_false, if_true, if_false, true_and, and_true, false_and, and_false, true_or, or_true, false_or, or_false, not_true_eq_false, not_false_eq_true, eq_self, decide_eq_true_eq, Bool.and_eq_true, Bool.or_eq_true, Bool.not_eq_true', decide_eq_false_iff_not, Bool.false_eq_true, rows]
  | cons r0 l0 =>
    have hfirst := readsL_first hr
    simp (disch := omega) only [t32, St, z_leaf, z_jump, z_guard, z_letx, z_call, z_ite, z_join, grd_true, grd_pos, brn_true, brn_false, brn_pos, brn_neg, thn_some, lab_same, lab_other, rnd_same, rnd_other, Nat.reduceBEq, T_var, T_cell, T_blit, T_both, T_one, T_no, T_beq, T_eql, T_neq, T_lss, T_leq, T_gtr, T_geq, T_seql, T_sneq, T_slss, T_sgtr, bs_eq, dens, List.map_cons, List.map_nil, Ex.den, nth_zero, nth_succ, List.cons_append, List.nil_append, D.int_i, D.bool_b, D.str_s, D.rows_l, D.cells_r, compare_eql, compare_neq, compare_lss, compare_leq, compare_gtr, compare_geq, scompare_eql, scompare_neq, slit_bs, seq_dec, seqn_dec, bs_size, byteAt_bs, bs_append, scut_bs, eql_dec, bne_dec, or_dec, and_dec, not_dec, Bool.true_and, Bool.and_true, Bool.false_and, Bool.and_false, Bool.true_or, Bool.or_true, Bool.false_or, Bool.or_false, Bool.not_true, Bool.not_false, Int.toNat_natCast, add_i64, sub_i64, add_one, nat_add, decide_true, decide_false, if_true, if_false, true_and, and_true, false_and, and_false, true_or, or_true, false_or, or_false, not_true_eq_false, not_false_eq_true, eq_self, decide_eq_true_eq, Bool.and_eq_true, Bool.or_eq_true, Bool.not_eq_true', decide_eq_false_iff_not, Bool.false_eq_true, is_eq, hfirst]
    refine z_loop fun G hG => ?_
    have key : ∀ (l : List Rule) (r : Rule) (i : Nat) (out : List (List D)), out.length + l.length < 1001 → i ≤ s.length → (∀ x ∈ r :: l, Good s x) → ReadsL s (r :: l) i j →
        G (.b true :: (St s i ++ [.l out])) = some (St s j ++ [.l (out ++ rows (r :: l))]) := by
      intro l
      induction l with
      | nil =>
        intro r i out h1 h2 h3 h4
        obtain ⟨h5, h6⟩ := h3 r (List.mem_cons_self ..) i j h2 (by simpa only [ReadsL] using h4)
        obtain ⟨k, n, a, b, ks⟩ := r
        simp only [St, Rule.cells, List.cons_append, List.nil_append, he1, he2] at h6
        have hlen : ∀ x : List D, (out ++ [x]).length = out.length + 1 := fun x => by simp
        simp only [List.length_nil] at h1
        have hgd : ((out.length + 1 : Nat) : Int) ≤ 1954687338268 := by omega
        rw [hG]
        simp (disch := omega) only [St, z_leaf, z_jump, z_guard, z_letx, z_call, z_ite, z_join, grd_true, grd_pos, brn_true, brn_false, brn_pos, brn_neg, thn_some, lab_same, lab_other, rnd_same, rnd_other, Nat.reduceBEq, T_var, T_cell, T_blit, T_both, T_one, T_no, T_beq, T_eql, T_neq, T_lss, T_leq, T_gtr, T_geq, T_seql, T_sneq, T_slss, T_sgtr, bs_eq, dens, List.map_cons, List.map_nil, Ex.den, nth_zero, nth_succ, List.cons_append, List.nil_append, D.int_i, D.bool_b, D.str_s, D.rows_l, D.cells_r, compare_eql, compare_neq, compare_lss, compare_leq, compare_gtr, compare_geq, scompare_eql, scompare_neq, slit_bs, seq_dec, seqn_dec, bs_size, byteAt_bs, bs_append, scut_bs, eql_dec, bne_dec, or_dec, and_dec, not_dec, Bool.true_and, Bool.and_true, Bool.false_and, Bool.and_false, Bool.true_or, Bool.or_true, Bool.false_or, Bool.or_false, Bool.not_true, Bool.not_false, Int.toNat_natCast, add_i64, sub_i64, add_one, nat_add, decide_true, decide_false, if_true, if_false, true_and, and_true, false_and, and_false, true_or, or_true, false_or, or_false, not_true_eq_false, not_false_eq_true, eq_self, decide_eq_true_eq, Bool.and_eq_true, Bool.or_eq_true, Bool.not_eq_true', decide_eq_false_iff_not, Bool.false_eq_true, h6, hlen, hgd, is_eq, n4144]
        rw [hG]
        simp (disch := omega) only [z_leaf, z_jump, z_guard, z_letx, z_call, z_ite, z_join, grd_true, grd_pos, brn_true, brn_false, brn_pos, brn_neg, thn_some, lab_same, lab_other, rnd_same, rnd_other, Nat.reduceBEq, T_var, T_cell, T_blit, T_both, T_one, T_no, T_beq, T_eql, T_neq, T_lss, T_leq, T_gtr, T_geq, T_seql, T_sneq, T_slss, T_sgtr, bs_eq, dens, List.map_cons, List.map_nil, Ex.den, nth_zero, nth_succ, List.cons_append, List.nil_append, D.int_i, D.bool_b, D.str_s, D.rows_l, D.cells_r, compare_eql, compare_neq, compare_lss, compare_leq, compare_gtr, compare_geq, scompare_eql, scompare_neq, slit_bs, seq_dec, seqn_dec, bs_size, byteAt_bs, bs_append, scut_bs, eql_dec, bne_dec, or_dec, and_dec, not_dec, Bool.true_and, Bool.and_true, Bool.false_and, Bool.and_false, Bool.true_or, Bool.or_true, Bool.false_or, Bool.or_false, Bool.not_true, Bool.not_false, Int.toNat_natCast, add_i64, sub_i64, add_one, nat_add, decide_true, decide_false, if_true, if_false, true_and, and_true, false_and, and_false, true_or, or_true, false_or, or_false, not_true_eq_false, not_false_eq_true, eq_self, decide_eq_true_eq, Bool.and_eq_true, Bool.or_eq_true, Bool.not_eq_true', decide_eq_false_iff_not, Bool.false_eq_true, rows, Rule.cells, he1, he2]
      | cons x l ih =>
        intro r i out h1 h2 h3 h4
        rw [ReadsL] at h4
        obtain ⟨m, m', h5, ⟨h6, h6a, h6b⟩, h7⟩ := h4
        obtain ⟨h8, h9⟩ := h3 r (List.mem_cons_self ..) i m h2 h5
        obtain ⟨k, n, a, b, ks⟩ := r
        simp only [St, Rule.cells, List.cons_append, List.nil_append, h6, h6a, h6b] at h9
        have hlen : ∀ x : List D, (out ++ [x]).length = out.length + 1 := fun x => by simp
        simp only [List.length_cons] at h1
        have hm : m' ≤ s.length := by have := lex_le h8; rw [h6b] at this; exact this
        have hgd : ((out.length + 1 : Nat) : Int) ≤ 1954687338268 := by omega
        rw [hG]
        simp (disch := omega) only [St, z_leaf, z_jump, z_guard, z_letx, z_call, z_ite, z_join, grd_true, grd_pos, brn_true, brn_false, brn_pos, brn_neg, thn_some, lab_same, lab_other, rnd_same, rnd_other, Nat.reduceBEq, T_var, T_cell, T_blit, T_both, T_one, T_no, T_beq, T_eql, T_neq, T_lss, T_leq, T_gtr, T_geq, T_seql, T_sneq, T_slss, T_sgtr, bs_eq, dens, List.map_cons, List.map_nil, Ex.den, nth_zero, nth_succ, List.cons_append, List.nil_append, D.int_i, D.bool_b, D.str_s, D.rows_l, D.cells_r, compare_eql, compare_neq, compare_lss, compare_leq, compare_gtr, compare_geq, scompare_eql, scompare_neq, slit_bs, seq_dec, seqn_dec, bs_size, byteAt_bs, bs_append, scut_bs, eql_dec, bne_dec, or_dec, and_dec, not_dec, Bool.true_and, Bool.and_true, Bool.false_and, Bool.and_false, Bool.true_or, Bool.or_true, Bool.false_or, Bool.or_false, Bool.not_true, Bool.not_false, Int.toNat_natCast, add_i64, sub_i64, add_one, nat_add, decide_true, decide_false, if_true, if_false, true_and, and_true, false_and, and_false, true_or, or_true, false_or, or_false, not_true_eq_false, not_false_eq_true, eq_self, decide_eq_true_eq, Bool.and_eq_true, Bool.or_eq_true, Bool.not_eq_true', decide_eq_false_iff_not, Bool.false_eq_true, h9, hlen, hgd, is_eq, next_eq]
        have := ih x m' (out ++ [[.i k, .i n, .s (bs a), .s (bs b), .l (rows ks)]]) (by rw [hlen]; omega) hm (fun y hy => h3 y (List.mem_cons_of_mem _ hy)) h7
        simp only [St, List.cons_append, List.nil_append] at this
        rw [this]
        simp only [rows, Rule.cells, List.append_assoc, List.cons_append, List.nil_append]
    have := key l0 r0 i [] (by simp only [List.length_nil, List.length_cons] at hl ⊢; omega) hi hks hr
    simp (disch := omega) only [z_leaf, z_jump, z_guard, z_letx, z_call, z_ite, z_join, grd_true, grd_pos, brn_true, brn_false, brn_pos, brn_neg, thn_some, lab_same, lab_other, rnd_same, rnd_other, Nat.reduceBEq, T_var, T_cell, T_blit, T_both, T_one, T_no, T_beq, T_eql, T_neq, T_lss, T_leq, T_gtr, T_geq, T_seql, T_sneq, T_slss, T_sgtr, bs_eq, dens, List.map_cons, List.map_nil, Ex.den, nth_zero, nth_succ, List.cons_append, List.nil_append, D.int_i, D.bool_b, D.str_s, D.rows_l, D.cells_r, compare_eql, compare_neq, compare_lss, compare_leq, compare_gtr, compare_geq, scompare_eql, scompare_neq, slit_bs, seq_dec, seqn_dec, bs_size, byteAt_bs, bs_append, scut_bs, eql_dec, bne_dec, or_dec, and_dec, not_dec, Bool.true_and, Bool.and_true, Bool.false_and, Bool.and_false, Bool.true_or, Bool.or_true, Bool.false_or, Bool.or_false, Bool.not_true, Bool.not_false, Int.toNat_natCast, add_i64, sub_i64, add_one, nat_add, decide_true, decide_false, if_true, if_false, true_and, and_true, false_and, and_false, true_or, or_true, false_or, or_false, not_true_eq_false, not_false_eq_true, eq_self, decide_eq_true_eq, Bool.and_eq_true, Bool.or_eq_true, Bool.not_eq_true', decide_eq_false_iff_not, Bool.false_eq_true]
    simp only [St, List.cons_append, List.nil_append, hfirst] at this
    exact this

theorem rule_ok {s : List UInt8} (h : s.length < 1000000) (r : Rule) : Good s r := by
  induction r using Rule.ind with
  | h k n a b ks ih =>
    intro i j hi hr
    rw [Reads] at hr
    obtain ⟨w, m, ⟨h1, h2, h3⟩, h4, h5, h6⟩ := hr
    have hm : m ≤ s.length := by have := lex_le hi; rw [h3] at this; exact this
    by_cases c1 : k = 1 ∨ k = 2 ∨ k = 3
    · rw [if_pos c1] at h6
      obtain ⟨rfl, rfl, rfl, h7, h8, m1, m2, ⟨g1, g2, g3⟩, h9, ⟨f1, f2, f3⟩⟩ := h6
      have hm1 : m1 ≤ s.length := by have := lex_le hm; rw [g3] at this; exact this
      have hm2 := readsL_le ks ih m1 m2 hm1 h9
      have hj : j ≤ s.length := by have := lex_le hm2; rw [f3] at this; exact this
      refine ⟨hj, l20 ?_ rfl⟩
      rw [fnDen_eq]
      have hkids := kids_ok h ih h8 hm1 h9 ⟨f1, f2, f3⟩
      simp only [St, List.cons_append, List.nil_append, f1, f2, f3] at hkids
      by_cases c3 : k = 3
      · subst c3
        obtain ⟨r, rfl⟩ : ∃ r, ks = [r] := by
          have := h7 rfl
          match ks, this with
          | [r], _ => exact ⟨r, rfl⟩
        obtain ⟨_, hkid⟩ := ih r (List.mem_cons_self ..) m1 m2 hm1 (by simpa only [ReadsL] using h9)
        obtain ⟨k', n', a', b', ks'⟩ := r
        simp only [St, Rule.cells, List.cons_append, List.nil_append, f1, f2, f3] at hkid
        simp (disch := omega) only [t20, St, z_leaf, z_jump, z_guard, z_letx, z_call, z_ite, z_join, grd_true, grd_pos, brn_true, brn_false, brn_pos, brn_neg, thn_some, lab_same, lab_other, rnd_same, rnd_other, Nat.reduceBEq, T_var, T_cell, T_blit, T_both, T_one, T_no, T_beq, T_eql, T_neq, T_lss, T_leq, T_gtr, T_geq, T_seql, T_sneq, T_slss, T_sgtr, bs_eq, dens, List.map_cons, List.map_nil, Ex.den, nth_zero, nth_succ, List.cons_append, List.nil_append, D.int_i, D.bool_b, D.str_s, D.rows_l, D.cells_r, compare_eql, compare_neq, compare_lss, compare_leq, compare_gtr, compare_geq, scompare_eql, scompare_neq, slit_bs, seq_dec, seqn_dec, bs_size, byteAt_bs, bs_append, scut_bs, eql_dec, bne_dec, or_dec, and_dec, not_dec, Bool.true_and, Bool.and_true, Bool.false_and, Bool.and_false, Bool.true_or, Bool.or_true, Bool.false_or, Bool.or_false, Bool.not_true, Bool.not_false, Int.toNat_natCast, add_i64, sub_i64, add_one, nat_add, decide_true, decide_false, if_true, if_false, true_and, and_true, false_and, and_false, true_or, or_true, false_or, or_false, not_true_eq_false, not_false_eq_true, eq_self, decide_eq_true_eq, Bool.and_eq_true, Bool.or_eq_true, Bool.not_eq_true', decide_eq_false_iff_not, Bool.false_eq_true, h1, h2, h3, kind_eq, h4, next_eq, g1, g2, g3, must_sign, hkid, rows, Rule.cells]
      · have c12 : k = 1 ∨ k = 2 := by omega
        rcases c12 with rfl | rfl
        · simp (disch := omega) only [t20, St, z_leaf, z_jump, z_guard, z_letx, z_call, z_ite, z_join, grd_true, grd_pos, brn_true, brn_false, brn_pos, brn_neg, thn_some, lab_same, lab_other, rnd_same, rnd_other, Nat.reduceBEq, T_var, T_cell, T_blit, T_both, T_one, T_no, T_beq, T_eql, T_neq, T_lss, T_leq, T_gtr, T_geq, T_seql, T_sneq, T_slss, T_sgtr, bs_eq, dens, List.map_cons, List.map_nil, Ex.den, nth_zero, nth_succ, List.cons_append, List.nil_append, D.int_i, D.bool_b, D.str_s, D.rows_l, D.cells_r, compare_eql, compare_neq, compare_lss, compare_leq, compare_gtr, compare_geq, scompare_eql, scompare_neq, slit_bs, seq_dec, seqn_dec, bs_size, byteAt_bs, bs_append, scut_bs, eql_dec, bne_dec, or_dec, and_dec, not_dec, Bool.true_and, Bool.and_true, Bool.false_and, Bool.and_false, Bool.true_or, Bool.or_true, Bool.false_or, Bool.or_false, Bool.not_true, Bool.not_false, Int.toNat_natCast, add_i64, sub_i64, add_one, nat_add, decide_true, decide_false, if_true, if_false, true_and, and_true, false_and, and_false, true_or, or_true, false_or, or_false, not_true_eq_false, not_false_eq_true, eq_self, decide_eq_true_eq, Bool.and_eq_true, Bool.or_eq_true, Bool.not_eq_true', decide_eq_false_iff_not, Bool.false_eq_true, h1, h2, h3, kind_eq, h4, next_eq, g1, g2, g3, must_sign, hkids, rows, Rule.cells]
        · simp (disch := omega) only [t20, St, z_leaf, z_jump, z_guard, z_letx, z_call, z_ite, z_join, grd_true, grd_pos, brn_true, brn_false, brn_pos, brn_neg, thn_some, lab_same, lab_other, rnd_same, rnd_other, Nat.reduceBEq, T_var, T_cell, T_blit, T_both, T_one, T_no, T_beq, T_eql, T_neq, T_lss, T_leq, T_gtr, T_geq, T_seql, T_sneq, T_slss, T_sgtr, bs_eq, dens, List.map_cons, List.map_nil, Ex.den, nth_zero, nth_succ, List.cons_append, List.nil_append, D.int_i, D.bool_b, D.str_s, D.rows_l, D.cells_r, compare_eql, compare_neq, compare_lss, compare_leq, compare_gtr, compare_geq, scompare_eql, scompare_neq, slit_bs, seq_dec, seqn_dec, bs_size, byteAt_bs, bs_append, scut_bs, eql_dec, bne_dec, or_dec, and_dec, not_dec, Bool.true_and, Bool.and_true, Bool.false_and, Bool.and_false, Bool.true_or, Bool.or_true, Bool.false_or, Bool.or_false, Bool.not_true, Bool.not_false, Int.toNat_natCast, add_i64, sub_i64, add_one, nat_add, decide_true, decide_false, if_true, if_false, true_and, and_true, false_and, and_false, true_or, or_true, false_or, or_false, not_true_eq_false, not_false_eq_true, eq_self, decide_eq_true_eq, Bool.and_eq_true, Bool.or_eq_true, Bool.not_eq_true', decide_eq_false_iff_not, Bool.false_eq_true, h1, h2, h3, kind_eq, h4, next_eq, g1, g2, g3, must_sign, hkids, rows, Rule.cells]
    · rw [if_neg c1] at h6
      by_cases c6 : k = 6
      · rw [if_pos c6] at h6
        subst c6
        obtain ⟨rfl, rfl, m1, ⟨g1, g2, g3⟩, ⟨f1, f2, f3⟩⟩ := h6
        have hm1 : m1 ≤ s.length := by have := lex_le hm; rw [g3] at this; exact this
        have hj : j ≤ s.length := by have := lex_le hm1; rw [f3] at this; exact this
        refine ⟨hj, l20 ?_ rfl⟩
        rw [fnDen_eq]
        simp (disch := omega) only [t20, St, z_leaf, z_jump, z_guard, z_letx, z_call, z_ite, z_join, grd_true, grd_pos, brn_true, brn_false, brn_pos, brn_neg, thn_some, lab_same, lab_other, rnd_same, rnd_other, Nat.reduceBEq, T_var, T_cell, T_blit, T_both, T_one, T_no, T_beq, T_eql, T_neq, T_lss, T_leq, T_gtr, T_geq, T_seql, T_sneq, T_slss, T_sgtr, bs_eq, dens, List.map_cons, List.map_nil, Ex.den, nth_zero, nth_succ, List.cons_append, List.nil_append, D.int_i, D.bool_b, D.str_s, D.rows_l, D.cells_r, compare_eql, compare_neq, compare_lss, compare_leq, compare_gtr, compare_geq, scompare_eql, scompare_neq, slit_bs, seq_dec, seqn_dec, bs_size, byteAt_bs, bs_append, scut_bs, eql_dec, bne_dec, or_dec, and_dec, not_dec, Bool.true_and, Bool.and_true, Bool.false_and, Bool.and_false, Bool.true_or, Bool.or_true, Bool.false_or, Bool.or_false, Bool.not_true, Bool.not_false, Int.toNat_natCast, add_i64, sub_i64, add_one, nat_add, decide_true, decide_false, if_true, if_false, true_and, and_true, false_and, and_false, true_or, or_true, false_or, or_false, not_true_eq_false, not_false_eq_true, eq_self, decide_eq_true_eq, Bool.and_eq_true, Bool.or_eq_true, Bool.not_eq_true', decide_eq_false_iff_not, Bool.false_eq_true, h1, h2, h3, kind_eq, h4, next_eq, g1, g2, g3, f1, f2, f3, must_tok, rows, Rule.cells]
      · rw [if_neg c6] at h6
        by_cases c5 : k = 5
        · rw [if_pos c5] at h6
          subst c5
          obtain ⟨rfl, rfl, rfl, rfl, rfl⟩ := h6
          refine ⟨hm, l20 ?_ rfl⟩
          rw [fnDen_eq]
          simp (disch := omega) only [t20, St, z_leaf, z_jump, z_guard, z_letx, z_call, z_ite, z_join, grd_true, grd_pos, brn_true, brn_false, brn_pos, brn_neg, thn_some, lab_same, lab_other, rnd_same, rnd_other, Nat.reduceBEq, T_var, T_cell, T_blit, T_both, T_one, T_no, T_beq, T_eql, T_neq, T_lss, T_leq, T_gtr, T_geq, T_seql, T_sneq, T_slss, T_sgtr, bs_eq, dens, List.map_cons, List.map_nil, Ex.den, nth_zero, nth_succ, List.cons_append, List.nil_append, D.int_i, D.bool_b, D.str_s, D.rows_l, D.cells_r, compare_eql, compare_neq, compare_lss, compare_leq, compare_gtr, compare_geq, scompare_eql, scompare_neq, slit_bs, seq_dec, seqn_dec, bs_size, byteAt_bs, bs_append, scut_bs, eql_dec, bne_dec, or_dec, and_dec, not_dec, Bool.true_and, Bool.and_true, Bool.false_and, Bool.and_false, Bool.true_or, Bool.or_true, Bool.false_or, Bool.or_false, Bool.not_true, Bool.not_false, Int.toNat_natCast, add_i64, sub_i64, add_one, nat_add, decide_true, decide_false, if_true, if_false, true_and, and_true, false_and, and_false, true_or, or_true, false_or, or_false, not_true_eq_false, not_false_eq_true, eq_self, decide_eq_true_eq, Bool.and_eq_true, Bool.or_eq_true, Bool.not_eq_true', decide_eq_false_iff_not, Bool.false_eq_true, h1, h2, h3, kind_eq, h4, next_eq, rows, Rule.cells]
        · rw [if_neg c5] at h6
          obtain ⟨rfl, rfl, rfl, g, ⟨g1, g2, g3⟩, ha, hl⟩ := h6
          have hj : j ≤ s.length := by have := lex_le hm; rw [g3] at this; exact this
          refine ⟨hj, l20 ?_ rfl⟩
          rw [fnDen_eq]
          have hat := atoi_eq ha hl
          simp (disch := omega) only [t20, St, z_leaf, z_jump, z_guard, z_letx, z_call, z_ite, z_join, grd_true, grd_pos, brn_true, brn_false, brn_pos, brn_neg, thn_some, lab_same, lab_other, rnd_same, rnd_other, Nat.reduceBEq, T_var, T_cell, T_blit, T_both, T_one, T_no, T_beq, T_eql, T_neq, T_lss, T_leq, T_gtr, T_geq, T_seql, T_sneq, T_slss, T_sgtr, bs_eq, dens, List.map_cons, List.map_nil, Ex.den, nth_zero, nth_succ, List.cons_append, List.nil_append, D.int_i, D.bool_b, D.str_s, D.rows_l, D.cells_r, compare_eql, compare_neq, compare_lss, compare_leq, compare_gtr, compare_geq, scompare_eql, scompare_neq, slit_bs, seq_dec, seqn_dec, bs_size, byteAt_bs, bs_append, scut_bs, eql_dec, bne_dec, or_dec, and_dec, not_dec, Bool.true_and, Bool.and_true, Bool.false_and, Bool.and_false, Bool.true_or, Bool.or_true, Bool.false_or, Bool.or_false, Bool.not_true, Bool.not_false, Int.toNat_natCast, add_i64, sub_i64, add_one, nat_add, decide_true, decide_false, if_true, if_false, true_and, and_true, false_and, and_false, true_or, or_true, false_or, or_false, not_true_eq_false, not_false_eq_true, eq_self, decide_eq_true_eq, Bool.and_eq_true, Bool.or_eq_true, Bool.not_eq_true', decide_eq_false_iff_not, Bool.false_eq_true, h1, h2, h3, kind_eq, h4, next_eq, g1, g2, g3, must_tok, hat, rows, Rule.cells]

end Glw
