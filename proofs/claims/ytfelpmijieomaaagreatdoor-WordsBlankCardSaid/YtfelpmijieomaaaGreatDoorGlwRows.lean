/- From plain data to policies and rows of numbers. -/
import Derived.Test.YtfelpmijieomaaaGreatDoorGlwJ
import Derived.Test.YtfelpmijieomaaaGreatDoorGlxRead
set_option linter.unusedSimpArgs false
set_option linter.unusedVariables false
namespace Glw
open Go Go.Proofs Glx

theorem list5 {r : List D} (h : r.length = 5) : ∃ a b c d e, r = [a, b, c, d, e] := by
  match r, h with
  | [a, b, c, d, e], _ => exact ⟨a, b, c, d, e, rfl⟩

theorem cells_of {P : Program} {T : TypeId} {r : List D} (hl : r.length = 5) (h : ∀ (j : Nat) (t : LTy), ([LTy.int .i64, LTy.int .i64, LTy.str, LTy.str, LTy.sl T])[j]? = some t → Ok P t (r.getD j default)) (hk : ∃ ks, r.getD 4 default = .l (rows ks)) : ∃ x : Rule, r = x.cells := by
  obtain ⟨a, b, c, d, e, rfl⟩ := list5 hl
  obtain ⟨ks, hks⟩ := hk
  have h0 := h 0 _ rfl
  have h1 := h 1 _ rfl
  have h2 := h 2 _ rfl
  have h3 := h 3 _ rfl
  simp only [List.getD_cons_zero, List.getD_cons_succ] at h0 h1 h2 h3 hks
  cases h0
  cases h1
  cases h2
  cases h3
  subst hks
  exact ⟨.mk _ _ _ _ ks, rfl⟩

theorem rows_of {l : List (List D)} (h : ∀ r ∈ l, ∃ x : Rule, r = x.cells) : ∃ ks, l = rows ks := by
  induction l with
  | nil => exact ⟨[], rfl⟩
  | cons r l ih =>
    obtain ⟨x, rfl⟩ := h r (List.mem_cons_self ..)
    obtain ⟨ks, rfl⟩ := ih fun y hy => h y (List.mem_cons_of_mem _ hy)
    exact ⟨x :: ks, rfl⟩

theorem rule_of {P : Program} {T : TypeId} (hT : tys P T = some [.int .i64, .int .i64, .str, .str, .sl T]) : ∀ {u : LTy} {d : D}, Ok P u d → u = .sl T → ∃ ks, d = .l (rows ks) := by
  intro u d h
  induction h with
  | int => intro h; cases h
  | bool => intro h; cases h
  | str => intro h; cases h
  | sl h1 h2 h3 h4 ih =>
    intro h
    cases h
    rw [hT] at h1
    cases h1
    obtain ⟨ks, hk⟩ := rows_of fun r hr => cells_of (h3 r hr) (h4 r hr) (ih r hr 4 _ rfl rfl)
    exact ⟨ks, by rw [hk]⟩

theorem ints_of {P : Program} {T : TypeId} (hT : tys P T = some [.int .i64]) {d : D} (h : Ok P (.sl T) d) : ∃ l, d = .l (intRows l) := by
  cases h with
  | sl h1 h2 h3 h4 =>
    rename_i rs ts
    rw [hT] at h1
    cases h1
    have : ∀ rs : List (List D), (∀ r ∈ rs, r.length = 1 ∧ Ok P (.int .i64) (r.getD 0 default)) → ∃ l, rs = intRows l := by
      intro rs
      induction rs with
      | nil => intro _; exact ⟨[], rfl⟩
      | cons r rs ih =>
        intro h
        obtain ⟨l, rfl⟩ := ih fun y hy => h y (List.mem_cons_of_mem _ hy)
        obtain ⟨h5, h6⟩ := h r (List.mem_cons_self ..)
        match r, h5, h6 with
        | [a], _, h6 =>
          simp only [List.getD_cons_zero] at h6
          cases h6
          exact ⟨_ :: l, rfl⟩
    obtain ⟨l, hl⟩ := this rs fun r hr => ⟨h3 r hr, h4 r hr 0 _ rfl⟩
    exact ⟨l, by rw [hl]⟩

end Glw
