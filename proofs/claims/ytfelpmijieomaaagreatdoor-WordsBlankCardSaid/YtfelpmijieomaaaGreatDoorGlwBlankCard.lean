/-
  WordsBlank: blanks between the tokens of a policy without attributes turn nothing: at every policy and every row of numbers the call returns true, and both read as they did. Its row lists five package-level variables of Go's library ('laid'); the card ties them to the program's text. No condition beside these.
-/
import Derived.Test.YtfelpmijieomaaaGreatDoorCards
import Derived.Test.YtfelpmijieomaaaGreatDoorTie
import Derived.Test.YtfelpmijieomaaaGreatDoorGlwRows
import Derived.Test.YtfelpmijieomaaaGreatDoorGlwGlob
import Derived.Test.YtfelpmijieomaaaGreatDoorGlxClose
import Derived.Lay
import Derived.Deep.DeepHandedRow
set_option linter.unusedSimpArgs false
set_option linter.unusedVariables false
namespace Go.Proofs.YtfelpmijieomaaaGreatDoor.wordsBlank
open Go.ChangeShapes Go.WideShapes Go.ChangeAt Go.RowKit

theorem own : ownKnob Tryz.prog.godebug = none := by kernel_rfl
theorem laidOut : laidOutB Tryz.prog = true := by kernel_rfl

def ruleTs : List Glx.LTy := [.int .i64, .int .i64, .str, .str, .sl 24]
theorem tys24 : Glx.tys Tryz.prog 24 = some ruleTs := by kernel_rfl
theorem tys3 : Glx.tys Tryz.prog 3 = some [.int .i64] := by kernel_rfl
theorem lay24 : Glx.lay Tryz.prog 9 24 = some ruleTs := by kernel_rfl
theorem lay3 : Glx.lay Tryz.prog 9 3 = some [.int .i64] := by kernel_rfl
theorem lay25 : Glx.lay Tryz.prog 9 25 = some [.sl 3] := by kernel_rfl
theorem cells24 : Tryz.prog.cellsOf 24 = 5 := by kernel_rfl
theorem cells3 : Tryz.prog.cellsOf 3 = 1 := by kernel_rfl
theorem shelf : Glx.Shelf Tryz.prog (fun T => T = 24 ∨ T = 3) := by
  rintro T (rfl | rfl)
  · refine ⟨ruleTs, 9, tys24, lay24, cells24, fun T' h => ?_⟩
    simp [ruleTs] at h
    exact .inl h
  · exact ⟨_, 9, tys3, lay3, cells3, fun T' h => by simp at h⟩

theorem glob {W : World} (h : laidMetH Tryz.prog Rows.wordsBlankRow.laid W) : Glx.GlobOk Tryz.prog (fun b => b < W.heap.size) W.heap := by
  have h' := Glw.glob_of_laid (W := W) h
  intro g hg
  obtain ⟨_, ev, E, fz, h1, h2⟩ := h' g hg
  exact ⟨(Array.getElem?_eq_some_iff.1 h1).1, ev, E, fz, h1, h2⟩

theorem run (cs : Array Value) (v1 : Value) (W : World) (hg : Glx.GlobOk Tryz.prog (fun b => b < W.heap.size) W.heap) (h0 : Glx.Reads Tryz.prog W ruleTs cs.toList) (h1 : Glx.Reads Tryz.prog W [.sl 3] [v1]) :
    Calls Tryz.prog 5 #[.agg cs, v1] W fun e W' => e = .returned (.bool true) ∧ Below W.heap.size W W' := by
  obtain ⟨hl0, xs, hx, hr0⟩ := h0
  obtain ⟨_, ys, hy, hr1⟩ := h1
  obtain ⟨y, rfl⟩ : ∃ y, ys = [y] := by
    match ys, hy with
    | [y], _ => exact ⟨y, rfl⟩
  obtain ⟨ks, hks⟩ := Glw.rule_of tys24 (hr0 4 _ rfl).2 rfl
  obtain ⟨r, rfl⟩ := Glw.cells_of hx (fun j t hj => (hr0 j t hj).2) ⟨ks, hks⟩
  obtain ⟨pad, hpad⟩ := Glw.ints_of tys3 (hr1 0 _ rfl).2
  simp only [List.getD_cons_zero] at hpad
  subst hpad
  have hlen : r.cells.length = 5 := hx
  refine Glx.run_args (B := Glx.bookOf Tryz.prog Glw.es) Glw.bookOk (cid := 5) (s := Glw.s5) (by kernel_rfl) (by kernel_rfl) rfl rfl #[.agg cs, v1] (r.cells ++ [.l (Glw.intRows pad)]) (by rw [List.length_append, hlen]; rfl) rfl W hg ?_ (Glw.blank_law r pad)
  intro i t hi
  match i, hi with
  | 0, hi =>
    cases hi
    refine ⟨cs, rfl, Glx.GL_vars (ts := ruleTs) (n := 0) (by simpa using hl0) (by rw [List.length_append, hlen]; simp [ruleTs]) fun j u hj => ?_⟩
    have hj5 : j < 5 := (List.getElem?_eq_some_iff.1 hj).1
    have := (hr0 j u hj).1
    rw [Nat.zero_add]
    have e1 : (r.cells ++ [Glx.D.l (Glw.intRows pad)]).getD j default = r.cells.getD j default := by
      simp only [List.getD_eq_getElem?_getD, List.getElem?_append_left (show j < r.cells.length by omega)]
    rw [e1]
    have e2 : cs.toList.getD j undef = cs.getD j undef := by simp [List.getD_eq_getElem?_getD, Array.getD_eq_getD_getElem?]
    rw [e2] at this
    exact this
  | 1, hi =>
    cases hi
    refine Glx.G_dataSV (u := .sl 3) (i := 5) (by rw [List.length_append, hlen]; simp) ?_
    have := (hr1 0 _ rfl).1
    have e1 : (r.cells ++ [Glx.D.l (Glw.intRows pad)]).getD 5 default = .l (Glw.intRows pad) := by
      rw [List.getD_eq_getElem?_getD, List.getElem?_append_right (by omega), hlen]
      rfl
    rw [e1]
    exact this
  | i + 2, hi => simp [Glw.s5] at hi

def args0 : Array Value := #[.agg #[.int .i64 0, .int .i64 0, .string ByteArray.empty, .string ByteArray.empty, .slice none 0 0], .slice none 0 0]
def data0 {H : Type} : List (DataW H) := [.agg [.lit (.int .i64 0), .lit (.int .i64 0), .lit (.string []), .lit (.string []), .nil], .nil]
theorem laid_met (os : Os) : laidMet Tryz.prog Rows.wordsBlankRow.laid ((World.laidAll Tryz.prog os Rows.wordsBlankRow.laid).forCall (fun _ _ => 0) ⟨#[], args0, []⟩).memory :=
  laidMet_laidAll _ (by kernel_rfl) (by kernel_rfl)
theorem reads (os : Os) {H : Type} (enc : TypeId × Value → H) : ∃ places, DataW.whole enc Tryz.prog ((World.laidAll Tryz.prog os Rows.wordsBlankRow.laid).forCall (fun _ _ => 0) ⟨#[], args0, []⟩).memory Tryz.f5.params.toList Rows.wordsBlankSpec.vars false args0.toList 8 = some (data0, [], places) :=
  ⟨[], by kernel_rfl⟩

theorem pars : ∀ t ∈ Tryz.f5.params.toList, Tryz.prog.readableRec t = true ∧ t < Tryz.prog.types.size := by
  intro t ht
  rw [Tryz.params5] at ht
  have : t = 24 ∨ t = 25 := by simpa using ht
  rcases this with rfl | rfl
  · exact ⟨by kernel_rfl, of_decide_eq_true (by kernel_rfl)⟩
  · exact ⟨by kernel_rfl, of_decide_eq_true (by kernel_rfl)⟩

set_option maxRecDepth 100000 in
theorem lifted (os : Os) (started : os.Started) (H : Type) (enc : TypeId × Value → H) (F : Stop.Interp) :
    ReturnsInHanded {} Tryz.checked os 5 .any ((OpenSpec.ofChange Rows.wordsBlankSpec).preRow enc Tryz.prog Tryz.f5 Rows.wordsBlankRow.domain false Rows.wordsBlankRow.laid) (((OpenSpec.ofChange Rows.wordsBlankSpec).at F).post enc Tryz.prog Tryz.f5 false true false false) := by
  obtain ⟨places, hx⟩ := reads os enc
  refine returnsInHanded_of_row (C := Tryz.checked) (s := OpenSpec.ofChange Rows.wordsBlankSpec) own started (by kernel_rfl) Tryz.func5
    (witness_row_at (enc := enc) (C := Tryz.checked) false (World.laidAll Tryz.prog os Rows.wordsBlankRow.laid) args0 (World.laidAll_os _ _ _) (by kernel_rfl) (by kernel_rfl) (by kernel_rfl)
      (OpenSpec.preRow_of_cond 8 hx (by kernel_rfl) (fun k hk => by cases hk) (by kernel_rfl) (laid_met os))) ?_
  intro W base args ds gs before hval hW _ _ _ hL _ _
  obtain ⟨cs, v1, d0, d1, rfl, rfl, h0, h1⟩ := Glx.args_struct_slice shelf Tryz.params5 Tryz.underlying24 lay24 (fun T h => by simp [ruleTs] at h; exact .inl h) lay25 Tryz.underlying25 (.inr rfl) (by assumption) hW
  exact Glx.close_law laidOut pars rfl Tryz.underlying4 rfl W _ _ gs before rfl hW (run cs v1 W (glob hL) h0 h1)

theorem said : Rows.WordsBlankSaid :=
  OpenClaim.holds_of_cond 5 Tryz.f5 rfl rfl rfl rfl rfl rfl rfl ⟨rfl, rfl, rfl, rfl, rfl⟩ rfl rfl rfl rfl rfl (by kernel_rfl) Tryz.func5 (by kernel_rfl)
    (of_decide_eq_true (by kernel_rfl)) (by unfold Func.isWrapper; first | (rw [if_pos (by decide +kernel)]; kernel_rfl) | (rw [if_neg (by decide +kernel)]; exact ⟨rfl, rfl⟩))
    (fun os started H enc _ F => by rw [OpenClaim.pre_eq_preRow]; exact lifted os started H enc F)

theorem plain (f : FuncId) (fn : Func) (hf : Tryz.pinned.checked.prog.funcNamed "gleaning/gleaninglaw28.WordsBlank" = some f) (hfn : Tryz.pinned.checked.prog.funcs[f]? = some fn) :
    true = Tryz.pinned.checked.prog.looks [] ∧ ∀ (j : Nat) t, fn.params[j]? = some t → Tryz.pinned.checked.prog.wantsStandIn t = false := by
  obtain rfl : f = 5 := Option.some.inj ((show Tryz.prog.funcNamed "gleaning/gleaninglaw28.WordsBlank" = some 5 by kernel_rfl).symm.trans hf) |>.symm
  obtain rfl : fn = Tryz.f5 := (Option.some.inj (Tryz.func5.symm.trans hfn)).symm
  refine ⟨by kernel_rfl, fun j t ht => ?_⟩
  rw [Tryz.params5] at ht
  have : t = 24 ∨ t = 25 := by simpa using Array.mem_of_getElem? ht
  rcases this with rfl | rfl
  · exact (show Tryz.prog.wantsStandIn 24 = false by kernel_rfl)
  · exact (show Tryz.prog.wantsStandIn 25 = false by kernel_rfl)

theorem card : Rows.WordsBlankCardSaid :=
  Claim7.holds_tied_plain_at .later [] _ _ _ _ said (fun _ h => by cases h) (by kernel_rfl) (fun _ h => by cases h) wordsBlank_row_tie rfl ⟨rfl, rfl⟩ (by kernel_rfl) rfl plain (by kernel_rfl)
end Go.Proofs.YtfelpmijieomaaaGreatDoor.wordsBlank
