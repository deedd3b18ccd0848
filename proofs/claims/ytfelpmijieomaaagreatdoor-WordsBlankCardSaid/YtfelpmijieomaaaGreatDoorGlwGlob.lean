/- From a row's listed variables to what the book asks of memory: the cells of strconv.ErrSyntax and strconv.ErrRange hold interface values. -/
import Derived.Test.YtfelpmijieomaaaGreatDoorGlwRun
import Derived.Test.YtfelpmijieomaaaGreatDoorRows
import Derived.ProofKit
import Derived.MakeChecks
import Derived.Stop.LaidErr
namespace Glw
open Go Go.Proofs Glx Go.Proofs.YtfelpmijieomaaaGreatDoor

theorem gES : Tryz.prog.globalNamed "strconv.ErrSyntax" = some 0 := by kernel_rfl
theorem gER : Tryz.prog.globalNamed "strconv.ErrRange" = some 1 := by kernel_rfl
theorem gT0 : (Tryz.prog.globals[0]?).map (·.type) = some 55 := by kernel_rfl
theorem gT1 : (Tryz.prog.globals[1]?).map (·.type) = some 55 := by kernel_rfl
theorem cells142 : Tryz.prog.cellsOf 142 = 1 := by kernel_rfl
theorem cells9 : Tryz.prog.cellsOf 9 = 1 := by kernel_rfl
theorem star : "*" ++ "errors.errorString" = "*errors.errorString" := by decide
theorem row140 (u : TypeId) (h : Tryz.prog.typeName? 3 u = some "*errors.errorString") : u = 140 :=
  typeName_ptr_named (nm := "errors.errorString") (by rw [star]; kernel_rfl) (by kernel_rfl) (by decide) u (by rw [star]; exact h)

theorem cell_of_var {P : Program} {W : World} {n : String} {g : Nat} {ev : Value} (hg : P.globalNamed n = some g) (h : W.var? P n = some #[ev]) : ∃ E fz, W.heap[g]? = some (.cells #[ev] E fz) := by
  unfold World.var? at h
  rw [hg] at h
  simp only [Option.bind_some] at h
  split at h
  · rename_i cs E fz h1; cases h; exact ⟨E, fz, h1⟩
  · cases h

theorem glob_of_laid {W : World} (h : laidMetH Tryz.prog Rows.wordsWrongRow.laid W) : GlobOk Tryz.prog (Pinned Tryz.prog) W.heap := by
  rw [MakeChecks.laidMetH_plain _ _ _ (by kernel_rfl)] at h
  have h3 : laidMet Tryz.prog [("strconv.ErrRange", Rows.laid_strconv_ErrRange), ("strconv.ErrSyntax", Rows.laid_strconv_ErrSyntax)] W := h.tail.tail.tail
  obtain ⟨a1, s1, hv1, -, -, -⟩ := laid_sentinel h3 gER gT1 Tryz.underlying55 row140 Tryz.underlying140 Tryz.underlying142 rfl rfl Tryz.underlying9 cells142 cells9
  obtain ⟨a0, s0, hv0, -, -, -⟩ := laid_sentinel h3.tail gES gT0 Tryz.underlying55 row140 Tryz.underlying140 Tryz.underlying142 rfl rfl Tryz.underlying9 cells142 cells9
  intro g hp
  refine ⟨hp, ?_⟩
  rcases hp with hp | hp
  · obtain rfl := Option.some.inj (gES.symm.trans hp)
    obtain ⟨E, fz, h4⟩ := cell_of_var gES hv0
    exact ⟨_, E, fz, h4, .inr ⟨_, _, rfl⟩⟩
  · obtain rfl := Option.some.inj (gER.symm.trans hp)
    obtain ⟨E, fz, h4⟩ := cell_of_var gER hv1
    exact ⟨_, E, fz, h4, .inr ⟨_, _, rfl⟩⟩

end Glw
