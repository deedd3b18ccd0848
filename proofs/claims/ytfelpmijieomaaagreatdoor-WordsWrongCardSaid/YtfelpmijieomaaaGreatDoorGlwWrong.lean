/- WordsWrong at every number. -/
import Derived.Test.YtfelpmijieomaaaGreatDoorGlwRun
namespace Glw
open Go Go.Proofs Glx

theorem wr0 : B.ev 60 41 4 [.i 0] = some [.b true] := by kernel_rfl
theorem wr1 : B.ev 60 41 4 [.i 1] = some [.b true] := by kernel_rfl
theorem wr2 : B.ev 60 41 4 [.i 2] = some [.b true] := by kernel_rfl
theorem wr3 : B.ev 60 41 4 [.i 3] = some [.b true] := by kernel_rfl
theorem wr4 : B.ev 60 41 4 [.i 4] = some [.b true] := by kernel_rfl
theorem wr5 : B.ev 60 41 4 [.i 5] = some [.b true] := by kernel_rfl
theorem wr6 : B.ev 60 41 4 [.i 6] = some [.b true] := by kernel_rfl
theorem wr7 : B.ev 60 41 4 [.i 7] = some [.b true] := by kernel_rfl
theorem wr8 : B.ev 60 41 4 [.i 8] = some [.b true] := by kernel_rfl
theorem wr9 : B.ev 60 41 4 [.i 9] = some [.b true] := by kernel_rfl
theorem wr10 : B.ev 60 41 4 [.i 10] = some [.b true] := by kernel_rfl
theorem wr11 : B.ev 60 41 4 [.i 11] = some [.b true] := by kernel_rfl
theorem wr12 : B.ev 60 41 4 [.i 12] = some [.b true] := by kernel_rfl
theorem wr13 : B.ev 60 41 4 [.i 13] = some [.b true] := by kernel_rfl
theorem wr14 : B.ev 60 41 4 [.i 14] = some [.b true] := by kernel_rfl
theorem wr15 : B.ev 60 41 4 [.i 15] = some [.b true] := by kernel_rfl
theorem wr16 : B.ev 60 41 4 [.i 16] = some [.b true] := by kernel_rfl
theorem wr17 : B.ev 60 41 4 [.i 17] = some [.b true] := by kernel_rfl
theorem wr18 : B.ev 60 41 4 [.i 18] = some [.b true] := by kernel_rfl
theorem wr19 : B.ev 60 41 4 [.i 19] = some [.b true] := by kernel_rfl
theorem wr20 : B.ev 60 41 4 [.i 20] = some [.b true] := by kernel_rfl
theorem wr21 : B.ev 60 41 4 [.i 21] = some [.b true] := by kernel_rfl
theorem wr22 : B.ev 60 41 4 [.i 22] = some [.b true] := by kernel_rfl
theorem wr23 : B.ev 60 41 4 [.i 23] = some [.b true] := by kernel_rfl
theorem wr24 : B.ev 60 41 4 [.i 24] = some [.b true] := by kernel_rfl
theorem wr25 : B.ev 60 41 4 [.i 25] = some [.b true] := by kernel_rfl
theorem wr26 : B.ev 60 41 4 [.i 26] = some [.b true] := by kernel_rfl
theorem wr27 : B.ev 60 41 4 [.i 27] = some [.b true] := by kernel_rfl
theorem wr28 : B.ev 60 41 4 [.i 28] = some [.b true] := by kernel_rfl
theorem wr29 : B.ev 60 41 4 [.i 29] = some [.b true] := by kernel_rfl
theorem wr30 : B.ev 60 41 4 [.i 30] = some [.b true] := by kernel_rfl
theorem wr31 : B.ev 60 41 4 [.i 31] = some [.b true] := by kernel_rfl
theorem wr32 : B.ev 60 41 4 [.i 32] = some [.b true] := by kernel_rfl
theorem wr33 : B.ev 60 41 4 [.i 33] = some [.b true] := by kernel_rfl
theorem wr34 : B.ev 60 41 4 [.i 34] = some [.b true] := by kernel_rfl

theorem law_wrong (a : Int) : B.phi 41 4 [.i a] = some [.b true] := by
  by_cases h : a < 0 ∨ 35 ≤ a
  · exact law_out a h
  · have : a = 0 ∨ a = 1 ∨ a = 2 ∨ a = 3 ∨ a = 4 ∨ a = 5 ∨ a = 6 ∨ a = 7 ∨ a = 8 ∨ a = 9 ∨ a = 10 ∨ a = 11 ∨ a = 12 ∨ a = 13 ∨ a = 14 ∨ a = 15 ∨ a = 16 ∨ a = 17 ∨ a = 18 ∨ a = 19 ∨ a = 20 ∨ a = 21 ∨ a = 22 ∨ a = 23 ∨ a = 24 ∨ a = 25 ∨ a = 26 ∨ a = 27 ∨ a = 28 ∨ a = 29 ∨ a = 30 ∨ a = 31 ∨ a = 32 ∨ a = 33 ∨ a = 34 := by omega
    rcases this with rfl | rfl | rfl | rfl | rfl | rfl | rfl | rfl | rfl | rfl | rfl | rfl | rfl | rfl | rfl | rfl | rfl | rfl | rfl | rfl | rfl | rfl | rfl | rfl | rfl | rfl | rfl | rfl | rfl | rfl | rfl | rfl | rfl | rfl | rfl
    · exact Book.ev_phi 41 4 _ _ wr0
    · exact Book.ev_phi 41 4 _ _ wr1
    · exact Book.ev_phi 41 4 _ _ wr2
    · exact Book.ev_phi 41 4 _ _ wr3
    · exact Book.ev_phi 41 4 _ _ wr4
    · exact Book.ev_phi 41 4 _ _ wr5
    · exact Book.ev_phi 41 4 _ _ wr6
    · exact Book.ev_phi 41 4 _ _ wr7
    · exact Book.ev_phi 41 4 _ _ wr8
    · exact Book.ev_phi 41 4 _ _ wr9
    · exact Book.ev_phi 41 4 _ _ wr10
    · exact Book.ev_phi 41 4 _ _ wr11
    · exact Book.ev_phi 41 4 _ _ wr12
    · exact Book.ev_phi 41 4 _ _ wr13
    · exact Book.ev_phi 41 4 _ _ wr14
    · exact Book.ev_phi 41 4 _ _ wr15
    · exact Book.ev_phi 41 4 _ _ wr16
    · exact Book.ev_phi 41 4 _ _ wr17
    · exact Book.ev_phi 41 4 _ _ wr18
    · exact Book.ev_phi 41 4 _ _ wr19
    · exact Book.ev_phi 41 4 _ _ wr20
    · exact Book.ev_phi 41 4 _ _ wr21
    · exact Book.ev_phi 41 4 _ _ wr22
    · exact Book.ev_phi 41 4 _ _ wr23
    · exact Book.ev_phi 41 4 _ _ wr24
    · exact Book.ev_phi 41 4 _ _ wr25
    · exact Book.ev_phi 41 4 _ _ wr26
    · exact Book.ev_phi 41 4 _ _ wr27
    · exact Book.ev_phi 41 4 _ _ wr28
    · exact Book.ev_phi 41 4 _ _ wr29
    · exact Book.ev_phi 41 4 _ _ wr30
    · exact Book.ev_phi 41 4 _ _ wr31
    · exact Book.ev_phi 41 4 _ _ wr32
    · exact Book.ev_phi 41 4 _ _ wr33
    · exact Book.ev_phi 41 4 _ _ wr34

theorem wrong_run (a : Int) (W : World) (hglob : GlobOk Tryz.prog (Pinned Tryz.prog) W.heap) :
    Calls Tryz.prog 4 #[.int .i64 a] W fun e W' => e = .returned (.bool true) ∧ RowKit.Below W.heap.size W W' :=
  run_int (B := B) bookOk (s := s4) (by kernel_rfl) (by kernel_rfl) rfl rfl rfl rfl a W hglob (law_wrong a)

end Glw
