/- The terms of Glw: printed by a program. -/
import Derived.Test.YtfelpmijieomaaaGreatDoorProg
import Derived.Test.YtfelpmijieomaaaGreatDoorGlx3
import Derived.KernelRfl
import Derived.Test.YtfelpmijieomaaaGreatDoorTryzstringsIndexByte
import Derived.Test.YtfelpmijieomaaaGreatDoorTryzAtoi
import Derived.Test.YtfelpmijieomaaaGreatDoorGlxAtoi
namespace Glw
open Go Go.Proofs Glx

def s4 : Sig := ⟨[.v (.one (.int .i64 (.var 0)))], [], 1, .v (.one (.bool (.var 0))), [], 1⟩
def s5 : Sig := ⟨[.v (.agg [.int .i64 (.var 0), .int .i64 (.var 1), .str (.var 2), .str (.var 3), .sl 24 (.var 4)]), .v (.one (.sl 3 (.var 5)))], [], 6, .v (.one (.bool (.var 0))), [], 1⟩
def s6 : Sig := ⟨[], [], 0, .v (.one (.bool (.var 0))), [], 1⟩
def s7 : Sig := ⟨[.v (.agg [.int .i64 (.var 0), .int .i64 (.var 1), .str (.var 2), .str (.var 3), .sl 24 (.var 4)])], [], 5, .v (.one (.bool (.var 0))), [], 1⟩
def s8 : Sig := ⟨[.v (.agg [.int .i64 (.var 0), .int .i64 (.var 1), .str (.var 2), .str (.var 3), .sl 24 (.var 4)])], [], 5, .v (.one (.bool (.var 0))), [], 1⟩
def s9 : Sig := ⟨[.v (.agg [.int .i64 (.var 0), .int .i64 (.var 1), .str (.var 2), .str (.var 3), .sl 24 (.var 4)])], [], 5, .v (.one (.str (.var 0))), [], 1⟩
def s10 : Sig := ⟨[.v (.one (.str (.var 0)))], [], 1, .tup [.agg [.int .i64 (.var 0), .int .i64 (.var 1), .str (.var 2), .str (.var 3), .sl 24 (.var 4)], .one (.int .i64 (.var 5)), .one (.int .i64 (.var 6))], [], 7⟩
def s11 : Sig := ⟨[.v (.one (.int .i64 (.var 0)))], [], 1, .v (.one (.int .i64 (.var 0))), [], 1⟩
def s12 : Sig := ⟨[.v (.agg [.int .i64 (.var 0), .int .i64 (.var 1), .str (.var 2), .str (.var 3), .sl 24 (.var 4)]), .v (.agg [.int .i64 (.var 5), .int .i64 (.var 6), .str (.var 7), .str (.var 8), .sl 24 (.var 9)])], [], 10, .v (.one (.bool (.var 0))), [], 1⟩
def s13 : Sig := ⟨[.v (.agg [.int .i64 (.var 0), .int .i64 (.var 1), .str (.var 2), .str (.var 3), .sl 24 (.var 4)])], [], 5, .v (.one (.str (.var 0))), [], 1⟩
def s14 : Sig := ⟨[.v (.agg [.int .i64 (.var 0), .int .i64 (.var 1), .str (.var 2), .str (.var 3), .sl 24 (.var 4)]), .v (.one (.int .i64 (.var 5)))], [], 6, .v (.one (.int .i64 (.var 0))), [], 1⟩
def s15 : Sig := ⟨[.v (.agg [.int .i64 (.var 0), .int .i64 (.var 1), .str (.var 2), .str (.var 3), .sl 24 (.var 4)]), .v (.one (.int .i64 (.var 5)))], [], 6, .v (.one (.int .i64 (.var 0))), [], 1⟩
def s16 : Sig := ⟨[.v (.agg [.int .i64 (.var 0), .int .i64 (.var 1), .str (.var 2), .str (.var 3), .sl 24 (.var 4)])], [], 5, .v (.one (.bool (.var 0))), [], 1⟩
def s17 : Sig := ⟨[.v (.agg [.int .i64 (.var 0), .int .i64 (.var 1), .str (.var 2), .str (.var 3), .sl 24 (.var 4)])], [], 5, .v (.one (.bool (.var 0))), [], 1⟩
def s18 : Sig := ⟨[.v (.agg [.int .i64 (.var 0), .int .i64 (.var 1), .str (.var 2), .str (.var 3), .sl 24 (.var 4)])], [], 5, .v (.one (.str (.var 0))), [], 1⟩
def s19 : Sig := ⟨[.v (.one (.ptr 0 0))], [.cells 43 [.str (.var 0), .int .i64 (.var 1), .int .i64 (.var 2), .int .i64 (.var 3), .str (.var 4), .bool (.var 5), .int .i64 (.var 6)] false], 7, .v (.agg [.int .i64 (.var 7), .int .i64 (.var 8), .str (.var 9)]), [.cells 43 [.str (.var 0), .int .i64 (.var 1), .int .i64 (.var 2), .int .i64 (.var 3), .str (.var 4), .bool (.var 5), .int .i64 (.var 6)] false], 10⟩
def s20 : Sig := ⟨[.v (.one (.ptr 0 0))], [.cells 43 [.str (.var 0), .int .i64 (.var 1), .int .i64 (.var 2), .int .i64 (.var 3), .str (.var 4), .bool (.var 5), .int .i64 (.var 6)] false], 7, .v (.agg [.int .i64 (.var 7), .int .i64 (.var 8), .str (.var 9), .str (.var 10), .sl 24 (.var 11)]), [.cells 43 [.str (.var 0), .int .i64 (.var 1), .int .i64 (.var 2), .int .i64 (.var 3), .str (.var 4), .bool (.var 5), .int .i64 (.var 6)] false], 12⟩
def s21 : Sig := ⟨[.v (.one (.ptr 0 0))], [.cells 43 [.str (.var 0), .int .i64 (.var 1), .int .i64 (.var 2), .int .i64 (.var 3), .str (.var 4), .bool (.var 5), .int .i64 (.var 6)] false], 7, .tup [], [.cells 43 [.str (.var 0), .int .i64 (.var 1), .int .i64 (.var 2), .int .i64 (.var 3), .str (.var 4), .bool (.var 5), .int .i64 (.var 6)] false], 7⟩
def s22 : Sig := ⟨[.v (.agg [.int .i64 (.var 0), .int .i64 (.var 1), .str (.var 2), .str (.var 3), .sl 24 (.var 4)])], [], 5, .v (.one (.str (.var 0))), [], 1⟩
def s23 : Sig := ⟨[.v (.agg [.int .i64 (.var 0), .int .i64 (.var 1), .str (.var 2), .str (.var 3), .sl 24 (.var 4)])], [], 5, .v (.one (.bool (.var 0))), [], 1⟩
def s24 : Sig := ⟨[.v (.agg [.int .i64 (.var 0), .int .i64 (.var 1), .str (.var 2), .str (.var 3), .sl 24 (.var 4)]), .v (.one (.int .i64 (.var 5))), .v (.one (.int .i64 (.var 6)))], [], 7, .tup [.one (.int .i64 (.var 0)), .one (.bool (.var 1))], [], 2⟩
def s25 : Sig := ⟨[.v (.one (.int .i64 (.var 0)))], [], 1, .v (.one (.str (.var 0))), [], 1⟩
def s29 : Sig := ⟨[.v (.one (.ptr 0 0))], [.cells 43 [.str (.var 0), .int .i64 (.var 1), .int .i64 (.var 2), .int .i64 (.var 3), .str (.var 4), .bool (.var 5), .int .i64 (.var 6)] false], 7, .v (.agg [.int .i64 (.var 7), .int .i64 (.var 8), .str (.var 9)]), [.cells 43 [.str (.var 0), .int .i64 (.var 1), .int .i64 (.var 2), .int .i64 (.var 3), .str (.var 4), .bool (.var 5), .int .i64 (.var 6)] false], 10⟩
def s30 : Sig := ⟨[.v (.one (.str (.var 0)))], [], 1, .v (.one (.int .i64 (.var 0))), [], 1⟩
def s31 : Sig := ⟨[.v (.one (.ptr 0 0)), .v (.one (.int .i64 (.var 7))), .v (.one (.str (.var 8)))], [.cells 43 [.str (.var 0), .int .i64 (.var 1), .int .i64 (.var 2), .int .i64 (.var 3), .str (.var 4), .bool (.var 5), .int .i64 (.var 6)] false], 9, .v (.one (.str (.var 7))), [.cells 43 [.str (.var 0), .int .i64 (.var 1), .int .i64 (.var 2), .int .i64 (.var 3), .str (.var 4), .bool (.var 5), .int .i64 (.var 6)] false], 8⟩
def s32 : Sig := ⟨[.v (.one (.ptr 0 0))], [.cells 43 [.str (.var 0), .int .i64 (.var 1), .int .i64 (.var 2), .int .i64 (.var 3), .str (.var 4), .bool (.var 5), .int .i64 (.var 6)] false], 7, .v (.one (.sl 24 (.var 7))), [.cells 43 [.str (.var 0), .int .i64 (.var 1), .int .i64 (.var 2), .int .i64 (.var 3), .str (.var 4), .bool (.var 5), .int .i64 (.var 6)] false], 8⟩
def s34 : Sig := ⟨[], [], 0, .v (.one (.sl 9 (.var 0))), [], 1⟩
def s35 : Sig := ⟨[.v (.one (.str (.var 0)))], [], 1, .v (.one (.str (.var 0))), [], 1⟩
def s36 : Sig := ⟨[.v (.one (.int .i64 (.var 0)))], [], 1, .v (.one (.str (.var 0))), [], 1⟩
def s37 : Sig := ⟨[.v (.one (.int .i64 (.var 0))), .v (.one (.int .i64 (.var 1))), .v (.one (.int .i64 (.var 2)))], [], 3, .v (.one (.bool (.var 0))), [], 1⟩
def s38 : Sig := ⟨[.v (.agg [.int .i64 (.var 0), .int .i64 (.var 1), .str (.var 2), .str (.var 3), .sl 24 (.var 4)])], [], 5, .v (.one (.bool (.var 0))), [], 1⟩
def s39 : Sig := ⟨[], [], 0, .v (.one (.sl 63 (.var 0))), [], 1⟩
def s46047 : Sig := ⟨[.v (.one (.ptr 0 0)), .v (.one (.int .i64 (.var 7))), .v (.one (.fn 47 [] []))], [.cells 43 [.str (.var 0), .int .i64 (.var 1), .int .i64 (.var 2), .int .i64 (.var 3), .str (.var 4), .bool (.var 5), .int .i64 (.var 6)] false], 8, .v (.one (.int .i64 (.var 7))), [.cells 43 [.str (.var 0), .int .i64 (.var 1), .int .i64 (.var 2), .int .i64 (.var 3), .str (.var 4), .bool (.var 5), .int .i64 (.var 6)] false], 8⟩
def s46049 : Sig := ⟨[.v (.one (.ptr 0 0)), .v (.one (.int .i64 (.var 7))), .v (.one (.fn 49 [] []))], [.cells 43 [.str (.var 0), .int .i64 (.var 1), .int .i64 (.var 2), .int .i64 (.var 3), .str (.var 4), .bool (.var 5), .int .i64 (.var 6)] false], 8, .v (.one (.int .i64 (.var 7))), [.cells 43 [.str (.var 0), .int .i64 (.var 1), .int .i64 (.var 2), .int .i64 (.var 3), .str (.var 4), .bool (.var 5), .int .i64 (.var 6)] false], 8⟩
def s46050 : Sig := ⟨[.v (.one (.ptr 0 0)), .v (.one (.int .i64 (.var 7))), .v (.one (.fn 50 [] []))], [.cells 43 [.str (.var 0), .int .i64 (.var 1), .int .i64 (.var 2), .int .i64 (.var 3), .str (.var 4), .bool (.var 5), .int .i64 (.var 6)] false], 8, .v (.one (.int .i64 (.var 7))), [.cells 43 [.str (.var 0), .int .i64 (.var 1), .int .i64 (.var 2), .int .i64 (.var 3), .str (.var 4), .bool (.var 5), .int .i64 (.var 6)] false], 8⟩
def s47 : Sig := ⟨[.v (.one (.int .u8 (.var 0)))], [], 1, .v (.one (.bool (.var 0))), [], 1⟩
def s48 : Sig := ⟨[.v (.one (.ptr 0 0))], [.cells 43 [.str (.var 0), .int .i64 (.var 1), .int .i64 (.var 2), .int .i64 (.var 3), .str (.var 4), .bool (.var 5), .int .i64 (.var 6)] false], 7, .v (.agg [.int .i64 (.var 7), .int .i64 (.var 8), .str (.var 9)]), [.cells 43 [.str (.var 0), .int .i64 (.var 1), .int .i64 (.var 2), .int .i64 (.var 3), .str (.var 4), .bool (.var 5), .int .i64 (.var 6)] false], 10⟩
def s49 : Sig := ⟨[.v (.one (.int .u8 (.var 0)))], [], 1, .v (.one (.bool (.var 0))), [], 1⟩
def s50 : Sig := ⟨[.v (.one (.int .u8 (.var 0)))], [], 1, .v (.one (.bool (.var 0))), [], 1⟩
def s52 : Sig := ⟨[.v (.one (.ptr 0 0)), .v (.one (.str (.var 7)))], [.cells 43 [.str (.var 0), .int .i64 (.var 1), .int .i64 (.var 2), .int .i64 (.var 3), .str (.var 4), .bool (.var 5), .int .i64 (.var 6)] false], 8, .v (.one (.bool (.var 7))), [.cells 43 [.str (.var 0), .int .i64 (.var 1), .int .i64 (.var 2), .int .i64 (.var 3), .str (.var 4), .bool (.var 5), .int .i64 (.var 6)] false], 8⟩
def s55 : Sig := ⟨[.v (.one (.str (.var 0)))], [], 1, .v (.one (.bool (.var 0))), [], 1⟩
def s56 : Sig := ⟨[.v (.one (.int .i64 (.var 0)))], [], 1, .v (.one (.int .i64 (.var 0))), [], 1⟩
def s33 : Sig := ⟨[.v (.one (.str (.var 0)))], [], 1, .tup [.one (.int .i64 (.var 0)), .one (.ifc (.var 1))], [], 2⟩
def s51 : Sig := ⟨[.v (.one (.str (.var 0))), .v (.one (.int .u8 (.var 1)))], [], 2, .v (.one (.int .i64 (.var 0))), [], 1⟩
/-- gleaning/gleaninglaw28.WordsWrong -/
def t4 : Tm (List Ex) :=
  (.call 6 [] <|
  (.ite (.one (.one (.no (.var 1)) (.cmp .lss (.var 0) (.ilit 0))) (.cmp .geq (.var 0) (.ilit 35)))
    (.leaf [(.var 1)])
    (.guard (.cmp .leq (.ilit 0) (.var 0)) <|
    (.guard (.cmp .lss (.var 0) (.ilit 35)) <|
    (.call 10 [(.cell (.app (.app (.app (.app (.app (.app (.app (.app (.app (.app (.app (.app (.app (.app (.app (.app (.app (.app (.app (.app (.app (.app (.app (.app (.app (.app (.app (.app (.app (.app (.app (.app (.app (.app (.app .nil (.row (.rcons (.slit [101, 114, 114]) .rnil))) (.row (.rcons (.slit []) .rnil))) (.row (.rcons (.slit [32, 10]) .rnil))) (.row (.rcons (.slit [101, 114, 114, 114]) .rnil))) (.row (.rcons (.slit [101, 114, 114, 32, 101, 114, 114]) .rnil))) (.row (.rcons (.slit [69, 82, 82]) .rnil))) (.row (.rcons (.slit [115, 108, 111, 119]) .rnil))) (.row (.rcons (.slit [115, 108, 111, 119, 32, 53]) .rnil))) (.row (.rcons (.slit [115, 108, 111, 119, 32, 48, 53]) .rnil))) (.row (.rcons (.slit [115, 108, 111, 119, 32, 48]) .rnil))) (.row (.rcons (.slit [115, 108, 111, 119, 32, 49, 48, 48, 48, 48, 48, 48, 48, 48, 48, 48]) .rnil))) (.row (.rcons (.slit [115, 108, 111, 119, 32, 50, 48, 48, 48, 48, 48, 48, 48, 48, 48]) .rnil))) (.row (.rcons (.slit [115, 108, 111, 119, 32, 45, 49]) .rnil))) (.row (.rcons (.slit [97, 108, 108]) .rnil))) (.row (.rcons (.slit [97, 108, 108, 40, 41]) .rnil))) (.row (.rcons (.slit [97, 108, 108, 40, 101, 114, 114, 41]) .rnil))) (.row (.rcons (.slit [97, 108, 108, 40, 101, 114, 114, 44, 41]) .rnil))) (.row (.rcons (.slit [97, 108, 108, 40, 101, 114, 114, 32, 101, 114, 114, 41]) .rnil))) (.row (.rcons (.slit [97, 110, 121, 40, 44, 101, 114, 114, 41]) .rnil))) (.row (.rcons (.slit [110, 111, 116, 40, 41]) .rnil))) (.row (.rcons (.slit [110, 111, 116, 40, 101, 114, 114, 41]) .rnil))) (.row (.rcons (.slit [110, 111, 116, 40, 101, 114, 114, 44, 101, 114, 114, 41]) .rnil))) (.row (.rcons (.slit [97, 116, 116, 114, 32, 34, 97, 34]) .rnil))) (.row (.rcons (.slit [97, 116, 116, 114, 32, 34, 97, 34, 32, 34, 34]) .rnil))) (.row (.rcons (.slit [97, 116, 116, 114, 32, 34, 34, 32, 34, 97, 34]) .rnil))) (.row (.rcons (.slit [97, 116, 116, 114, 32, 34, 97, 92, 34, 92, 92, 34, 32, 34, 98, 34]) .rnil))) (.row (.rcons (.slit [97, 116, 116, 114, 32, 34, 97, 34, 32, 34, 98]) .rnil))) (.row (.rcons (.slit [97, 116, 116, 114, 32, 97, 32, 98]) .rnil))) (.row (.rcons (.slit [104, 97, 115, 104, 32, 49, 48, 48, 48]) .rnil))) (.row (.rcons (.slit [104, 97, 115, 104, 32, 49, 48, 48, 49]) .rnil))) (.row (.rcons (.slit [97, 108, 108, 40, 101, 114, 114]) .rnil))) (.row (.rcons (.slit [101, 114, 114, 41]) .rnil))) (.row (.rcons (.slit [115, 108, 111, 119, 53]) .rnil))) (.row (.rcons (.slit [110, 111, 116, 32, 40, 101, 114, 114, 41]) .rnil))) (.row (.rcons (.slit [114, 97, 116, 101, 32, 51, 32]) .rnil))) (.var 0) 0)] <|
    (.call 11 [(.var 8)] <|
    (.guard (.cmp .leq (.ilit 0) (.var 0)) <|
    (.guard (.cmp .lss (.var 0) (.ilit 35)) <|
    (.guard (.one (.no (.cmp .eql (.var 9) (.cell (.app (.app (.app (.app (.app (.app (.app (.app (.app (.app (.app (.app (.app (.app (.app (.app (.app (.app (.app (.app (.app (.app (.app (.app (.app (.app (.app (.app (.app (.app (.app (.app (.app (.app (.app .nil (.row (.rcons (.ilit 0) .rnil))) (.row (.rcons (.ilit 2) .rnil))) (.row (.rcons (.ilit 2) .rnil))) (.row (.rcons (.ilit 2) .rnil))) (.row (.rcons (.ilit 2) .rnil))) (.row (.rcons (.ilit 2) .rnil))) (.row (.rcons (.ilit 2) .rnil))) (.row (.rcons (.ilit 0) .rnil))) (.row (.rcons (.ilit 2) .rnil))) (.row (.rcons (.ilit 0) .rnil))) (.row (.rcons (.ilit 2) .rnil))) (.row (.rcons (.ilit 1) .rnil))) (.row (.rcons (.ilit 2) .rnil))) (.row (.rcons (.ilit 2) .rnil))) (.row (.rcons (.ilit 0) .rnil))) (.row (.rcons (.ilit 0) .rnil))) (.row (.rcons (.ilit 2) .rnil))) (.row (.rcons (.ilit 2) .rnil))) (.row (.rcons (.ilit 2) .rnil))) (.row (.rcons (.ilit 2) .rnil))) (.row (.rcons (.ilit 0) .rnil))) (.row (.rcons (.ilit 2) .rnil))) (.row (.rcons (.ilit 2) .rnil))) (.row (.rcons (.ilit 0) .rnil))) (.row (.rcons (.ilit 1) .rnil))) (.row (.rcons (.ilit 0) .rnil))) (.row (.rcons (.ilit 2) .rnil))) (.row (.rcons (.ilit 2) .rnil))) (.row (.rcons (.ilit 0) .rnil))) (.row (.rcons (.ilit 1) .rnil))) (.row (.rcons (.ilit 2) .rnil))) (.row (.rcons (.ilit 2) .rnil))) (.row (.rcons (.ilit 0) .rnil))) (.row (.rcons (.ilit 0) .rnil))) (.row (.rcons (.ilit 0) .rnil))) (.var 0) 0))) (.cmp .leq (.ilit 0) (.var 0))) <|
    (.guard (.one (.no (.cmp .eql (.var 9) (.cell (.app (.app (.app (.app (.app (.app (.app (.app (.app (.app (.app (.app (.app (.app (.app (.app (.app (.app (.app (.app (.app (.app (.app (.app (.app (.app (.app (.app (.app (.app (.app (.app (.app (.app (.app .nil (.row (.rcons (.ilit 0) .rnil))) (.row (.rcons (.ilit 2) .rnil))) (.row (.rcons (.ilit 2) .rnil))) (.row (.rcons (.ilit 2) .rnil))) (.row (.rcons (.ilit 2) .rnil))) (.row (.rcons (.ilit 2) .rnil))) (.row (.rcons (.ilit 2) .rnil))) (.row (.rcons (.ilit 0) .rnil))) (.row (.rcons (.ilit 2) .rnil))) (.row (.rcons (.ilit 0) .rnil))) (.row (.rcons (.ilit 2) .rnil))) (.row (.rcons (.ilit 1) .rnil))) (.row (.rcons (.ilit 2) .rnil))) (.row (.rcons (.ilit 2) .rnil))) (.row (.rcons (.ilit 0) .rnil))) (.row (.rcons (.ilit 0) .rnil))) (.row (.rcons (.ilit 2) .rnil))) (.row (.rcons (.ilit 2) .rnil))) (.row (.rcons (.ilit 2) .rnil))) (.row (.rcons (.ilit 2) .rnil))) (.row (.rcons (.ilit 0) .rnil))) (.row (.rcons (.ilit 2) .rnil))) (.row (.rcons (.ilit 2) .rnil))) (.row (.rcons (.ilit 0) .rnil))) (.row (.rcons (.ilit 1) .rnil))) (.row (.rcons (.ilit 0) .rnil))) (.row (.rcons (.ilit 2) .rnil))) (.row (.rcons (.ilit 2) .rnil))) (.row (.rcons (.ilit 0) .rnil))) (.row (.rcons (.ilit 1) .rnil))) (.row (.rcons (.ilit 2) .rnil))) (.row (.rcons (.ilit 2) .rnil))) (.row (.rcons (.ilit 0) .rnil))) (.row (.rcons (.ilit 0) .rnil))) (.row (.rcons (.ilit 0) .rnil))) (.var 0) 0))) (.cmp .lss (.var 0) (.ilit 35))) <|
    (.leaf [(.both (.cmp .eql (.var 9) (.cell (.app (.app (.app (.app (.app (.app (.app (.app (.app (.app (.app (.app (.app (.app (.app (.app (.app (.app (.app (.app (.app (.app (.app (.app (.app (.app (.app (.app (.app (.app (.app (.app (.app (.app (.app .nil (.row (.rcons (.ilit 0) .rnil))) (.row (.rcons (.ilit 2) .rnil))) (.row (.rcons (.ilit 2) .rnil))) (.row (.rcons (.ilit 2) .rnil))) (.row (.rcons (.ilit 2) .rnil))) (.row (.rcons (.ilit 2) .rnil))) (.row (.rcons (.ilit 2) .rnil))) (.row (.rcons (.ilit 0) .rnil))) (.row (.rcons (.ilit 2) .rnil))) (.row (.rcons (.ilit 0) .rnil))) (.row (.rcons (.ilit 2) .rnil))) (.row (.rcons (.ilit 1) .rnil))) (.row (.rcons (.ilit 2) .rnil))) (.row (.rcons (.ilit 2) .rnil))) (.row (.rcons (.ilit 0) .rnil))) (.row (.rcons (.ilit 0) .rnil))) (.row (.rcons (.ilit 2) .rnil))) (.row (.rcons (.ilit 2) .rnil))) (.row (.rcons (.ilit 2) .rnil))) (.row (.rcons (.ilit 2) .rnil))) (.row (.rcons (.ilit 0) .rnil))) (.row (.rcons (.ilit 2) .rnil))) (.row (.rcons (.ilit 2) .rnil))) (.row (.rcons (.ilit 0) .rnil))) (.row (.rcons (.ilit 1) .rnil))) (.row (.rcons (.ilit 0) .rnil))) (.row (.rcons (.ilit 2) .rnil))) (.row (.rcons (.ilit 2) .rnil))) (.row (.rcons (.ilit 0) .rnil))) (.row (.rcons (.ilit 1) .rnil))) (.row (.rcons (.ilit 2) .rnil))) (.row (.rcons (.ilit 2) .rnil))) (.row (.rcons (.ilit 0) .rnil))) (.row (.rcons (.ilit 0) .rnil))) (.row (.rcons (.ilit 0) .rnil))) (.var 0) 0)) (.cmp .eql (.var 7) (.cell (.app (.app (.app (.app (.app (.app (.app (.app (.app (.app (.app (.app (.app (.app (.app (.app (.app (.app (.app (.app (.app (.app (.app (.app (.app (.app (.app (.app (.app (.app (.app (.app (.app (.app (.app .nil (.row (.rcons (.ilit (-1)) .rnil))) (.row (.rcons (.ilit 0) .rnil))) (.row (.rcons (.ilit 2) .rnil))) (.row (.rcons (.ilit 0) .rnil))) (.row (.rcons (.ilit 4) .rnil))) (.row (.rcons (.ilit 0) .rnil))) (.row (.rcons (.ilit 4) .rnil))) (.row (.rcons (.ilit (-1)) .rnil))) (.row (.rcons (.ilit 5) .rnil))) (.row (.rcons (.ilit (-1)) .rnil))) (.row (.rcons (.ilit 5) .rnil))) (.row (.rcons (.ilit 0) .rnil))) (.row (.rcons (.ilit 5) .rnil))) (.row (.rcons (.ilit 3) .rnil))) (.row (.rcons (.ilit (-1)) .rnil))) (.row (.rcons (.ilit (-1)) .rnil))) (.row (.rcons (.ilit 8) .rnil))) (.row (.rcons (.ilit 8) .rnil))) (.row (.rcons (.ilit 4) .rnil))) (.row (.rcons (.ilit 4) .rnil))) (.row (.rcons (.ilit (-1)) .rnil))) (.row (.rcons (.ilit 7) .rnil))) (.row (.rcons (.ilit 8) .rnil))) (.row (.rcons (.ilit (-1)) .rnil))) (.row (.rcons (.ilit 0) .rnil))) (.row (.rcons (.ilit (-1)) .rnil))) (.row (.rcons (.ilit 9) .rnil))) (.row (.rcons (.ilit 5) .rnil))) (.row (.rcons (.ilit (-1)) .rnil))) (.row (.rcons (.ilit 0) .rnil))) (.row (.rcons (.ilit 7) .rnil))) (.row (.rcons (.ilit 3) .rnil))) (.row (.rcons (.ilit (-1)) .rnil))) (.row (.rcons (.ilit (-1)) .rnil))) (.row (.rcons (.ilit (-1)) .rnil))) (.var 0) 0)))])))))))))))
/-- gleaning/gleaninglaw28.WordsBlank -/
def t5 : Tm (List Ex) :=
  (.call 6 [] <|
  (.call 13 [(.var 0), (.var 1), (.var 2), (.var 3), (.var 4)] <|
  (.join 5
    (.ite (.no (.var 6))
      (.jump 5 [(.blit true)])
      (.call 7 [(.var 0), (.var 1), (.var 2), (.var 3), (.var 4)] <|
      (.jump 5 [(.one (.one (.no (.var 8)) (.cmp .eql (.slen (.var 7)) (.ilit 0))) (.cmp .lss (.len (.var 5)) (.slen (.var 7))))])))
    (.ite (.var 8)
      (.leaf [(.var 6)])
      (.loop 8 [(.slit []), (.ilit 0)]
        (.ite (.cmp .lss (.var 10) (.slen (.var 7)))
          (.guard (.cmp .leq (.ilit 0) (.var 10)) <|
          (.guard (.cmp .lss (.var 10) (.slen (.var 7))) <|
          (.ite (.cmp .eql (.byte (.var 7) (.var 10)) (.ilit 34))
            (.leaf [(.blit true)])
            (.guard (.cmp .leq (.ilit 0) (.var 10)) <|
            (.guard (.cmp .lss (.var 10) (.slen (.var 7))) <|
            (.guard (.one (.cmp .eql (.byte (.var 7) (.var 10)) (.ilit 40)) (.cmp .leq (.ilit 0) (.var 10))) <|
            (.guard (.one (.cmp .eql (.byte (.var 7) (.var 10)) (.ilit 40)) (.cmp .lss (.var 10) (.slen (.var 7)))) <|
            (.guard (.one (.one (.cmp .eql (.byte (.var 7) (.var 10)) (.ilit 40)) (.cmp .eql (.byte (.var 7) (.var 10)) (.ilit 41))) (.cmp .leq (.ilit 0) (.var 10))) <|
            (.guard (.one (.one (.cmp .eql (.byte (.var 7) (.var 10)) (.ilit 40)) (.cmp .eql (.byte (.var 7) (.var 10)) (.ilit 41))) (.cmp .lss (.var 10) (.slen (.var 7)))) <|
            (.guard (.one (.no (.one (.one (.cmp .eql (.byte (.var 7) (.var 10)) (.ilit 40)) (.cmp .eql (.byte (.var 7) (.var 10)) (.ilit 41))) (.cmp .eql (.byte (.var 7) (.var 10)) (.ilit 44)))) (.cmp .leq (.ilit 0) (.var 10))) <|
            (.guard (.one (.no (.one (.one (.cmp .eql (.byte (.var 7) (.var 10)) (.ilit 40)) (.cmp .eql (.byte (.var 7) (.var 10)) (.ilit 41))) (.cmp .eql (.byte (.var 7) (.var 10)) (.ilit 44)))) (.cmp .lss (.var 10) (.len (.var 5)))) <|
            (.join 16
              (.ite (.both (.one (.one (.cmp .eql (.byte (.var 7) (.var 10)) (.ilit 40)) (.cmp .eql (.byte (.var 7) (.var 10)) (.ilit 41))) (.cmp .eql (.byte (.var 7) (.var 10)) (.ilit 44))) (.cmp .eql (.bin .and .i64 (.cell (.var 5) (.var 10) 0) (.ilit 1)) (.ilit 1)))
                (.guard (.cmp .leq (.slen (.var 9)) (.ilit 1152921504606846976)) <|
                (.guard (.cmp .leq (.slen (.slit [32, 10])) (.ilit 1152921504606846976)) <|
                (.jump 16 [(.scat (.var 9) (.slit [32, 10]))])))
                (.jump 16 [(.var 9)]))
              (.guard (.cmp .leq (.ilit 0) (.var 10)) <|
              (.guard (.cmp .leq (.var 10) (.bin .add .i64 (.var 10) (.ilit 1))) <|
              (.guard (.cmp .leq (.bin .add .i64 (.var 10) (.ilit 1)) (.slen (.var 7))) <|
              (.guard (.cmp .leq (.slen (.var 11)) (.ilit 1152921504606846976)) <|
              (.guard (.cmp .leq (.slen (.ssub (.var 7) (.var 10) (.bin .add .i64 (.var 10) (.ilit 1)))) (.ilit 1152921504606846976)) <|
              (.guard (.one (.no (.one (.one (.cmp .eql (.byte (.var 7) (.var 10)) (.ilit 40)) (.cmp .eql (.byte (.var 7) (.var 10)) (.ilit 41))) (.cmp .eql (.byte (.var 7) (.var 10)) (.ilit 44)))) (.cmp .leq (.ilit 0) (.var 10))) <|
              (.guard (.one (.no (.one (.one (.cmp .eql (.byte (.var 7) (.var 10)) (.ilit 40)) (.cmp .eql (.byte (.var 7) (.var 10)) (.ilit 41))) (.cmp .eql (.byte (.var 7) (.var 10)) (.ilit 44)))) (.cmp .lss (.var 10) (.len (.var 5)))) <|
              (.guard (.one (.both (.one (.one (.cmp .eql (.byte (.var 7) (.var 10)) (.ilit 40)) (.cmp .eql (.byte (.var 7) (.var 10)) (.ilit 41))) (.cmp .eql (.byte (.var 7) (.var 10)) (.ilit 44))) (.cmp .eql (.bin .and .i64 (.cell (.var 5) (.var 10) 0) (.ilit 2)) (.ilit 2))) (.cmp .leq (.ilit 0) (.var 10))) <|
              (.guard (.one (.both (.one (.one (.cmp .eql (.byte (.var 7) (.var 10)) (.ilit 40)) (.cmp .eql (.byte (.var 7) (.var 10)) (.ilit 41))) (.cmp .eql (.byte (.var 7) (.var 10)) (.ilit 44))) (.cmp .eql (.bin .and .i64 (.cell (.var 5) (.var 10) 0) (.ilit 2)) (.ilit 2))) (.cmp .lss (.var 10) (.slen (.var 7)))) <|
              (.join 17
                (.ite (.one (.both (.one (.one (.cmp .eql (.byte (.var 7) (.var 10)) (.ilit 40)) (.cmp .eql (.byte (.var 7) (.var 10)) (.ilit 41))) (.cmp .eql (.byte (.var 7) (.var 10)) (.ilit 44))) (.cmp .eql (.bin .and .i64 (.cell (.var 5) (.var 10) 0) (.ilit 2)) (.ilit 2))) (.cmp .eql (.byte (.var 7) (.var 10)) (.ilit 32)))
                  (.guard (.cmp .leq (.slen (.scat (.var 11) (.ssub (.var 7) (.var 10) (.bin .add .i64 (.var 10) (.ilit 1))))) (.ilit 1152921504606846976)) <|
                  (.guard (.cmp .leq (.slen (.slit [32, 32])) (.ilit 1152921504606846976)) <|
                  (.jump 17 [(.scat (.scat (.var 11) (.ssub (.var 7) (.var 10) (.bin .add .i64 (.var 10) (.ilit 1)))) (.slit [32, 32]))])))
                  (.jump 17 [(.scat (.var 11) (.ssub (.var 7) (.var 10) (.bin .add .i64 (.var 10) (.ilit 1))))]))
                (.jump 8 [(.var 12), (.bin .add .i64 (.var 10) (.ilit 1))])))))))))))))))))))))))
          (.call 10 [(.var 9)] <|
          (.join 8
            (.ite (.cmp .gtr (.slen (.var 9)) (.ilit 2000))
              (.jump 8 [(.blit true)])
              (.call 11 [(.var 17)] <|
              (.ite (.cmp .eql (.var 18) (.ilit 0))
                (.call 12 [(.var 11), (.var 12), (.var 13), (.var 14), (.var 15), (.var 0), (.var 1), (.var 2), (.var 3), (.var 4)] <|
                (.jump 8 [(.var 19)]))
                (.jump 8 [(.blit false)]))))
            (.leaf [(.var 18)])))))))))
/-- gleaning/gleaninglaw28.alive -/
def t6 : Tm (List Ex) :=
  (.call 10 [(.slit [97, 108, 108, 40, 101, 114, 114, 44, 32, 115, 108, 111, 119, 32, 53, 41])] <|
  (.join 3
    (.call 9 [(.ilit 5), (.ilit 0), (.slit []), (.slit []), .nil] <|
    (.ite (.scmp .eql (.var 7) (.slit [101, 114, 114]))
      (.call 11 [(.var 6)] <|
      (.guard (.one (.no (.both (.both (.both (.cmp .eql (.var 8) (.ilit 0)) (.cmp .eql (.var 5) (.ilit (-1)))) (.cmp .eql (.var 0) (.ilit 1))) (.cmp .eql (.len (.var 4)) (.ilit 2)))) (.cmp .lss (.ilit 1) (.len (.var 4)))) <|
      (.jump 3 [(.both (.both (.both (.both (.cmp .eql (.var 8) (.ilit 0)) (.cmp .eql (.var 5) (.ilit (-1)))) (.cmp .eql (.var 0) (.ilit 1))) (.cmp .eql (.len (.var 4)) (.ilit 2))) (.cmp .eql (.cell (.var 4) (.ilit 1) 1) (.ilit 5)))])))
      (.jump 3 [(.blit false)])))
    (.leaf [(.var 7)])))
/-- gleaning/gleaninglaw13.Few -/
def t7 : Tm (List Ex) :=
  (.call 14 [(.var 0), (.var 1), (.var 2), (.var 3), (.var 4), (.ilit 0)] <|
  (.leaf [(.cmp .leq (.var 5) (.ilit 100))]))
/-- gleaning/gleaningref1.RightRule -/
def t8 : Tm (List Ex) :=
  (.join 2
    (.call 15 [(.var 0), (.var 1), (.var 2), (.var 3), (.var 4), (.ilit 5)] <|
    (.ite (.cmp .leq (.var 5) (.ilit 20))
      (.call 16 [(.var 0), (.var 1), (.var 2), (.var 3), (.var 4)] <|
      (.jump 2 [(.var 6)]))
      (.jump 2 [(.blit false)])))
    (.leaf [(.var 5)]))
/-- gleaning/words.Print -/
def t9 : Tm (List Ex) :=
  (.call 17 [(.var 0), (.var 1), (.var 2), (.var 3), (.var 4)] <|
  (.ite (.no (.var 5))
    (.leaf [(.slit [])])
    (.call 18 [(.var 0), (.var 1), (.var 2), (.var 3), (.var 4)] <|
    (.leaf [(.var 6)]))))
/-- gleaning/words.Parse -/
def t10 : Tm (List Ex) :=
  (.ite (.cmp .gtr (.slen (.var 0)) (.ilit 2000))
    (.leaf [(.ilit 0), (.ilit 0), (.slit []), (.slit []), .nil, (.ilit 0), (.ilit 1)])
    (.call 19 [(.var 0), (.ilit 0), (.ilit 0), (.ilit 0), (.slit []), (.blit false), (.ilit 0)] <|
    (.call 20 [(.var 1), (.var 2), (.var 3), (.var 4), (.var 5), (.var 6), (.var 7)] <|
    (.join 7
      (.ite (.cmp .neq (.var 13) (.ilit 0))
        (.call 21 [(.var 11), (.var 12), (.var 13), (.var 14), (.var 15), (.var 16), (.var 17)] <|
        (.jump 7 [(.var 23), (.var 24), (.var 25), (.var 26), (.var 27), (.var 28), (.var 29)]))
        (.jump 7 [(.var 11), (.var 12), (.var 13), (.var 14), (.var 15), (.var 16), (.var 17)]))
      (.ite (.var 28)
        (.leaf [(.ilit 0), (.ilit 0), (.slit []), (.slit []), .nil, (.var 29), (.ilit 2)])
        (.call 17 [(.var 18), (.var 19), (.var 20), (.var 21), (.var 22)] <|
        (.ite (.no (.var 30))
          (.leaf [(.ilit 0), (.ilit 0), (.slit []), (.slit []), .nil, (.ilit 0), (.ilit 1)])
          (.leaf [(.var 18), (.var 19), (.var 20), (.var 21), (.var 22), (.ilit (-1)), (.ilit 0)]))))))))
/-- gleaning/gleaninglaw28.num -/
def t11 : Tm (List Ex) :=
  (.leaf [(.var 0)])
/-- gleaning/gleaningref1.SameRule -/
def t12 : Tm (List Ex) :=
  (.ite (.one (.one (.one (.one (.cmp .neq (.var 0) (.var 5)) (.cmp .neq (.var 1) (.var 6))) (.scmp .neq (.var 2) (.var 7))) (.scmp .neq (.var 3) (.var 8))) (.cmp .neq (.len (.var 4)) (.len (.var 9))))
    (.leaf [(.blit false)])
    (.loop 5 [(.ilit 0)]
      (.ite (.cmp .lss (.var 10) (.len (.var 4)))
        (.guard (.cmp .leq (.ilit 0) (.var 10)) <|
        (.guard (.cmp .lss (.var 10) (.len (.var 4))) <|
        (.guard (.cmp .leq (.ilit 0) (.var 10)) <|
        (.guard (.cmp .lss (.var 10) (.len (.var 9))) <|
        (.call 12 [(.cell (.var 4) (.var 10) 0), (.cell (.var 4) (.var 10) 1), (.cell (.var 4) (.var 10) 2), (.cell (.var 4) (.var 10) 3), (.cell (.var 4) (.var 10) 4), (.cell (.var 9) (.var 10) 0), (.cell (.var 9) (.var 10) 1), (.cell (.var 9) (.var 10) 2), (.cell (.var 9) (.var 10) 3), (.cell (.var 9) (.var 10) 4)] <|
        (.ite (.no (.var 11))
          (.leaf [(.blit false)])
          (.jump 5 [(.bin .add .i64 (.var 10) (.ilit 1))])))))))
        (.leaf [(.blit true)]))))
/-- gleaning/gleaningref28.Print -/
def t13 : Tm (List Ex) :=
  (.call 8 [(.var 0), (.var 1), (.var 2), (.var 3), (.var 4)] <|
  (.ite (.no (.var 5))
    (.leaf [(.slit [])])
    (.call 22 [(.var 0), (.var 1), (.var 2), (.var 3), (.var 4)] <|
    (.leaf [(.var 6)]))))
/-- gleaning/gleaninglaw13.size -/
def t14 : Tm (List Ex) :=
  (.ite (.one (.one (.cmp .gtr (.var 5) (.ilit 30)) (.cmp .gtr (.slen (.var 2)) (.ilit 100))) (.cmp .gtr (.slen (.var 3)) (.ilit 100)))
    (.leaf [(.ilit 1000)])
    (.loop 6 [(.ilit 1), (.ilit 0)]
      (.ite (.both (.cmp .lss (.var 7) (.len (.var 4))) (.cmp .lss (.var 6) (.ilit 1000)))
        (.guard (.cmp .leq (.ilit 0) (.var 7)) <|
        (.guard (.cmp .lss (.var 7) (.len (.var 4))) <|
        (.call 14 [(.cell (.var 4) (.var 7) 0), (.cell (.var 4) (.var 7) 1), (.cell (.var 4) (.var 7) 2), (.cell (.var 4) (.var 7) 3), (.cell (.var 4) (.var 7) 4), (.bin .add .i64 (.var 5) (.ilit 1))] <|
        (.jump 6 [(.bin .add .i64 (.var 6) (.var 8)), (.bin .add .i64 (.var 7) (.ilit 1))]))))
        (.leaf [(.var 6)]))))
/-- gleaning/gleaningref1.nodes -/
def t15 : Tm (List Ex) :=
  (.ite (.cmp .eql (.var 5) (.ilit 0))
    (.leaf [(.ilit 21)])
    (.loop 6 [(.ilit 1), (.ilit 0)]
      (.ite (.both (.cmp .lss (.var 7) (.len (.var 4))) (.cmp .leq (.var 6) (.ilit 20)))
        (.guard (.cmp .leq (.ilit 0) (.var 7)) <|
        (.guard (.cmp .lss (.var 7) (.len (.var 4))) <|
        (.call 15 [(.cell (.var 4) (.var 7) 0), (.cell (.var 4) (.var 7) 1), (.cell (.var 4) (.var 7) 2), (.cell (.var 4) (.var 7) 3), (.cell (.var 4) (.var 7) 4), (.bin .sub .i64 (.var 5) (.ilit 1))] <|
        (.jump 6 [(.bin .add .i64 (.var 6) (.var 8)), (.bin .add .i64 (.var 7) (.ilit 1))]))))
        (.leaf [(.var 6)]))))
/-- gleaning/gleaningref1.all -/
def t16 : Tm (List Ex) :=
  (.call 23 [(.var 0), (.var 1), (.var 2), (.var 3), (.var 4)] <|
  (.ite (.no (.var 5))
    (.leaf [(.blit false)])
    (.loop 5 [(.ilit 0)]
      (.ite (.cmp .lss (.var 6) (.len (.var 4)))
        (.guard (.cmp .leq (.ilit 0) (.var 6)) <|
        (.guard (.cmp .lss (.var 6) (.len (.var 4))) <|
        (.call 16 [(.cell (.var 4) (.var 6) 0), (.cell (.var 4) (.var 6) 1), (.cell (.var 4) (.var 6) 2), (.cell (.var 4) (.var 6) 3), (.cell (.var 4) (.var 6) 4)] <|
        (.ite (.no (.var 7))
          (.leaf [(.blit false)])
          (.jump 5 [(.bin .add .i64 (.var 6) (.ilit 1))])))))
        (.leaf [(.blit true)])))))
/-- gleaning/rule.Right -/
def t17 : Tm (List Ex) :=
  (.call 24 [(.var 0), (.var 1), (.var 2), (.var 3), (.var 4), (.ilit 5), (.ilit 20)] <|
  (.leaf [(.var 6)]))
/-- gleaning/words.print -/
def t18 : Tm (List Ex) :=
  (.call 25 [(.var 0)] <|
  (.join 7
    (.ite (.cmp .eql (.var 0) (.ilit 1))
      (.jump 7 [(.cmp .eql (.var 0) (.ilit 1))])
      (.join 9
        (.ite (.cmp .eql (.var 0) (.ilit 2))
          (.jump 9 [(.cmp .eql (.var 0) (.ilit 2))])
          (.jump 9 [(.cmp .eql (.var 0) (.ilit 3))]))
        (.jump 7 [(.var 6)])))
    (.ite (.var 6)
      (.loop 11 [(.ilit 0), .nil]
        (.ite (.cmp .lss (.var 7) (.len (.var 4)))
          (.guard (.cmp .leq (.ilit 0) (.var 7)) <|
          (.guard (.cmp .lss (.var 7) (.len (.var 4))) <|
          (.call 18 [(.cell (.var 4) (.var 7) 0), (.cell (.var 4) (.var 7) 1), (.cell (.var 4) (.var 7) 2), (.cell (.var 4) (.var 7) 3), (.cell (.var 4) (.var 7) 4)] <|
          (.guard (.cmp .leq (.len (.app (.var 8) (.app .nil (.row (.rcons (.var 9) .rnil))))) (.ilit 8796093022208)) <|
          (.jump 11 [(.bin .add .i64 (.var 7) (.ilit 1)), (.app (.var 8) (.app .nil (.row (.rcons (.var 9) .rnil))))])))))
          (.guard (.blit false) <|
          (.guard (.blit false) <|
          (.leaf [])))))
      (.ite (.cmp .eql (.var 0) (.ilit 5))
        (.leaf [(.var 5)])
        (.ite (.cmp .eql (.var 0) (.ilit 6))
          (.guard (.blit false) <|
          (.guard (.blit false) <|
          (.leaf [])))
          (.guard (.blit false) <|
          (.guard (.blit false) <|
          (.leaf []))))))))
/-- (*gleaning/words.parser).next -/
def t19 : Tm (List Ex) :=
  (.join 4
    (.ite (.no (.var 5))
      (.call 29 [(.var 0), (.var 1), (.var 2), (.var 3), (.var 4), (.var 5), (.var 6)] <|
      (.jump 4 [(.var 7), (.var 8), (.var 14), (.var 15), (.var 16), (.var 12), (.var 13)]))
      (.jump 4 [(.var 0), (.var 1), (.var 2), (.var 3), (.var 4), (.var 5), (.var 6)]))
    (.leaf [(.var 7), (.var 8), (.var 9), (.var 10), (.var 11), (.var 12), (.var 13), (.var 2), (.var 3), (.var 4)]))
/-- (*gleaning/words.parser).rule -/
def t20 : Tm (List Ex) :=
  (.join 3
    (.ite (.one (.var 5) (.cmp .neq (.var 2) (.ilit 2)))
      (.jump 3 [(.blit true)])
      (.call 30 [(.var 4)] <|
      (.jump 3 [(.cmp .eql (.var 7) (.ilit 0))])))
    (.ite (.var 7)
      (.call 21 [(.var 0), (.var 1), (.var 2), (.var 3), (.var 4), (.var 5), (.var 6)] <|
      (.leaf [(.var 8), (.var 9), (.var 10), (.var 11), (.var 12), (.var 13), (.var 14), (.ilit 0), (.ilit 0), (.slit []), (.slit []), .nil]))
      (.call 19 [(.var 0), (.var 1), (.var 2), (.var 3), (.var 4), (.var 5), (.var 6)] <|
      (.call 30 [(.var 17)] <|
      (.join 8
        (.ite (.cmp .eql (.var 18) (.ilit 1))
          (.jump 8 [(.cmp .eql (.var 18) (.ilit 1))])
          (.jump 8 [(.cmp .eql (.var 18) (.ilit 2))]))
        (.join 7
          (.ite (.var 19)
            (.call 31 [(.var 8), (.var 9), (.var 10), (.var 11), (.var 12), (.var 13), (.var 14), (.ilit 5), (.slit [40])] <|
            (.call 32 [(.var 20), (.var 21), (.var 22), (.var 23), (.var 24), (.var 25), (.var 26)] <|
            (.call 31 [(.var 28), (.var 29), (.var 30), (.var 31), (.var 32), (.var 33), (.var 34), (.ilit 5), (.slit [41])] <|
            (.jump 7 [(.var 36), (.var 37), (.var 38), (.var 39), (.var 40), (.var 41), (.var 42), (.ilit 0), (.slit []), (.slit []), (.var 35)]))))
            (.join 9
              (.ite (.cmp .eql (.var 18) (.ilit 3))
                (.call 31 [(.var 8), (.var 9), (.var 10), (.var 11), (.var 12), (.var 13), (.var 14), (.ilit 5), (.slit [40])] <|
                (.call 20 [(.var 20), (.var 21), (.var 22), (.var 23), (.var 24), (.var 25), (.var 26)] <|
                (.call 31 [(.var 28), (.var 29), (.var 30), (.var 31), (.var 32), (.var 33), (.var 34), (.ilit 5), (.slit [41])] <|
                (.jump 9 [(.var 40), (.var 41), (.var 42), (.var 43), (.var 44), (.var 45), (.var 46), (.ilit 0), (.slit []), (.slit []), (.app .nil (.row (.rcons (.var 35) (.rcons (.var 36) (.rcons (.var 37) (.rcons (.var 38) (.rcons (.var 39) .rnil)))))))]))))
                (.join 11
                  (.ite (.cmp .eql (.var 18) (.ilit 6))
                    (.call 31 [(.var 8), (.var 9), (.var 10), (.var 11), (.var 12), (.var 13), (.var 14), (.ilit 4), (.slit [])] <|
                    (.call 31 [(.var 20), (.var 21), (.var 22), (.var 23), (.var 24), (.var 25), (.var 26), (.ilit 4), (.slit [])] <|
                    (.jump 11 [(.var 28), (.var 29), (.var 30), (.var 31), (.var 32), (.var 33), (.var 34), (.ilit 0), (.var 27), (.var 35)])))
                    (.join 13
                      (.ite (.cmp .eql (.var 18) (.ilit 5))
                        (.jump 13 [(.var 8), (.var 9), (.var 10), (.var 11), (.var 12), (.var 13), (.var 14), (.ilit 0)])
                        (.call 31 [(.var 8), (.var 9), (.var 10), (.var 11), (.var 12), (.var 13), (.var 14), (.ilit 3), (.slit [])] <|
                        (.call 33 [(.var 27)] <|
                        (.jump 13 [(.var 20), (.var 21), (.var 22), (.var 23), (.var 24), (.var 25), (.var 26), (.var 28)]))))
                      (.jump 11 [(.var 20), (.var 21), (.var 22), (.var 23), (.var 24), (.var 25), (.var 26), (.var 27), (.slit []), (.slit [])])))
                  (.jump 9 [(.var 20), (.var 21), (.var 22), (.var 23), (.var 24), (.var 25), (.var 26), (.var 27), (.var 28), (.var 29), .nil])))
              (.jump 7 [(.var 20), (.var 21), (.var 22), (.var 23), (.var 24), (.var 25), (.var 26), (.var 27), (.var 28), (.var 29), (.var 30)])))
          (.leaf [(.var 20), (.var 21), (.var 22), (.var 23), (.var 24), (.var 25), (.var 26), (.var 18), (.var 27), (.var 28), (.var 29), (.var 30)])))))))
/-- (*gleaning/words.parser).fail -/
def t21 : Tm (List Ex) :=
  (.join 1
    (.ite (.no (.var 5))
      (.jump 1 [(.blit true), (.var 3)])
      (.jump 1 [(.var 5), (.var 6)]))
    (.leaf [(.var 0), (.var 1), (.var 2), (.var 3), (.var 4), (.var 7), (.var 8)]))
/-- gleaning/gleaningref28.show -/
def t22 : Tm (List Ex) :=
  (.call 34 [] <|
  (.guard (.cmp .leq (.ilit 0) (.var 0)) <|
  (.guard (.cmp .lss (.var 0) (.len (.var 5))) <|
  (.join 7
    (.ite (.cmp .eql (.var 0) (.ilit 1))
      (.jump 7 [(.cmp .eql (.var 0) (.ilit 1))])
      (.join 9
        (.ite (.cmp .eql (.var 0) (.ilit 2))
          (.jump 9 [(.cmp .eql (.var 0) (.ilit 2))])
          (.jump 9 [(.cmp .eql (.var 0) (.ilit 3))]))
        (.jump 7 [(.var 6)])))
    (.ite (.var 6)
      (.guard (.cmp .leq (.slen (.cell (.var 5) (.var 0) 0)) (.ilit 1152921504606846976)) <|
      (.guard (.cmp .leq (.slen (.slit [40])) (.ilit 1152921504606846976)) <|
      (.loop 11 [(.scat (.cell (.var 5) (.var 0) 0) (.slit [40])), (.ilit 0)]
        (.ite (.cmp .lss (.var 8) (.len (.var 4)))
          (.join 17
            (.ite (.cmp .gtr (.var 8) (.ilit 0))
              (.guard (.cmp .leq (.slen (.var 7)) (.ilit 1152921504606846976)) <|
              (.guard (.cmp .leq (.slen (.slit [44, 32])) (.ilit 1152921504606846976)) <|
              (.jump 17 [(.scat (.var 7) (.slit [44, 32]))])))
              (.jump 17 [(.var 7)]))
            (.guard (.cmp .leq (.ilit 0) (.var 8)) <|
            (.guard (.cmp .lss (.var 8) (.len (.var 4))) <|
            (.call 22 [(.cell (.var 4) (.var 8) 0), (.cell (.var 4) (.var 8) 1), (.cell (.var 4) (.var 8) 2), (.cell (.var 4) (.var 8) 3), (.cell (.var 4) (.var 8) 4)] <|
            (.guard (.cmp .leq (.slen (.var 9)) (.ilit 1152921504606846976)) <|
            (.guard (.cmp .leq (.slen (.var 10)) (.ilit 1152921504606846976)) <|
            (.jump 11 [(.scat (.var 9) (.var 10)), (.bin .add .i64 (.var 8) (.ilit 1))])))))))
          (.guard (.cmp .leq (.slen (.var 7)) (.ilit 1152921504606846976)) <|
          (.guard (.cmp .leq (.slen (.slit [41])) (.ilit 1152921504606846976)) <|
          (.leaf [(.scat (.var 7) (.slit [41]))])))))))
      (.ite (.cmp .eql (.var 0) (.ilit 5))
        (.leaf [(.cell (.var 5) (.var 0) 0)])
        (.ite (.cmp .eql (.var 0) (.ilit 6))
          (.guard (.cmp .leq (.slen (.cell (.var 5) (.var 0) 0)) (.ilit 1152921504606846976)) <|
          (.guard (.cmp .leq (.slen (.slit [32])) (.ilit 1152921504606846976)) <|
          (.call 35 [(.var 2)] <|
          (.guard (.cmp .leq (.slen (.scat (.cell (.var 5) (.var 0) 0) (.slit [32]))) (.ilit 1152921504606846976)) <|
          (.guard (.cmp .leq (.slen (.var 7)) (.ilit 1152921504606846976)) <|
          (.guard (.cmp .leq (.slen (.scat (.scat (.cell (.var 5) (.var 0) 0) (.slit [32])) (.var 7))) (.ilit 1152921504606846976)) <|
          (.guard (.cmp .leq (.slen (.slit [32])) (.ilit 1152921504606846976)) <|
          (.call 35 [(.var 3)] <|
          (.guard (.cmp .leq (.slen (.scat (.scat (.scat (.cell (.var 5) (.var 0) 0) (.slit [32])) (.var 7)) (.slit [32]))) (.ilit 1152921504606846976)) <|
          (.guard (.cmp .leq (.slen (.var 8)) (.ilit 1152921504606846976)) <|
          (.leaf [(.scat (.scat (.scat (.scat (.cell (.var 5) (.var 0) 0) (.slit [32])) (.var 7)) (.slit [32])) (.var 8))])))))))))))
          (.guard (.cmp .leq (.slen (.cell (.var 5) (.var 0) 0)) (.ilit 1152921504606846976)) <|
          (.guard (.cmp .leq (.slen (.slit [32])) (.ilit 1152921504606846976)) <|
          (.call 36 [(.var 1)] <|
          (.guard (.cmp .leq (.slen (.scat (.cell (.var 5) (.var 0) 0) (.slit [32]))) (.ilit 1152921504606846976)) <|
          (.guard (.cmp .leq (.slen (.var 7)) (.ilit 1152921504606846976)) <|
          (.leaf [(.scat (.scat (.cell (.var 5) (.var 0) 0) (.slit [32])) (.var 7))])))))))))))))
/-- gleaning/gleaningref1.one -/
def t23 : Tm (List Ex) :=
  (.join 8
    (.ite (.cmp .eql (.var 0) (.ilit 1))
      (.jump 8 [(.cmp .eql (.var 0) (.ilit 1))])
      (.jump 8 [(.cmp .eql (.var 0) (.ilit 2))]))
    (.ite (.var 5)
      (.leaf [(.both (.both (.cmp .eql (.var 1) (.ilit 0)) (.scmp .eql (.var 2) (.slit []))) (.scmp .eql (.var 3) (.slit [])))])
      (.ite (.cmp .eql (.var 0) (.ilit 3))
        (.leaf [(.both (.both (.both (.cmp .eql (.var 1) (.ilit 0)) (.scmp .eql (.var 2) (.slit []))) (.scmp .eql (.var 3) (.slit []))) (.cmp .eql (.len (.var 4)) (.ilit 1)))])
        (.ite (.cmp .eql (.var 0) (.ilit 5))
          (.leaf [(.both (.both (.both (.cmp .eql (.var 1) (.ilit 0)) (.scmp .eql (.var 2) (.slit []))) (.scmp .eql (.var 3) (.slit []))) (.cmp .eql (.len (.var 4)) (.ilit 0)))])
          (.ite (.cmp .eql (.var 0) (.ilit 6))
            (.join 15
              (.ite (.cmp .eql (.var 1) (.ilit 0))
                (.call 37 [(.slen (.var 2)), (.ilit 1), (.ilit 16)] <|
                (.jump 15 [(.both (.both (.var 6) (.cmp .leq (.slen (.var 3)) (.ilit 16))) (.cmp .eql (.len (.var 4)) (.ilit 0)))]))
                (.jump 15 [(.blit false)]))
              (.leaf [(.var 6)]))
            (.ite (.cmp .eql (.var 0) (.ilit 4))
              (.join 17
                (.ite (.both (.both (.scmp .eql (.var 2) (.slit [])) (.scmp .eql (.var 3) (.slit []))) (.cmp .eql (.len (.var 4)) (.ilit 0)))
                  (.call 37 [(.var 1), (.ilit 0), (.ilit 1073741824)] <|
                  (.jump 17 [(.var 6)]))
                  (.jump 17 [(.blit false)]))
                (.leaf [(.var 6)]))
              (.join 18
                (.ite (.cmp .eql (.var 0) (.ilit 7))
                  (.jump 18 [(.cmp .eql (.var 0) (.ilit 7))])
                  (.jump 18 [(.cmp .eql (.var 0) (.ilit 8))]))
                (.ite (.var 6)
                  (.join 19
                    (.ite (.both (.both (.scmp .eql (.var 2) (.slit [])) (.scmp .eql (.var 3) (.slit []))) (.cmp .eql (.len (.var 4)) (.ilit 0)))
                      (.call 37 [(.var 1), (.ilit 0), (.ilit 1000)] <|
                      (.jump 19 [(.var 7)]))
                      (.jump 19 [(.blit false)]))
                    (.leaf [(.var 7)]))
                  (.ite (.cmp .eql (.var 0) (.ilit 9))
                    (.join 21
                      (.ite (.both (.both (.scmp .eql (.var 2) (.slit [])) (.scmp .eql (.var 3) (.slit []))) (.cmp .eql (.len (.var 4)) (.ilit 0)))
                        (.call 37 [(.var 1), (.ilit 0), (.ilit 1000000)] <|
                        (.jump 21 [(.var 7)]))
                        (.jump 21 [(.blit false)]))
                      (.leaf [(.var 7)]))
                    (.leaf [(.blit false)]))))))))))
/-- gleaning/rule.count -/
def t24 : Tm (List Ex) :=
  (.join 3
    (.ite (.one (.cmp .lss (.var 5) (.ilit 1)) (.cmp .lss (.var 6) (.ilit 1)))
      (.jump 3 [(.blit true)])
      (.call 38 [(.var 0), (.var 1), (.var 2), (.var 3), (.var 4)] <|
      (.jump 3 [(.no (.var 7))])))
    (.ite (.var 7)
      (.leaf [(.ilit 0), (.blit false)])
      (.loop 6 [(.ilit 1), (.ilit 0)]
        (.ite (.cmp .lss (.var 9) (.len (.var 4)))
          (.guard (.cmp .leq (.ilit 0) (.var 9)) <|
          (.guard (.cmp .lss (.var 9) (.len (.var 4))) <|
          (.call 24 [(.cell (.var 4) (.var 9) 0), (.cell (.var 4) (.var 9) 1), (.cell (.var 4) (.var 9) 2), (.cell (.var 4) (.var 9) 3), (.cell (.var 4) (.var 9) 4), (.bin .sub .i64 (.var 5) (.ilit 1)), (.bin .sub .i64 (.var 6) (.var 8))] <|
          (.ite (.no (.var 11))
            (.leaf [(.ilit 0), (.blit false)])
            (.jump 6 [(.bin .add .i64 (.var 8) (.var 10)), (.bin .add .i64 (.var 9) (.ilit 1))])))))
          (.leaf [(.var 8), (.blit true)])))))
/-- gleaning/words.name -/
def t25 : Tm (List Ex) :=
  (.call 39 [] <|
  (.loop 4 [(.ilit 0)]
    (.ite (.cmp .lss (.var 2) (.len (.var 1)))
      (.guard (.cmp .leq (.ilit 0) (.var 2)) <|
      (.guard (.cmp .lss (.var 2) (.len (.var 1))) <|
      (.ite (.cmp .eql (.cell (.var 1) (.var 2) 0) (.var 0))
        (.leaf [(.cell (.var 1) (.var 2) 1)])
        (.jump 4 [(.bin .add .i64 (.var 2) (.ilit 1))]))))
      (.leaf [(.slit [])]))))
/-- (*gleaning/words.parser).read -/
def t29 : Tm (List Ex) :=
  (.call 46047 [(.var 0), (.var 1), (.var 2), (.var 3), (.var 4), (.var 5), (.var 6), (.var 1)] <|
  (.ite (.cmp .eql (.var 14) (.slen (.var 7)))
    (.leaf [(.var 7), (.var 14), (.var 9), (.var 10), (.var 11), (.var 12), (.var 13), (.ilit 0), (.var 14), (.slit [])])
    (.guard (.cmp .leq (.ilit 0) (.var 14)) <|
    (.guard (.cmp .lss (.var 14) (.slen (.var 7))) <|
    (.ite (.cmp .eql (.byte (.var 7) (.var 14)) (.ilit 34))
      (.call 48 [(.var 7), (.var 14), (.var 9), (.var 10), (.var 11), (.var 12), (.var 13)] <|
      (.leaf [(.var 15), (.var 16), (.var 17), (.var 18), (.var 19), (.var 20), (.var 21), (.var 22), (.var 23), (.var 24)]))
      (.call 49 [(.byte (.var 7) (.var 14))] <|
      (.join 10
        (.ite (.var 15)
          (.call 46049 [(.var 7), (.var 14), (.var 9), (.var 10), (.var 11), (.var 12), (.var 13), (.var 14)] <|
          (.jump 10 [(.var 23), (.ilit 2), (.var 16), (.var 17), (.var 18), (.var 19), (.var 20), (.var 21), (.var 22)]))
          (.call 50 [(.byte (.var 7) (.var 14))] <|
          (.join 12
            (.ite (.var 16)
              (.call 46050 [(.var 7), (.var 14), (.var 9), (.var 10), (.var 11), (.var 12), (.var 13), (.var 14)] <|
              (.join 16
                (.ite (.one (.cmp .gtr (.bin .sub .i64 (.var 24) (.var 14)) (.ilit 10)) (.both (.cmp .gtr (.bin .sub .i64 (.var 24) (.var 14)) (.ilit 1)) (.cmp .eql (.byte (.var 7) (.var 14)) (.ilit 48))))
                  (.jump 16 [(.ilit 1)])
                  (.jump 16 [(.ilit 3)]))
                (.jump 12 [(.var 24), (.var 25), (.var 17), (.var 18), (.var 19), (.var 20), (.var 21), (.var 22), (.var 23)])))
              (.call 51 [(.slit [40, 41, 44]), (.byte (.var 7) (.var 14))] <|
              (.join 14
                (.ite (.cmp .lss (.var 17) (.ilit 0))
                  (.jump 14 [(.ilit 1)])
                  (.jump 14 [(.ilit 5)]))
                (.jump 12 [(.bin .add .i64 (.var 14) (.ilit 1)), (.var 18), (.var 7), (.var 14), (.var 9), (.var 10), (.var 11), (.var 12), (.var 13)]))))
            (.jump 10 [(.var 17), (.var 18), (.var 19), (.var 20), (.var 21), (.var 22), (.var 23), (.var 24), (.var 25)]))))
        (.guard (.cmp .leq (.ilit 0) (.var 14)) <|
        (.guard (.cmp .leq (.var 14) (.var 16)) <|
        (.guard (.cmp .leq (.var 16) (.slen (.var 18))) <|
        (.leaf [(.var 18), (.var 16), (.var 20), (.var 21), (.var 22), (.var 23), (.var 24), (.var 17), (.var 14), (.ssub (.var 18) (.var 14) (.var 16))])))))))))))
/-- gleaning/words.kind -/
def t30 : Tm (List Ex) :=
  (.call 39 [] <|
  (.loop 4 [(.ilit 0)]
    (.ite (.cmp .lss (.var 2) (.len (.var 1)))
      (.guard (.cmp .leq (.ilit 0) (.var 2)) <|
      (.guard (.cmp .lss (.var 2) (.len (.var 1))) <|
      (.ite (.scmp .eql (.cell (.var 1) (.var 2) 1) (.var 0))
        (.leaf [(.cell (.var 1) (.var 2) 0)])
        (.jump 4 [(.bin .add .i64 (.var 2) (.ilit 1))]))))
      (.leaf [(.ilit 0)]))))
/-- (*gleaning/words.parser).must -/
def t31 : Tm (List Ex) :=
  (.ite (.one (.one (.var 5) (.cmp .neq (.var 2) (.var 7))) (.both (.cmp .eql (.var 7) (.ilit 5)) (.scmp .neq (.var 4) (.var 8))))
    (.call 21 [(.var 0), (.var 1), (.var 2), (.var 3), (.var 4), (.var 5), (.var 6)] <|
    (.leaf [(.var 9), (.var 10), (.var 11), (.var 12), (.var 13), (.var 14), (.var 15), (.slit [])]))
    (.call 19 [(.var 0), (.var 1), (.var 2), (.var 3), (.var 4), (.var 5), (.var 6)] <|
    (.leaf [(.var 9), (.var 10), (.var 11), (.var 12), (.var 13), (.var 14), (.var 15), (.var 18)])))
/-- (*gleaning/words.parser).kids -/
def t32 : Tm (List Ex) :=
  (.call 52 [(.var 0), (.var 1), (.var 2), (.var 3), (.var 4), (.var 5), (.var 6), (.slit [41])] <|
  (.loop 5 [(.no (.var 14)), (.var 7), (.var 8), (.var 9), (.var 10), (.var 11), (.var 12), (.var 13), .nil]
    (.ite (.both (.var 15) (.no (.var 21)))
      (.call 20 [(.var 16), (.var 17), (.var 18), (.var 19), (.var 20), (.var 21), (.var 22)] <|
      (.guard (.cmp .leq (.len (.app (.var 23) (.app .nil (.row (.rcons (.var 31) (.rcons (.var 32) (.rcons (.var 33) (.rcons (.var 34) (.rcons (.var 35) .rnil))))))))) (.ilit 1954687338268)) <|
      (.call 52 [(.var 24), (.var 25), (.var 26), (.var 27), (.var 28), (.var 29), (.var 30), (.slit [44])] <|
      (.join 11
        (.ite (.var 43)
          (.call 19 [(.var 36), (.var 37), (.var 38), (.var 39), (.var 40), (.var 41), (.var 42)] <|
          (.jump 11 [(.var 44), (.var 45), (.var 46), (.var 47), (.var 48), (.var 49), (.var 50)]))
          (.jump 11 [(.var 36), (.var 37), (.var 38), (.var 39), (.var 40), (.var 41), (.var 42)]))
        (.jump 5 [(.var 43), (.var 44), (.var 45), (.var 46), (.var 47), (.var 48), (.var 49), (.var 50), (.app (.var 23) (.app .nil (.row (.rcons (.var 31) (.rcons (.var 32) (.rcons (.var 33) (.rcons (.var 34) (.rcons (.var 35) .rnil))))))))])))))
      (.leaf [(.var 16), (.var 17), (.var 18), (.var 19), (.var 20), (.var 21), (.var 22), (.var 23)]))))
/-- gleaning/gleaningref28.words -/
def t34 : Tm (List Ex) :=
  (.leaf [(.app (.app (.app (.app (.app (.app (.app (.app (.app (.app .nil (.row (.rcons (.slit []) .rnil))) (.row (.rcons (.slit [97, 108, 108]) .rnil))) (.row (.rcons (.slit [97, 110, 121]) .rnil))) (.row (.rcons (.slit [110, 111, 116]) .rnil))) (.row (.rcons (.slit [115, 108, 111, 119]) .rnil))) (.row (.rcons (.slit [101, 114, 114]) .rnil))) (.row (.rcons (.slit [97, 116, 116, 114]) .rnil))) (.row (.rcons (.slit [109, 97, 110, 121]) .rnil))) (.row (.rcons (.slit [104, 97, 115, 104]) .rnil))) (.row (.rcons (.slit [114, 97, 116, 101]) .rnil)))])
/-- gleaning/gleaningref28.quoted -/
def t35 : Tm (List Ex) :=
  (.loop 5 [(.slit [34]), (.ilit 0)]
    (.ite (.cmp .lss (.var 2) (.slen (.var 0)))
      (.guard (.cmp .leq (.ilit 0) (.var 2)) <|
      (.guard (.cmp .lss (.var 2) (.slen (.var 0))) <|
      (.guard (.one (.cmp .eql (.byte (.var 0) (.var 2)) (.ilit 34)) (.cmp .leq (.ilit 0) (.var 2))) <|
      (.guard (.one (.cmp .eql (.byte (.var 0) (.var 2)) (.ilit 34)) (.cmp .lss (.var 2) (.slen (.var 0)))) <|
      (.join 11
        (.ite (.one (.cmp .eql (.byte (.var 0) (.var 2)) (.ilit 34)) (.cmp .eql (.byte (.var 0) (.var 2)) (.ilit 92)))
          (.guard (.cmp .leq (.slen (.var 1)) (.ilit 1152921504606846976)) <|
          (.guard (.cmp .leq (.slen (.slit [92])) (.ilit 1152921504606846976)) <|
          (.jump 11 [(.scat (.var 1) (.slit [92]))])))
          (.jump 11 [(.var 1)]))
        (.guard (.cmp .leq (.ilit 0) (.var 2)) <|
        (.guard (.cmp .leq (.var 2) (.bin .add .i64 (.var 2) (.ilit 1))) <|
        (.guard (.cmp .leq (.bin .add .i64 (.var 2) (.ilit 1)) (.slen (.var 0))) <|
        (.guard (.cmp .leq (.slen (.var 3)) (.ilit 1152921504606846976)) <|
        (.guard (.cmp .leq (.slen (.ssub (.var 0) (.var 2) (.bin .add .i64 (.var 2) (.ilit 1)))) (.ilit 1152921504606846976)) <|
        (.jump 5 [(.scat (.var 3) (.ssub (.var 0) (.var 2) (.bin .add .i64 (.var 2) (.ilit 1)))), (.bin .add .i64 (.var 2) (.ilit 1))])))))))))))
      (.guard (.cmp .leq (.slen (.var 1)) (.ilit 1152921504606846976)) <|
      (.guard (.cmp .leq (.slen (.slit [34])) (.ilit 1152921504606846976)) <|
      (.leaf [(.scat (.var 1) (.slit [34]))])))))
/-- gleaning/gleaningref28.dec -/
def t36 : Tm (List Ex) :=
  (.guard (.cmp .leq (.ilit 0) (.bin .rem .i64 (.var 0) (.ilit 10))) <|
  (.guard (.cmp .leq (.bin .rem .i64 (.var 0) (.ilit 10)) (.bin .add .i64 (.bin .rem .i64 (.var 0) (.ilit 10)) (.ilit 1))) <|
  (.guard (.cmp .leq (.bin .add .i64 (.bin .rem .i64 (.var 0) (.ilit 10)) (.ilit 1)) (.slen (.slit [48, 49, 50, 51, 52, 53, 54, 55, 56, 57]))) <|
  (.ite (.cmp .gtr (.var 0) (.ilit 9))
    (.call 36 [(.bin .quo .i64 (.var 0) (.ilit 10))] <|
    (.guard (.cmp .leq (.slen (.var 1)) (.ilit 1152921504606846976)) <|
    (.guard (.cmp .leq (.slen (.ssub (.slit [48, 49, 50, 51, 52, 53, 54, 55, 56, 57]) (.bin .rem .i64 (.var 0) (.ilit 10)) (.bin .add .i64 (.bin .rem .i64 (.var 0) (.ilit 10)) (.ilit 1)))) (.ilit 1152921504606846976)) <|
    (.leaf [(.scat (.var 1) (.ssub (.slit [48, 49, 50, 51, 52, 53, 54, 55, 56, 57]) (.bin .rem .i64 (.var 0) (.ilit 10)) (.bin .add .i64 (.bin .rem .i64 (.var 0) (.ilit 10)) (.ilit 1))))]))))
    (.leaf [(.ssub (.slit [48, 49, 50, 51, 52, 53, 54, 55, 56, 57]) (.bin .rem .i64 (.var 0) (.ilit 10)) (.bin .add .i64 (.bin .rem .i64 (.var 0) (.ilit 10)) (.ilit 1)))])))))
/-- gleaning/gleaningref1.Within -/
def t37 : Tm (List Ex) :=
  (.leaf [(.both (.cmp .geq (.var 0) (.var 1)) (.cmp .leq (.var 0) (.var 2)))])
/-- gleaning/rule.own -/
def t38 : Tm (List Ex) :=
  (.join 7
    (.ite (.cmp .eql (.var 0) (.ilit 1))
      (.jump 7 [(.cmp .eql (.var 0) (.ilit 1))])
      (.jump 7 [(.cmp .eql (.var 0) (.ilit 2))]))
    (.ite (.var 5)
      (.leaf [(.both (.cmp .eql (.var 1) (.ilit 0)) (.both (.scmp .eql (.var 2) (.slit [])) (.scmp .eql (.var 3) (.slit []))))])
      (.ite (.cmp .eql (.var 0) (.ilit 3))
        (.leaf [(.both (.both (.cmp .eql (.var 1) (.ilit 0)) (.both (.scmp .eql (.var 2) (.slit [])) (.scmp .eql (.var 3) (.slit [])))) (.cmp .eql (.len (.var 4)) (.ilit 1)))])
        (.ite (.cmp .eql (.var 0) (.ilit 5))
          (.leaf [(.both (.both (.cmp .eql (.var 1) (.ilit 0)) (.both (.scmp .eql (.var 2) (.slit [])) (.scmp .eql (.var 3) (.slit [])))) (.cmp .eql (.len (.var 4)) (.ilit 0)))])
          (.ite (.cmp .eql (.var 0) (.ilit 6))
            (.join 14
              (.ite (.cmp .eql (.var 1) (.ilit 0))
                (.call 55 [(.var 2)] <|
                (.jump 14 [(.both (.both (.var 6) (.cmp .leq (.slen (.var 3)) (.ilit 16))) (.cmp .eql (.len (.var 4)) (.ilit 0)))]))
                (.jump 14 [(.blit false)]))
              (.leaf [(.var 6)]))
            (.join 4
              (.ite (.both (.both (.scmp .eql (.var 2) (.slit [])) (.scmp .eql (.var 3) (.slit []))) (.cmp .geq (.var 1) (.ilit 0)))
                (.call 56 [(.var 0)] <|
                (.jump 4 [(.both (.cmp .leq (.var 1) (.var 6)) (.cmp .eql (.len (.var 4)) (.ilit 0)))]))
                (.jump 4 [(.blit false)]))
              (.leaf [(.var 6)])))))))
/-- gleaning/words.all -/
def t39 : Tm (List Ex) :=
  (.leaf [(.app (.app (.app (.app (.app (.app (.app (.app (.app .nil (.row (.rcons (.ilit 1) (.rcons (.slit [97, 108, 108]) .rnil)))) (.row (.rcons (.ilit 2) (.rcons (.slit [97, 110, 121]) .rnil)))) (.row (.rcons (.ilit 3) (.rcons (.slit [110, 111, 116]) .rnil)))) (.row (.rcons (.ilit 4) (.rcons (.slit [115, 108, 111, 119]) .rnil)))) (.row (.rcons (.ilit 5) (.rcons (.slit [101, 114, 114]) .rnil)))) (.row (.rcons (.ilit 6) (.rcons (.slit [97, 116, 116, 114]) .rnil)))) (.row (.rcons (.ilit 7) (.rcons (.slit [109, 97, 110, 121]) .rnil)))) (.row (.rcons (.ilit 8) (.rcons (.slit [104, 97, 115, 104]) .rnil)))) (.row (.rcons (.ilit 9) (.rcons (.slit [114, 97, 116, 101]) .rnil))))])
/-- (*gleaning/words.parser).run -/
def t46047 : Tm (List Ex) :=
  (.loop 3 [(.var 7)]
    (.join 6
      (.guard (.one (.no (.cmp .lss (.var 8) (.slen (.var 0)))) (.cmp .leq (.ilit 0) (.var 8))) <|
      (.guard (.one (.no (.cmp .lss (.var 8) (.slen (.var 0)))) (.cmp .lss (.var 8) (.slen (.var 0)))) <|
      (.ite (.cmp .lss (.var 8) (.slen (.var 0)))
        (.call 47 [(.byte (.var 0) (.var 8))] <|
        (.jump 6 [(.var 9)]))
        (.jump 6 [(.blit false)]))))
      (.ite (.var 9)
        (.jump 3 [(.bin .add .i64 (.var 8) (.ilit 1))])
        (.leaf [(.var 0), (.var 1), (.var 2), (.var 3), (.var 4), (.var 5), (.var 6), (.var 8)]))))
/-- (*gleaning/words.parser).run -/
def t46049 : Tm (List Ex) :=
  (.loop 3 [(.var 7)]
    (.join 6
      (.guard (.one (.no (.cmp .lss (.var 8) (.slen (.var 0)))) (.cmp .leq (.ilit 0) (.var 8))) <|
      (.guard (.one (.no (.cmp .lss (.var 8) (.slen (.var 0)))) (.cmp .lss (.var 8) (.slen (.var 0)))) <|
      (.ite (.cmp .lss (.var 8) (.slen (.var 0)))
        (.call 49 [(.byte (.var 0) (.var 8))] <|
        (.jump 6 [(.var 9)]))
        (.jump 6 [(.blit false)]))))
      (.ite (.var 9)
        (.jump 3 [(.bin .add .i64 (.var 8) (.ilit 1))])
        (.leaf [(.var 0), (.var 1), (.var 2), (.var 3), (.var 4), (.var 5), (.var 6), (.var 8)]))))
/-- (*gleaning/words.parser).run -/
def t46050 : Tm (List Ex) :=
  (.loop 3 [(.var 7)]
    (.join 6
      (.guard (.one (.no (.cmp .lss (.var 8) (.slen (.var 0)))) (.cmp .leq (.ilit 0) (.var 8))) <|
      (.guard (.one (.no (.cmp .lss (.var 8) (.slen (.var 0)))) (.cmp .lss (.var 8) (.slen (.var 0)))) <|
      (.ite (.cmp .lss (.var 8) (.slen (.var 0)))
        (.call 50 [(.byte (.var 0) (.var 8))] <|
        (.jump 6 [(.var 9)]))
        (.jump 6 [(.blit false)]))))
      (.ite (.var 9)
        (.jump 3 [(.bin .add .i64 (.var 8) (.ilit 1))])
        (.leaf [(.var 0), (.var 1), (.var 2), (.var 3), (.var 4), (.var 5), (.var 6), (.var 8)]))))
/-- (*gleaning/words.parser).read$1 -/
def t47 : Tm (List Ex) :=
  (.leaf [(.one (.cmp .eql (.var 0) (.ilit 32)) (.cmp .eql (.var 0) (.ilit 10)))])
/-- (*gleaning/words.parser).quoted -/
def t48 : Tm (List Ex) :=
  (.loop 5 [(.bin .add .i64 (.var 1) (.ilit 1)), .nil]
    (.ite (.cmp .lss (.var 7) (.slen (.var 0)))
      (.guard (.cmp .leq (.ilit 0) (.var 7)) <|
      (.guard (.cmp .lss (.var 7) (.slen (.var 0))) <|
      (.ite (.cmp .eql (.byte (.var 0) (.var 7)) (.ilit 34))
        (.leaf [(.var 0), (.bin .add .i64 (.var 7) (.ilit 1)), (.var 2), (.var 3), (.var 4), (.var 5), (.var 6), (.ilit 4), (.var 1), (.text (.var 8))])
        (.join 14
          (.ite (.both (.cmp .eql (.byte (.var 0) (.var 7)) (.ilit 92)) (.cmp .lss (.bin .add .i64 (.var 7) (.ilit 1)) (.slen (.var 0))))
            (.guard (.cmp .leq (.ilit 0) (.bin .add .i64 (.var 7) (.ilit 1))) <|
            (.guard (.cmp .lss (.bin .add .i64 (.var 7) (.ilit 1)) (.slen (.var 0))) <|
            (.guard (.cmp .leq (.len (.app (.var 8) (.app .nil (.row (.rcons (.byte (.var 0) (.bin .add .i64 (.var 7) (.ilit 1))) .rnil))))) (.ilit 140737488355328)) <|
            (.jump 14 [(.bin .add .i64 (.var 7) (.ilit 1)), (.app (.var 8) (.app .nil (.row (.rcons (.byte (.var 0) (.bin .add .i64 (.var 7) (.ilit 1))) .rnil))))]))))
            (.ite (.cmp .eql (.byte (.var 0) (.var 7)) (.ilit 92))
              (.leaf [(.var 0), (.var 1), (.var 2), (.var 3), (.var 4), (.var 5), (.var 6), (.ilit 1), (.var 1), (.slit [])])
              (.guard (.cmp .leq (.len (.app (.var 8) (.app .nil (.row (.rcons (.byte (.var 0) (.var 7)) .rnil))))) (.ilit 140737488355328)) <|
              (.jump 14 [(.var 7), (.app (.var 8) (.app .nil (.row (.rcons (.byte (.var 0) (.var 7)) .rnil))))]))))
          (.jump 5 [(.bin .add .i64 (.var 9) (.ilit 1)), (.var 10)])))))
      (.leaf [(.var 0), (.var 1), (.var 2), (.var 3), (.var 4), (.var 5), (.var 6), (.ilit 1), (.var 1), (.slit [])])))
/-- gleaning/words.letter -/
def t49 : Tm (List Ex) :=
  (.leaf [(.both (.cmp .geq (.var 0) (.ilit 97)) (.cmp .leq (.var 0) (.ilit 122)))])
/-- gleaning/words.digit -/
def t50 : Tm (List Ex) :=
  (.leaf [(.both (.cmp .geq (.var 0) (.ilit 48)) (.cmp .leq (.var 0) (.ilit 57)))])
/-- (*gleaning/words.parser).is -/
def t52 : Tm (List Ex) :=
  (.leaf [(.var 0), (.var 1), (.var 2), (.var 3), (.var 4), (.var 5), (.var 6), (.both (.both (.no (.var 5)) (.cmp .eql (.var 2) (.ilit 5))) (.scmp .eql (.var 4) (.var 7)))])
/-- gleaning/span.Name -/
def t55 : Tm (List Ex) :=
  (.leaf [(.both (.cmp .geq (.slen (.var 0)) (.ilit 1)) (.cmp .leq (.slen (.var 0)) (.ilit 16)))])
/-- gleaning/rule.top -/
def t56 : Tm (List Ex) :=
  (.ite (.cmp .eql (.var 0) (.ilit 4))
    (.leaf [(.ilit 1073741824)])
    (.join 8
      (.ite (.cmp .eql (.var 0) (.ilit 7))
        (.jump 8 [(.cmp .eql (.var 0) (.ilit 7))])
        (.jump 8 [(.cmp .eql (.var 0) (.ilit 8))]))
      (.ite (.var 1)
        (.leaf [(.ilit 1000)])
        (.ite (.cmp .eql (.var 0) (.ilit 9))
          (.leaf [(.ilit 1000000)])
          (.leaf [(.ilit (-1))])))))

def g51 (ds : List D) : Option (List D) := some [.i (Lib.indexByte (ds.getD 0 default).str.data.toList (ds.getD 1 default).int.toNat.toUInt8)]
def es : List Ent := [⟨4, 4, s4, some t4, none⟩, ⟨5, 5, s5, some t5, none⟩, ⟨6, 6, s6, some t6, none⟩, ⟨7, 7, s7, some t7, none⟩, ⟨8, 8, s8, some t8, none⟩, ⟨9, 9, s9, some t9, none⟩, ⟨10, 10, s10, some t10, none⟩, ⟨11, 11, s11, some t11, none⟩, ⟨12, 12, s12, some t12, none⟩, ⟨13, 13, s13, some t13, none⟩, ⟨14, 14, s14, some t14, none⟩, ⟨15, 15, s15, some t15, none⟩, ⟨16, 16, s16, some t16, none⟩, ⟨17, 17, s17, some t17, none⟩, ⟨18, 18, s18, some t18, none⟩, ⟨19, 19, s19, some t19, none⟩, ⟨20, 20, s20, some t20, none⟩, ⟨21, 21, s21, some t21, none⟩, ⟨22, 22, s22, some t22, none⟩, ⟨23, 23, s23, some t23, none⟩, ⟨24, 24, s24, some t24, none⟩, ⟨25, 25, s25, some t25, none⟩, ⟨29, 29, s29, some t29, none⟩, ⟨30, 30, s30, some t30, none⟩, ⟨31, 31, s31, some t31, none⟩, ⟨32, 32, s32, some t32, none⟩, ⟨34, 34, s34, some t34, none⟩, ⟨35, 35, s35, some t35, none⟩, ⟨36, 36, s36, some t36, none⟩, ⟨37, 37, s37, some t37, none⟩, ⟨38, 38, s38, some t38, none⟩, ⟨39, 39, s39, some t39, none⟩, ⟨46, 46047, s46047, some t46047, none⟩, ⟨46, 46049, s46049, some t46049, none⟩, ⟨46, 46050, s46050, some t46050, none⟩, ⟨47, 47, s47, some t47, none⟩, ⟨48, 48, s48, some t48, none⟩, ⟨49, 49, s49, some t49, none⟩, ⟨50, 50, s50, some t50, none⟩, ⟨52, 52, s52, some t52, none⟩, ⟨55, 55, s55, some t55, none⟩, ⟨56, 56, s56, some t56, none⟩, ⟨33, 33, s33, none, some atoiD⟩, ⟨51, 51, s51, none, some g51⟩]

noncomputable def C : Cfg := cfgOf Tryz.prog es
def body (f : Func) : Code := match f.body with
  | some c => c
  | none => .skip

theorem x4 : EntOk Tryz.prog C ⟨4, 4, s4, some t4, none⟩ :=
  ⟨⟨_, Tryz.func4, rfl, by kernel_rfl⟩, fun _ => ⟨_, (body Tryz.f4), t4, rfl, Tryz.func4, rfl, by kernel_rfl⟩, fun _ h => by cases h⟩
theorem x5 : EntOk Tryz.prog C ⟨5, 5, s5, some t5, none⟩ :=
  ⟨⟨_, Tryz.func5, rfl, by kernel_rfl⟩, fun _ => ⟨_, (body Tryz.f5), t5, rfl, Tryz.func5, rfl, by kernel_rfl⟩, fun _ h => by cases h⟩
theorem x6 : EntOk Tryz.prog C ⟨6, 6, s6, some t6, none⟩ :=
  ⟨⟨_, Tryz.func6, rfl, by kernel_rfl⟩, fun _ => ⟨_, (body Tryz.f6), t6, rfl, Tryz.func6, rfl, by kernel_rfl⟩, fun _ h => by cases h⟩
theorem x7 : EntOk Tryz.prog C ⟨7, 7, s7, some t7, none⟩ :=
  ⟨⟨_, Tryz.func7, rfl, by kernel_rfl⟩, fun _ => ⟨_, (body Tryz.f7), t7, rfl, Tryz.func7, rfl, by kernel_rfl⟩, fun _ h => by cases h⟩
theorem x8 : EntOk Tryz.prog C ⟨8, 8, s8, some t8, none⟩ :=
  ⟨⟨_, Tryz.func8, rfl, by kernel_rfl⟩, fun _ => ⟨_, (body Tryz.f8), t8, rfl, Tryz.func8, rfl, by kernel_rfl⟩, fun _ h => by cases h⟩
theorem x9 : EntOk Tryz.prog C ⟨9, 9, s9, some t9, none⟩ :=
  ⟨⟨_, Tryz.func9, rfl, by kernel_rfl⟩, fun _ => ⟨_, (body Tryz.f9), t9, rfl, Tryz.func9, rfl, by kernel_rfl⟩, fun _ h => by cases h⟩
theorem x10 : EntOk Tryz.prog C ⟨10, 10, s10, some t10, none⟩ :=
  ⟨⟨_, Tryz.func10, rfl, by kernel_rfl⟩, fun _ => ⟨_, (body Tryz.f10), t10, rfl, Tryz.func10, rfl, by kernel_rfl⟩, fun _ h => by cases h⟩
theorem x11 : EntOk Tryz.prog C ⟨11, 11, s11, some t11, none⟩ :=
  ⟨⟨_, Tryz.func11, rfl, by kernel_rfl⟩, fun _ => ⟨_, (body Tryz.f11), t11, rfl, Tryz.func11, rfl, by kernel_rfl⟩, fun _ h => by cases h⟩
theorem x12 : EntOk Tryz.prog C ⟨12, 12, s12, some t12, none⟩ :=
  ⟨⟨_, Tryz.func12, rfl, by kernel_rfl⟩, fun _ => ⟨_, (body Tryz.f12), t12, rfl, Tryz.func12, rfl, by kernel_rfl⟩, fun _ h => by cases h⟩
theorem x13 : EntOk Tryz.prog C ⟨13, 13, s13, some t13, none⟩ :=
  ⟨⟨_, Tryz.func13, rfl, by kernel_rfl⟩, fun _ => ⟨_, (body Tryz.f13), t13, rfl, Tryz.func13, rfl, by kernel_rfl⟩, fun _ h => by cases h⟩
theorem x14 : EntOk Tryz.prog C ⟨14, 14, s14, some t14, none⟩ :=
  ⟨⟨_, Tryz.func14, rfl, by kernel_rfl⟩, fun _ => ⟨_, (body Tryz.f14), t14, rfl, Tryz.func14, rfl, by kernel_rfl⟩, fun _ h => by cases h⟩
theorem x15 : EntOk Tryz.prog C ⟨15, 15, s15, some t15, none⟩ :=
  ⟨⟨_, Tryz.func15, rfl, by kernel_rfl⟩, fun _ => ⟨_, (body Tryz.f15), t15, rfl, Tryz.func15, rfl, by kernel_rfl⟩, fun _ h => by cases h⟩
theorem x16 : EntOk Tryz.prog C ⟨16, 16, s16, some t16, none⟩ :=
  ⟨⟨_, Tryz.func16, rfl, by kernel_rfl⟩, fun _ => ⟨_, (body Tryz.f16), t16, rfl, Tryz.func16, rfl, by kernel_rfl⟩, fun _ h => by cases h⟩
theorem x17 : EntOk Tryz.prog C ⟨17, 17, s17, some t17, none⟩ :=
  ⟨⟨_, Tryz.func17, rfl, by kernel_rfl⟩, fun _ => ⟨_, (body Tryz.f17), t17, rfl, Tryz.func17, rfl, by kernel_rfl⟩, fun _ h => by cases h⟩
theorem x18 : EntOk Tryz.prog C ⟨18, 18, s18, some t18, none⟩ :=
  ⟨⟨_, Tryz.func18, rfl, by kernel_rfl⟩, fun _ => ⟨_, (body Tryz.f18), t18, rfl, Tryz.func18, rfl, by kernel_rfl⟩, fun _ h => by cases h⟩
theorem x19 : EntOk Tryz.prog C ⟨19, 19, s19, some t19, none⟩ :=
  ⟨⟨_, Tryz.func19, rfl, by kernel_rfl⟩, fun _ => ⟨_, (body Tryz.f19), t19, rfl, Tryz.func19, rfl, by kernel_rfl⟩, fun _ h => by cases h⟩
theorem x20 : EntOk Tryz.prog C ⟨20, 20, s20, some t20, none⟩ :=
  ⟨⟨_, Tryz.func20, rfl, by kernel_rfl⟩, fun _ => ⟨_, (body Tryz.f20), t20, rfl, Tryz.func20, rfl, by kernel_rfl⟩, fun _ h => by cases h⟩
theorem x21 : EntOk Tryz.prog C ⟨21, 21, s21, some t21, none⟩ :=
  ⟨⟨_, Tryz.func21, rfl, by kernel_rfl⟩, fun _ => ⟨_, (body Tryz.f21), t21, rfl, Tryz.func21, rfl, by kernel_rfl⟩, fun _ h => by cases h⟩
theorem x22 : EntOk Tryz.prog C ⟨22, 22, s22, some t22, none⟩ :=
  ⟨⟨_, Tryz.func22, rfl, by kernel_rfl⟩, fun _ => ⟨_, (body Tryz.f22), t22, rfl, Tryz.func22, rfl, by kernel_rfl⟩, fun _ h => by cases h⟩
theorem x23 : EntOk Tryz.prog C ⟨23, 23, s23, some t23, none⟩ :=
  ⟨⟨_, Tryz.func23, rfl, by kernel_rfl⟩, fun _ => ⟨_, (body Tryz.f23), t23, rfl, Tryz.func23, rfl, by kernel_rfl⟩, fun _ h => by cases h⟩
theorem x24 : EntOk Tryz.prog C ⟨24, 24, s24, some t24, none⟩ :=
  ⟨⟨_, Tryz.func24, rfl, by kernel_rfl⟩, fun _ => ⟨_, (body Tryz.f24), t24, rfl, Tryz.func24, rfl, by kernel_rfl⟩, fun _ h => by cases h⟩
theorem x25 : EntOk Tryz.prog C ⟨25, 25, s25, some t25, none⟩ :=
  ⟨⟨_, Tryz.func25, rfl, by kernel_rfl⟩, fun _ => ⟨_, (body Tryz.f25), t25, rfl, Tryz.func25, rfl, by kernel_rfl⟩, fun _ h => by cases h⟩
theorem x29 : EntOk Tryz.prog C ⟨29, 29, s29, some t29, none⟩ :=
  ⟨⟨_, Tryz.func29, rfl, by kernel_rfl⟩, fun _ => ⟨_, (body Tryz.f29), t29, rfl, Tryz.func29, rfl, by kernel_rfl⟩, fun _ h => by cases h⟩
theorem x30 : EntOk Tryz.prog C ⟨30, 30, s30, some t30, none⟩ :=
  ⟨⟨_, Tryz.func30, rfl, by kernel_rfl⟩, fun _ => ⟨_, (body Tryz.f30), t30, rfl, Tryz.func30, rfl, by kernel_rfl⟩, fun _ h => by cases h⟩
theorem x31 : EntOk Tryz.prog C ⟨31, 31, s31, some t31, none⟩ :=
  ⟨⟨_, Tryz.func31, rfl, by kernel_rfl⟩, fun _ => ⟨_, (body Tryz.f31), t31, rfl, Tryz.func31, rfl, by kernel_rfl⟩, fun _ h => by cases h⟩
theorem x32 : EntOk Tryz.prog C ⟨32, 32, s32, some t32, none⟩ :=
  ⟨⟨_, Tryz.func32, rfl, by kernel_rfl⟩, fun _ => ⟨_, (body Tryz.f32), t32, rfl, Tryz.func32, rfl, by kernel_rfl⟩, fun _ h => by cases h⟩
theorem x34 : EntOk Tryz.prog C ⟨34, 34, s34, some t34, none⟩ :=
  ⟨⟨_, Tryz.func34, rfl, by kernel_rfl⟩, fun _ => ⟨_, (body Tryz.f34), t34, rfl, Tryz.func34, rfl, by kernel_rfl⟩, fun _ h => by cases h⟩
theorem x35 : EntOk Tryz.prog C ⟨35, 35, s35, some t35, none⟩ :=
  ⟨⟨_, Tryz.func35, rfl, by kernel_rfl⟩, fun _ => ⟨_, (body Tryz.f35), t35, rfl, Tryz.func35, rfl, by kernel_rfl⟩, fun _ h => by cases h⟩
theorem x36 : EntOk Tryz.prog C ⟨36, 36, s36, some t36, none⟩ :=
  ⟨⟨_, Tryz.func36, rfl, by kernel_rfl⟩, fun _ => ⟨_, (body Tryz.f36), t36, rfl, Tryz.func36, rfl, by kernel_rfl⟩, fun _ h => by cases h⟩
theorem x37 : EntOk Tryz.prog C ⟨37, 37, s37, some t37, none⟩ :=
  ⟨⟨_, Tryz.func37, rfl, by kernel_rfl⟩, fun _ => ⟨_, (body Tryz.f37), t37, rfl, Tryz.func37, rfl, by kernel_rfl⟩, fun _ h => by cases h⟩
theorem x38 : EntOk Tryz.prog C ⟨38, 38, s38, some t38, none⟩ :=
  ⟨⟨_, Tryz.func38, rfl, by kernel_rfl⟩, fun _ => ⟨_, (body Tryz.f38), t38, rfl, Tryz.func38, rfl, by kernel_rfl⟩, fun _ h => by cases h⟩
theorem x39 : EntOk Tryz.prog C ⟨39, 39, s39, some t39, none⟩ :=
  ⟨⟨_, Tryz.func39, rfl, by kernel_rfl⟩, fun _ => ⟨_, (body Tryz.f39), t39, rfl, Tryz.func39, rfl, by kernel_rfl⟩, fun _ h => by cases h⟩
theorem x46047 : EntOk Tryz.prog C ⟨46, 46047, s46047, some t46047, none⟩ :=
  ⟨⟨_, Tryz.func46, rfl, by kernel_rfl⟩, fun _ => ⟨_, (body Tryz.f46), t46047, rfl, Tryz.func46, rfl, by kernel_rfl⟩, fun _ h => by cases h⟩
theorem x46049 : EntOk Tryz.prog C ⟨46, 46049, s46049, some t46049, none⟩ :=
  ⟨⟨_, Tryz.func46, rfl, by kernel_rfl⟩, fun _ => ⟨_, (body Tryz.f46), t46049, rfl, Tryz.func46, rfl, by kernel_rfl⟩, fun _ h => by cases h⟩
theorem x46050 : EntOk Tryz.prog C ⟨46, 46050, s46050, some t46050, none⟩ :=
  ⟨⟨_, Tryz.func46, rfl, by kernel_rfl⟩, fun _ => ⟨_, (body Tryz.f46), t46050, rfl, Tryz.func46, rfl, by kernel_rfl⟩, fun _ h => by cases h⟩
theorem x47 : EntOk Tryz.prog C ⟨47, 47, s47, some t47, none⟩ :=
  ⟨⟨_, Tryz.func47, rfl, by kernel_rfl⟩, fun _ => ⟨_, (body Tryz.f47), t47, rfl, Tryz.func47, rfl, by kernel_rfl⟩, fun _ h => by cases h⟩
theorem x48 : EntOk Tryz.prog C ⟨48, 48, s48, some t48, none⟩ :=
  ⟨⟨_, Tryz.func48, rfl, by kernel_rfl⟩, fun _ => ⟨_, (body Tryz.f48), t48, rfl, Tryz.func48, rfl, by kernel_rfl⟩, fun _ h => by cases h⟩
theorem x49 : EntOk Tryz.prog C ⟨49, 49, s49, some t49, none⟩ :=
  ⟨⟨_, Tryz.func49, rfl, by kernel_rfl⟩, fun _ => ⟨_, (body Tryz.f49), t49, rfl, Tryz.func49, rfl, by kernel_rfl⟩, fun _ h => by cases h⟩
theorem x50 : EntOk Tryz.prog C ⟨50, 50, s50, some t50, none⟩ :=
  ⟨⟨_, Tryz.func50, rfl, by kernel_rfl⟩, fun _ => ⟨_, (body Tryz.f50), t50, rfl, Tryz.func50, rfl, by kernel_rfl⟩, fun _ h => by cases h⟩
theorem x52 : EntOk Tryz.prog C ⟨52, 52, s52, some t52, none⟩ :=
  ⟨⟨_, Tryz.func52, rfl, by kernel_rfl⟩, fun _ => ⟨_, (body Tryz.f52), t52, rfl, Tryz.func52, rfl, by kernel_rfl⟩, fun _ h => by cases h⟩
theorem x55 : EntOk Tryz.prog C ⟨55, 55, s55, some t55, none⟩ :=
  ⟨⟨_, Tryz.func55, rfl, by kernel_rfl⟩, fun _ => ⟨_, (body Tryz.f55), t55, rfl, Tryz.func55, rfl, by kernel_rfl⟩, fun _ h => by cases h⟩
theorem x56 : EntOk Tryz.prog C ⟨56, 56, s56, some t56, none⟩ :=
  ⟨⟨_, Tryz.func56, rfl, by kernel_rfl⟩, fun _ => ⟨_, (body Tryz.f56), t56, rfl, Tryz.func56, rfl, by kernel_rfl⟩, fun _ h => by cases h⟩

theorem x51 : EntOk Tryz.prog C ⟨51, 51, s51, none, some g51⟩ := by
  refine ⟨⟨_, Tryz.func51, rfl, by kernel_rfl⟩, fun h => (by cases h), fun g h => ?_⟩
  cases h
  refine impl_pure rfl fun x args hP hn ha hs r hr => ?_
  simp only [g51, Option.some.injEq] at hr
  subst hr
  refine ⟨rfl, ?_⟩
  have h0 : args.getD 0 undef = .string (x.e.getD 0 default).str := (hs 0 _ rfl).2
  have h1 : args.getD 1 undef = .int .u8 (x.e.getD 1 default).int := (hs 1 _ rfl).2
  have hargs : args = #[.string (x.e.getD 0 default).str, .int .u8 (x.e.getD 1 default).int] := by
    have hsz : args.size = 2 := ha
    apply Array.ext
    · simpa using hsz
    · intro i h2 h3
      have : i = 0 ∨ i = 1 := by simp at h3; omega
      rcases this with rfl | rfl
      · simpa [Array.getD_eq_getD_getElem?, hsz] using h0
      · simpa [Array.getD_eq_getD_getElem?, hsz] using h1
  rw [hargs]
  refine (Tryz.strings_IndexByte _ _ x.w).mono ?_
  rintro e w' ⟨rfl, rfl⟩
  exact ⟨rfl, _, rfl, fun y _ he _ _ => ⟨by rw [he]; rfl, by rw [he]; rfl⟩⟩

theorem x33 : EntOk Tryz.prog C ⟨33, 33, s33, none, some atoiD⟩ := by
  refine ⟨⟨_, Tryz.func33, rfl, by kernel_rfl⟩, fun h => (by cases h), fun g h => ?_⟩
  cases h
  exact atoi_impl (gs := 0) (gr := 1) (T := 100) (U := 5) (by kernel_rfl) (by kernel_rfl) (fun s h v hv w => Any.strconv_Atoi_ok Tryz.laysC172 s h v hv w)
    (fun s h h1 h1' ev w h2 h3 => by
      cases he : Lib.atoiAll s.data.toList with
      | ok v => exact absurd he (h1 v)
      | range => exact absurd he h1'
      | _ => exact (Any.strconv_Atoi_syntax Tryz.laysC172 s h he ev w h2 h3).mono fun e w' ⟨N, h4, _, _, h5⟩ => ⟨N, h4, h5⟩)
    (fun s h h1 ev w h2 h3 => (Any.strconv_Atoi_range Tryz.laysC172 s h h1 ev w h2 h3).mono fun e w' ⟨N, h4, _, _, h5⟩ => ⟨N, h4, h5⟩)

theorem bookOk : BookOk (bookOf Tryz.prog es) := by
  refine bookOk_of (by kernel_rfl) (by decide) ?_
  simp only [es, List.forall_mem_cons, List.not_mem_nil, false_implies, implies_true, and_true]
  exact ⟨x4, x5, x6, x7, x8, x9, x10, x11, x12, x13, x14, x15, x16, x17, x18, x19, x20, x21, x22, x23, x24, x25, x29, x30, x31, x32, x34, x35, x36, x37, x38, x39, x46047, x46049, x46050, x47, x48, x49, x50, x52, x55, x56, x33, x51⟩

end Glw
