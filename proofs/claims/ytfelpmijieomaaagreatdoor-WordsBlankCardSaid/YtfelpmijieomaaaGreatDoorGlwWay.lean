/- The way into each function of the words program: printed by a program. -/
import Derived.Test.YtfelpmijieomaaaGreatDoorGlw
import Derived.Test.YtfelpmijieomaaaGreatDoorGlxStr
set_option linter.unusedSimpArgs false
set_option linter.unusedVariables false
namespace Glw
open Go Go.Proofs Glx

/-- what the program's functions mean -/
noncomputable abbrev L : Nat → List D → Option (List D) := (bookOf Tryz.prog es).lim

theorem l4 {us r : List D} (h : fnDen L t4 us = some r) (hl : r.length = 1) : L 4 us = some r := Book.lim_tm (s := s4) (by kernel_rfl) (by kernel_rfl) (by kernel_rfl) h hl
theorem l5 {us r : List D} (h : fnDen L t5 us = some r) (hl : r.length = 1) : L 5 us = some r := Book.lim_tm (s := s5) (by kernel_rfl) (by kernel_rfl) (by kernel_rfl) h hl
theorem l6 {us r : List D} (h : fnDen L t6 us = some r) (hl : r.length = 1) : L 6 us = some r := Book.lim_tm (s := s6) (by kernel_rfl) (by kernel_rfl) (by kernel_rfl) h hl
theorem l7 {us r : List D} (h : fnDen L t7 us = some r) (hl : r.length = 1) : L 7 us = some r := Book.lim_tm (s := s7) (by kernel_rfl) (by kernel_rfl) (by kernel_rfl) h hl
theorem l8 {us r : List D} (h : fnDen L t8 us = some r) (hl : r.length = 1) : L 8 us = some r := Book.lim_tm (s := s8) (by kernel_rfl) (by kernel_rfl) (by kernel_rfl) h hl
theorem l9 {us r : List D} (h : fnDen L t9 us = some r) (hl : r.length = 1) : L 9 us = some r := Book.lim_tm (s := s9) (by kernel_rfl) (by kernel_rfl) (by kernel_rfl) h hl
theorem l10 {us r : List D} (h : fnDen L t10 us = some r) (hl : r.length = 7) : L 10 us = some r := Book.lim_tm (s := s10) (by kernel_rfl) (by kernel_rfl) (by kernel_rfl) h hl
theorem l11 {us r : List D} (h : fnDen L t11 us = some r) (hl : r.length = 1) : L 11 us = some r := Book.lim_tm (s := s11) (by kernel_rfl) (by kernel_rfl) (by kernel_rfl) h hl
theorem l12 {us r : List D} (h : fnDen L t12 us = some r) (hl : r.length = 1) : L 12 us = some r := Book.lim_tm (s := s12) (by kernel_rfl) (by kernel_rfl) (by kernel_rfl) h hl
theorem l13 {us r : List D} (h : fnDen L t13 us = some r) (hl : r.length = 1) : L 13 us = some r := Book.lim_tm (s := s13) (by kernel_rfl) (by kernel_rfl) (by kernel_rfl) h hl
theorem l14 {us r : List D} (h : fnDen L t14 us = some r) (hl : r.length = 1) : L 14 us = some r := Book.lim_tm (s := s14) (by kernel_rfl) (by kernel_rfl) (by kernel_rfl) h hl
theorem l15 {us r : List D} (h : fnDen L t15 us = some r) (hl : r.length = 1) : L 15 us = some r := Book.lim_tm (s := s15) (by kernel_rfl) (by kernel_rfl) (by kernel_rfl) h hl
theorem l16 {us r : List D} (h : fnDen L t16 us = some r) (hl : r.length = 1) : L 16 us = some r := Book.lim_tm (s := s16) (by kernel_rfl) (by kernel_rfl) (by kernel_rfl) h hl
theorem l17 {us r : List D} (h : fnDen L t17 us = some r) (hl : r.length = 1) : L 17 us = some r := Book.lim_tm (s := s17) (by kernel_rfl) (by kernel_rfl) (by kernel_rfl) h hl
theorem l18 {us r : List D} (h : fnDen L t18 us = some r) (hl : r.length = 1) : L 18 us = some r := Book.lim_tm (s := s18) (by kernel_rfl) (by kernel_rfl) (by kernel_rfl) h hl
theorem l19 {us r : List D} (h : fnDen L t19 us = some r) (hl : r.length = 10) : L 19 us = some r := Book.lim_tm (s := s19) (by kernel_rfl) (by kernel_rfl) (by kernel_rfl) h hl
theorem l20 {us r : List D} (h : fnDen L t20 us = some r) (hl : r.length = 12) : L 20 us = some r := Book.lim_tm (s := s20) (by kernel_rfl) (by kernel_rfl) (by kernel_rfl) h hl
theorem l21 {us r : List D} (h : fnDen L t21 us = some r) (hl : r.length = 7) : L 21 us = some r := Book.lim_tm (s := s21) (by kernel_rfl) (by kernel_rfl) (by kernel_rfl) h hl
theorem l22 {us r : List D} (h : fnDen L t22 us = some r) (hl : r.length = 1) : L 22 us = some r := Book.lim_tm (s := s22) (by kernel_rfl) (by kernel_rfl) (by kernel_rfl) h hl
theorem l23 {us r : List D} (h : fnDen L t23 us = some r) (hl : r.length = 1) : L 23 us = some r := Book.lim_tm (s := s23) (by kernel_rfl) (by kernel_rfl) (by kernel_rfl) h hl
theorem l24 {us r : List D} (h : fnDen L t24 us = some r) (hl : r.length = 2) : L 24 us = some r := Book.lim_tm (s := s24) (by kernel_rfl) (by kernel_rfl) (by kernel_rfl) h hl
theorem l25 {us r : List D} (h : fnDen L t25 us = some r) (hl : r.length = 1) : L 25 us = some r := Book.lim_tm (s := s25) (by kernel_rfl) (by kernel_rfl) (by kernel_rfl) h hl
theorem l29 {us r : List D} (h : fnDen L t29 us = some r) (hl : r.length = 10) : L 29 us = some r := Book.lim_tm (s := s29) (by kernel_rfl) (by kernel_rfl) (by kernel_rfl) h hl
theorem l30 {us r : List D} (h : fnDen L t30 us = some r) (hl : r.length = 1) : L 30 us = some r := Book.lim_tm (s := s30) (by kernel_rfl) (by kernel_rfl) (by kernel_rfl) h hl
theorem l31 {us r : List D} (h : fnDen L t31 us = some r) (hl : r.length = 8) : L 31 us = some r := Book.lim_tm (s := s31) (by kernel_rfl) (by kernel_rfl) (by kernel_rfl) h hl
theorem l32 {us r : List D} (h : fnDen L t32 us = some r) (hl : r.length = 8) : L 32 us = some r := Book.lim_tm (s := s32) (by kernel_rfl) (by kernel_rfl) (by kernel_rfl) h hl
theorem l34 {us r : List D} (h : fnDen L t34 us = some r) (hl : r.length = 1) : L 34 us = some r := Book.lim_tm (s := s34) (by kernel_rfl) (by kernel_rfl) (by kernel_rfl) h hl
theorem l35 {us r : List D} (h : fnDen L t35 us = some r) (hl : r.length = 1) : L 35 us = some r := Book.lim_tm (s := s35) (by kernel_rfl) (by kernel_rfl) (by kernel_rfl) h hl
theorem l36 {us r : List D} (h : fnDen L t36 us = some r) (hl : r.length = 1) : L 36 us = some r := Book.lim_tm (s := s36) (by kernel_rfl) (by kernel_rfl) (by kernel_rfl) h hl
theorem l37 {us r : List D} (h : fnDen L t37 us = some r) (hl : r.length = 1) : L 37 us = some r := Book.lim_tm (s := s37) (by kernel_rfl) (by kernel_rfl) (by kernel_rfl) h hl
theorem l38 {us r : List D} (h : fnDen L t38 us = some r) (hl : r.length = 1) : L 38 us = some r := Book.lim_tm (s := s38) (by kernel_rfl) (by kernel_rfl) (by kernel_rfl) h hl
theorem l39 {us r : List D} (h : fnDen L t39 us = some r) (hl : r.length = 1) : L 39 us = some r := Book.lim_tm (s := s39) (by kernel_rfl) (by kernel_rfl) (by kernel_rfl) h hl
theorem l46047 {us r : List D} (h : fnDen L t46047 us = some r) (hl : r.length = 8) : L 46047 us = some r := Book.lim_tm (s := s46047) (by kernel_rfl) (by kernel_rfl) (by kernel_rfl) h hl
theorem l46049 {us r : List D} (h : fnDen L t46049 us = some r) (hl : r.length = 8) : L 46049 us = some r := Book.lim_tm (s := s46049) (by kernel_rfl) (by kernel_rfl) (by kernel_rfl) h hl
theorem l46050 {us r : List D} (h : fnDen L t46050 us = some r) (hl : r.length = 8) : L 46050 us = some r := Book.lim_tm (s := s46050) (by kernel_rfl) (by kernel_rfl) (by kernel_rfl) h hl
theorem l47 {us r : List D} (h : fnDen L t47 us = some r) (hl : r.length = 1) : L 47 us = some r := Book.lim_tm (s := s47) (by kernel_rfl) (by kernel_rfl) (by kernel_rfl) h hl
theorem l48 {us r : List D} (h : fnDen L t48 us = some r) (hl : r.length = 10) : L 48 us = some r := Book.lim_tm (s := s48) (by kernel_rfl) (by kernel_rfl) (by kernel_rfl) h hl
theorem l49 {us r : List D} (h : fnDen L t49 us = some r) (hl : r.length = 1) : L 49 us = some r := Book.lim_tm (s := s49) (by kernel_rfl) (by kernel_rfl) (by kernel_rfl) h hl
theorem l50 {us r : List D} (h : fnDen L t50 us = some r) (hl : r.length = 1) : L 50 us = some r := Book.lim_tm (s := s50) (by kernel_rfl) (by kernel_rfl) (by kernel_rfl) h hl
theorem l52 {us r : List D} (h : fnDen L t52 us = some r) (hl : r.length = 8) : L 52 us = some r := Book.lim_tm (s := s52) (by kernel_rfl) (by kernel_rfl) (by kernel_rfl) h hl
theorem l55 {us r : List D} (h : fnDen L t55 us = some r) (hl : r.length = 1) : L 55 us = some r := Book.lim_tm (s := s55) (by kernel_rfl) (by kernel_rfl) (by kernel_rfl) h hl
theorem l56 {us r : List D} (h : fnDen L t56 us = some r) (hl : r.length = 1) : L 56 us = some r := Book.lim_tm (s := s56) (by kernel_rfl) (by kernel_rfl) (by kernel_rfl) h hl
theorem l33 {us r : List D} (h : atoiD us = some r) (hl : r.length = 2) : L 33 us = some r := Book.lim_base (s := s33) (by kernel_rfl) (by kernel_rfl) h hl
theorem l51 {us r : List D} (h : g51 us = some r) (hl : r.length = 1) : L 51 us = some r := Book.lim_base (s := s51) (by kernel_rfl) (by kernel_rfl) h hl

end Glw
