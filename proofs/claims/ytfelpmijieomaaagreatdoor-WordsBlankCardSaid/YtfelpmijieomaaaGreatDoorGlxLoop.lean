/- Loops by their equation; numbers that count. -/
import Derived.Test.YtfelpmijieomaaaGreatDoorGlxStr
namespace Glx
open Go

theorem den_loop_ind {L R : Type} {Φ : Nat → List D → Option (List D)} {kl : L → List D → Option R} {K : Nat → List D → Option R} {e : List D} {t : Nat} {i : List Ex} {b : Tm L} {r : Option R}
    (h : ∀ G : List D → Option R, (∀ st, G st = b.den Φ kl (upd K t G) (e ++ st)) → G (dens e i) = r) : (Tm.loop t i b).den Φ kl K e = r := h _ (loop_eq b K t e)

theorem inc {i : Nat} (h : i < 9223372036854775807) : arith .add .i64 (i : Int) 1 = ((i + 1 : Nat) : Int) := by
  rw [add_i64 (by omega) (by omega)]; rfl

theorem ite_same_some {R : Type} {c : Prop} [Decidable c] (h : c) (a b : Option R) : (if c then a else b) = a := if_pos h

theorem getD_lt {α : Type} {l : List α} {i : Nat} {d : α} (h : i < l.length) : l.getD i d = l[i] := by simp [List.getD, h]

/-- bytes as a row of cells -/
def cellsOf (l : List UInt8) : List (List D) := l.map fun c => [D.i c.toNat]
theorem cellsOf_append (a b : List UInt8) : cellsOf (a ++ b) = cellsOf a ++ cellsOf b := List.map_append
@[simp] theorem cellsOf_length (l : List UInt8) : (cellsOf l).length = l.length := List.length_map _
theorem textOf_cells (l : List UInt8) : textOf (cellsOf l) = bs l := by
  unfold textOf cellsOf bs
  congr 2
  rw [List.map_map]
  conv => rhs; rw [← List.map_id l]
  refine List.map_congr_left fun c _ => ?_
  simp

end Glx
