/- WordsWrong outside its list. -/
import Derived.Test.YtfelpmijieomaaaGreatDoorGlw
namespace Glw
open Go Go.Proofs Glx

noncomputable abbrev B : Book := bookOf Tryz.prog es

theorem ev6 : B.ev 100 40 6 [] = some [.b true] := by kernel_rfl

theorem phi_own {B : Book} {n cid : Nat} {t : Tm (List Ex)} {ds : List D} (hb : B.base cid = none) (ht : B.tm cid = some t) : B.phi (n + 1) cid ds = (fnDen (B.phi n) t ds).bind (B.cut cid) := by
  simp only [Book.phi, hb, ht]

theorem law_out (a : Int) (h : a < 0 ∨ 35 ≤ a) : B.phi 41 4 [.i a] = some [.b true] := by
  have h6 : B.phi 40 6 [] = some [.b true] := Book.ev_phi 40 6 _ _ ev6
  have hb : B.base 4 = none := by kernel_rfl
  have ht : B.tm 4 = some t4 := by kernel_rfl
  have hc : B.cut 4 [.b true] = some [.b true] := by kernel_rfl
  rw [show (41 : Nat) = 40 + 1 from rfl, phi_own hb ht]
  generalize B.phi 40 = Φ at h6
  have hd : fnDen Φ t4 [.i a] = some [.b true] := by
    unfold fnDen t4
    simp only [Tm.den, dens, List.map_nil, h6, Option.bind_some, List.singleton_append]
    rw [if_pos]
    · rfl
    · rcases h with h | h
      · simp [Ex.den, Glx.compare, h]
      · simp [Ex.den, Glx.compare, h]
  rw [hd]
  exact hc

end Glw
