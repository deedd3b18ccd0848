/- A walk that looks at some of its blocks only: the others stay as they are. -/
import Derived.Test.YtfelpmijieomaaaGreatDoorGlxSymOp
namespace Glx
open Go

/-- the blocks of a set alone; the rest is not looked at -/
def mask (N ids : Nat) (f : Nat → SObj) : List SObj := (List.range N).map fun p => if ids.testBit p then f p else .dead

theorem look_mask {N ids : Nat} {f : Nat → SObj} (p : Nat) : look (mask N ids f) p = if p < N then (if ids.testBit p then f p else .dead) else .unborn := by
  unfold look mask
  by_cases h : p < N <;> simp [List.getD_eq_getElem?_getD, h]

theorem mask_congr {N ids : Nat} {f g : Nat → SObj} (h : ∀ p, p < N → ids.testBit p = true → f p = g p) : mask N ids f = mask N ids g := by
  unfold mask
  refine List.map_congr_left fun p hp => ?_
  split
  · rename_i hb; exact h p (List.mem_range.1 hp) hb
  · rfl

def inIds (ids : Nat) (l : List (Nat × Nat)) : Bool := l.all fun p => ids.testBit p.1

/-- a cell that names no other block -/
def SV.within (ids : Nat) : SV → Bool
  | .ptr o _ | .own o _ | .oel o _ _ _ => ids.testBit o
  | .fn _ a c => inIds ids a && inIds ids c
  | _ => true
def S1.within (ids : Nat) : S1 → Bool
  | .one s => s.within ids
  | .agg l => l.all (SV.within ids)
def Slot.within (ids : Nat) : Slot → Bool
  | .v s => s.within ids
  | .tup l => l.all (S1.within ids)
def SObj.within (ids : Nat) : SObj → Bool
  | .cells _ l _ => l.all (SV.within ids)
  | _ => true

section
variable {x x' y' : Env} {ids N : Nat} {w0 : World} {M : Nat → Prop}

/-- the picture of some blocks -/
def Env.mask (x : Env) (N ids : Nat) : Env := { x with H := Glx.mask N ids (look x.H) }

def Env.unmask (x y' : Env) (N ids : Nat) : Env :=
  { y' with ν := fun p => if ids.testBit p then y'.ν p else x.ν p, H := (List.range N).map fun p => if ids.testBit p then look y'.H p else look x.H p }

theorem mask_ext (hN : ∀ p, N ≤ p → look x.H p = .unborn) : Ext x (x.mask N ids) := by
  have hl : ∀ p, look (x.mask N ids).H p = if p < N then (if ids.testBit p then look x.H p else .dead) else .unborn := fun p => look_mask p
  refine ⟨rfl, fun _ h => h, ⟨[], by simp [Env.mask]⟩, fun _ _ => rfl, fun o h => ?_, fun o T l fz _ h => ?_, fun o T e u _ h => ?_⟩
  · rw [hl]
    by_cases hp : o < N
    · rw [if_pos hp]
      split
      · exact h
      · rfl
    · rw [hN o (by omega)] at h; cases h
  · rw [hl] at h
    split at h
    · split at h
      · exact ⟨⟨l, fz, h⟩, rfl⟩
      · cases h
    · cases h
  · rw [hl] at h
    split at h
    · split at h
      · exact ⟨e, u, h, Nat.le_refl _, fun _ => rfl⟩
      · cases h
    · cases h

theorem mask_sat (hs : Sat x w0 M) (hN : ∀ p, N ≤ p → look x.H p = .unborn) : Sat (x.mask N ids) x.w (Mof (x.mask N ids)) := by
  have hl : ∀ p, look (x.mask N ids).H p = if p < N then (if ids.testBit p then look x.H p else .dead) else .unborn := fun p => look_mask p
  have hsame : ∀ p, (look (x.mask N ids).H p).live = true → look (x.mask N ids).H p = look x.H p := by
    intro p h
    rw [hl] at h ⊢
    split
    · split
      · rfl
      · rename_i h1 h2; rw [if_pos h1, if_neg h2] at h; cases h
    · rename_i h1; rw [if_neg h1] at h; cases h
  refine ⟨fun o => ?_, fun o o' b hne h1 h2 h3 => ?_, hs.ibound, fun o b h1 h2 => .inl ⟨o, h1, h2⟩, Fr.refl _ _, hs.glob⟩
  · by_cases hlv : (look (x.mask N ids).H o).live = true
    · rw [hsame o hlv]
      exact (hs.objs o).ext (mask_ext hN) (fun _ => rfl) fun b _ _ => ⟨rfl, Iff.rfl⟩
    · cases hk : look (x.mask N ids).H o <;> rw [hk] at hlv <;> first | trivial | exact absurd rfl hlv
  · exact hs.apart o o' b hne (by rw [← hsame o h1]; exact h1) (by rw [← hsame o' h2]; exact h2) h3

/-- what an operation did to the masked picture, it did to the whole one -/
theorem unmask (hs : Sat x w0 M) (hN : ∀ p, N ≤ p → look x.H p = .unborn) (hids : ∀ p, ids.testBit p = true → p < N)
    (hs' : Sat y' x.w (Mof (x.mask N ids))) (he : Ext (x.mask N ids) y') (hback : ∀ b, y'.I b → x.I b ∨ x.w.heap.size ≤ b ∨ Mof (x.mask N ids) b)
    (hfz : ∀ p T l, ids.testBit p = true → look y'.H p = .cells T l true → look x.H p = look y'.H p)
    (hwithin : ∀ p, ids.testBit p = true → (look y'.H p).within ids = true) :
    Sat (x.unmask y' N ids) w0 M ∧ Ext x (x.unmask y' N ids) ∧ (∀ p, look (x.unmask y' N ids).H p = if ids.testBit p then look y'.H p else look x.H p) ∧
      (∀ s v, s.within ids = true → GS y' s v → GS (x.unmask y' N ids) s v) ∧ (∀ b, (x.unmask y' N ids).I b → x.I b ∨ x.w.heap.size ≤ b ∨ Mof x b) := by
  generalize hy : x.unmask y' N ids = y
  have hlm : ∀ p, look (x.mask N ids).H p = if p < N then (if ids.testBit p then look x.H p else .dead) else .unborn := fun p => look_mask p
  have hlid : ∀ p, ids.testBit p = true → look (x.mask N ids).H p = look x.H p := fun p h => by rw [hlm, if_pos (hids p h), if_pos h]
  have hl : ∀ p, look y.H p = if ids.testBit p then look y'.H p else look x.H p := by
    intro p
    rw [← hy]
    show look ((List.range N).map _) p = _
    by_cases h : p < N
    · unfold look; simp [List.getD_eq_getElem?_getD, h]
    · have h1 : ids.testBit p ≠ true := fun h2 => h (hids p h2)
      rw [if_neg h1, hN p (by omega)]
      unfold look
      simp [List.getD_eq_getElem?_getD, h]
  have hν : ∀ p, y.ν p = if ids.testBit p then y'.ν p else x.ν p := fun p => by rw [← hy]; rfl
  have hyP : y.P = y'.P := by rw [← hy]; rfl
  have hyI : y.I = y'.I := by rw [← hy]; rfl
  have hye : y.e = y'.e := by rw [← hy]; rfl
  have hyw : y.w = y'.w := by rw [← hy]; rfl
  have hMof : ∀ b, Mof (x.mask N ids) b → ∃ o, ids.testBit o = true ∧ (look x.H o).loose = true ∧ (look x.H o).live = true ∧ blkOf (x.ν o) = some b := by
    rintro b ⟨o, h1, h2⟩
    have h1' := h1
    rw [hlm] at h1
    split at h1
    · split at h1
      · rename_i _ h3
        refine ⟨o, h3, h1, ?_, h2⟩
        cases hq : look x.H o <;> rw [hq] at h1 <;> first | rfl | cases h1
      · cases h1
    · cases h1
  have hheap : ∀ b, b < x.w.heap.size → ¬ Mof (x.mask N ids) b → y.w.heap[b]? = x.w.heap[b]? := fun b h1 h2 => by rw [hyw]; exact hs'.frame.block b h1 h2
  have hext : Ext x y := by
    obtain ⟨ds, hds⟩ := he.e
    refine ⟨by rw [hyP]; exact he.P, fun b hb => by rw [hyI]; exact he.I b hb, ⟨ds, by rw [hye]; exact hds⟩, fun b hb => by rw [hyw]; exact he.heap b hb, fun o ho => ?_, fun o T l fz ho h => ?_, fun o T e u ho h => ?_⟩
    · rw [hl]
      split
      · rename_i h1; exact he.born o (by rw [hlid o h1]; exact ho)
      · exact ho
    · rw [hl] at h
      rw [hν]
      split at h
      · rename_i h1
        rw [if_pos h1]
        have := he.cells o T l fz (by rw [hlid o h1]; exact ho) h
        rw [hlid o h1] at this
        exact this
      · rename_i h1
        rw [if_neg h1]
        exact ⟨⟨l, fz, h⟩, rfl⟩
    · rw [hl] at h
      rw [hν]
      split at h
      · rename_i h1
        rw [if_pos h1]
        have := he.rows o T e u (by rw [hlid o h1]; exact ho) h
        rw [hlid o h1] at this
        exact this
      · rename_i h1
        rw [if_neg h1]
        exact ⟨e, u, h, Nat.le_refl _, fun _ => rfl⟩
  -- what names blocks of the set alone, says the same of both
  have hp : ∀ (p : Nat × Nat) (v : Value), ids.testBit p.1 = true → ptrTo y' p v → ptrTo y p v := by
    intro p v h1 h2
    refine ⟨by rw [hl, if_pos h1]; exact h2.1, fun T l fz h => ?_⟩
    rw [hl, if_pos h1] at h
    rw [hν, if_pos h1]
    exact h2.2 T l fz h
  have hps : ∀ (l : List (Nat × Nat)) (c : Array Value), inIds ids l = true → ptrsTo y' l c → ptrsTo y l c := by
    intro l c h1 h2
    unfold inIds at h1
    rw [List.all_eq_true] at h1
    exact ⟨h2.1, fun j p hj => hp p _ (h1 p (List.mem_of_getElem? hj)) (h2.2 j p hj)⟩
  have hG : ∀ (s : SV) (v : Value), s.within ids = true → G y' s v → G y s v := by
    intro s v h1 h2
    cases s with
    | int k e => simp only [G, hye]; exact h2
    | bool e => simp only [G, hye]; exact h2
    | str e => simp only [G, hye]; exact h2
    | sl T e => simp only [G, hye, hyP, hyI, hyw]; exact h2
    | nils => exact h2
    | nilp => exact h2
    | nilf => exact h2
    | ifc e => simp only [G, hye]; exact h2
    | top => trivial
    | ptr o off => exact hp (o, off) v h1 h2
    | own o ver =>
      have h1 : ids.testBit o = true := h1
      refine ⟨by rw [hl, if_pos h1]; exact h2.1, fun T e u h => ?_⟩
      rw [hl, if_pos h1] at h
      rw [hν, if_pos h1]
      exact h2.2 T e u h
    | oel o ver i off =>
      have h1 : ids.testBit o = true := h1
      refine ⟨by rw [hye]; exact h2.1, by rw [hl, if_pos h1]; exact h2.2.1, fun T e u h => ?_⟩
      rw [hl, if_pos h1] at h
      rw [hν, if_pos h1, hye, hyP]
      exact h2.2.2 T e u h
    | pel T l i off => simp only [G, hye, hyP, hyI, hyw]; exact h2
    | fn f a c =>
      simp only [SV.within, Bool.and_eq_true] at h1
      obtain ⟨va, vc, e1, e2, e3⟩ := h2
      exact ⟨va, vc, e1, hps a va h1.1 e2, hps c vc h1.2 e3⟩
  have hGL : ∀ (l : List SV) (c : Array Value), l.all (SV.within ids) = true → GL y' l c → GL y l c := by
    intro l c h1 h2
    rw [List.all_eq_true] at h1
    exact ⟨h2.1, fun j s hj => hG s _ (h1 s (List.mem_of_getElem? hj)) (h2.2 j s hj)⟩
  have hG1 : ∀ (s : S1) (v : Value), s.within ids = true → G1 y' s v → G1 y s v := by
    intro s v h1 h2
    cases s with
    | one s => exact hG s v h1 h2
    | agg l => obtain ⟨c, e1, e2⟩ := h2; exact ⟨c, e1, hGL l c h1 e2⟩
  have hGS : ∀ s v, s.within ids = true → GS y' s v → GS y s v := by
    intro s v h1 h2
    cases s with
    | v s => exact hG1 s v h1 h2
    | tup l =>
      obtain ⟨c, e1, e2, e3⟩ := h2
      simp only [Slot.within, List.all_eq_true] at h1
      exact ⟨c, e1, e2, fun j s hj => hG1 s _ (h1 s (List.mem_of_getElem? hj)) (e3 j s hj)⟩
  have hback' : ∀ b, y.I b → x.I b ∨ x.w.heap.size ≤ b ∨ Mof x b := by
    intro b hb
    rw [hyI] at hb
    rcases hback b hb with h | h | h
    · exact .inl h
    · exact .inr (.inl h)
    · obtain ⟨o, _, h1, _, h2⟩ := hMof b h
      exact .inr (.inr ⟨o, h1, h2⟩)
  refine ⟨Sat.step hs hext (fun o => ids.testBit o = true) (fun o ho => ⟨by rw [hl, if_neg ho], by rw [hν, if_neg ho]⟩) (fun o b ho hlv hb => ?_) (fun o ho => ?_) (fun o o' b ho hne h1 h2 h3 => ?_) (fun b hb => ?_) (fun o b ho h1 h2 => ?_) ?_, hext, hl, hGS, hback'⟩
  · have hnm : ¬ Mof (x.mask N ids) b := by
      intro h
      obtain ⟨o2, g1, g2, g3, g4⟩ := hMof b h
      have hne : o ≠ o2 := fun e => ho (e ▸ g1)
      exact hs.apart o o2 b hne hlv g3 hb g4
    have hlt := live_blk_lt hs hlv hb
    refine ⟨hheap b hlt hnm, fun h => ?_, fun h => by rw [hyI]; exact he.I b h⟩
    rw [hyI] at h
    rcases hback b h with h | h | h
    · exact h
    · omega
    · exact absurd h hnm
  · rw [hl, if_pos ho]
    have h1 := hs'.objs o
    have h2 := hwithin o ho
    cases hq : look y'.H o with
    | unborn => trivial
    | dead => trivial
    | cells T l fz =>
      rw [hq] at h1 h2
      obtain ⟨b, c, k1, k2, k3, k4, k5⟩ := h1
      exact ⟨b, c, by rw [hν, if_pos ho]; exact k1, by rw [hyw]; exact k2, hGL l c h2 k3, by rw [hyI]; exact k4, by rw [hyI]; exact k5⟩
    | row T e u =>
      rw [hq] at h1
      obtain ⟨hsc, ts, n, xs, k1, k2, k3, k4, k5⟩ := h1
      exact ⟨by rw [hye]; exact hsc, ts, n, xs, by rw [hyP]; exact k1, by rw [hν, if_pos ho, hyw]; exact k2, by rw [hye]; exact k3, by rw [hyP, hyI, hyw, hye]; exact k4, by rw [hν, if_pos ho, hyI]; exact k5⟩
  · rw [hl, if_pos ho] at h1
    rw [hν, if_pos ho] at h3
    by_cases ho' : ids.testBit o' = true
    · rw [hl, if_pos ho'] at h2
      rw [hν, if_pos ho']
      exact hs'.apart o o' b hne h1 h2 h3
    · rw [hl, if_neg ho'] at h2
      rw [hν, if_neg ho']
      intro h4
      have hlt := live_blk_lt hs h2 h4
      have hnm : ¬ Mof (x.mask N ids) b := by
        intro h
        obtain ⟨o2, g1, _, g3, g4⟩ := hMof b h
        exact hs.apart o' o2 b (fun e => ho' (e ▸ g1)) h2 g3 h4 g4
      cases hls : (look y'.H o).loose with
      | true =>
        rcases hs'.mine o b hls h3 with h5 | h5
        · exact hnm h5
        · omega
      | false =>
        cases hq : look y'.H o with
        | unborn => rw [hq] at h1; cases h1
        | dead => rw [hq] at h1; cases h1
        | row T e u => rw [hq] at hls; cases hls
        | cells T l fz =>
          cases fz with
          | false => rw [hq] at hls; cases hls
          | true =>
            have h5 := hfz o T l ho hq
            have hxl : look x.H o = .cells T l true := by rw [h5, hq]
            have h6 := he.cells o T l true (by rw [hlid o ho, hxl]; rfl) hq
            have h7 : y'.ν o = x.ν o := h6.2
            rw [h7] at h3
            exact hs.apart o o' b hne (by rw [hxl]; rfl) h2 h3 h4
  · rw [hyI] at hb; rw [hyw]; exact hs'.ibound b hb
  · rw [hl, if_pos ho] at h1
    rw [hν, if_pos ho] at h2
    rcases hs'.mine o b h1 h2 with h3 | h3
    · obtain ⟨o2, _, g2, _, g4⟩ := hMof b h3
      exact hs.mine o2 b g2 g4
    · exact .inr (Nat.le_trans hs.frame.size h3)
  · have hf := hs'.frame
    refine ⟨by rw [hyw]; exact hf.os.trans hs.frame.os, by rw [hyw]; exact hf.tape.trans hs.frame.tape, by rw [hyw]; exact hf.output.trans hs.frame.output, by rw [hyw]; exact Nat.le_trans hs.frame.size hf.size, fun b hb hm => ?_⟩
    have hbz := Nat.lt_of_lt_of_le hb hs.frame.size
    refine (hheap b hbz fun hmx => ?_).trans (hs.frame.block b hb hm)
    obtain ⟨o2, _, g2, _, g4⟩ := hMof b hmx
    rcases hs.mine o2 b g2 g4 with h8 | h8
    · exact hm h8
    · omega

end
end Glx
