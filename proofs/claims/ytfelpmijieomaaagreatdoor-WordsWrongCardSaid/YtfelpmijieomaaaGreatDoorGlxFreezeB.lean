/- That it is so. -/
import Derived.Test.YtfelpmijieomaaaGreatDoorGlxFreeze
namespace Glx
open Go

section
variable {x : Env} {w0 : World} {M : Nat → Prop}

theorem freeze_env (hs : Sat x w0 M) {o : Nat} {T : TypeId} {e : Ex} {u : Nat} (hl : look x.H o = .row T e u) :
    ∃ x' : Env, x'.w = x.w ∧ x'.P = x.P ∧ x'.e = x.e ∧ x'.ν = x.ν ∧ x'.H = (x.H.map (frO o T e u)).set o .dead ∧ Sat x' w0 M ∧ Ext x x' ∧ (∀ b, x'.I b → x.I b ∨ w0.heap.size ≤ b ∨ M b) ∧ (∀ p T' l fz, look x'.H p = .cells T' l fz → ∃ l', look x.H p = .cells T' l' fz) ∧
      (∀ s v, GS x s v → GS x' (frS o T e u s) v) := by
  have hlook : ∀ p, look ((x.H.map (frO o T e u)).set o .dead) p = if p = o then .dead else frO o T e u (look x.H p) := by
    intro p
    have ho : o < x.H.length := look_lt (by rw [hl]; rfl)
    unfold look
    by_cases hp : p = o
    · subst hp; simp [ho]
    · rw [if_neg hp, List.getD_eq_getElem?_getD, List.getElem?_set_ne (Ne.symm hp)]
      by_cases hpl : p < x.H.length
      · simp [hpl]
      · simp [List.getElem?_eq_none (Nat.le_of_not_lt hpl), frO]
  generalize hx : ({ x with I := fun b => x.I b ∨ blkOf (x.ν o) = some b, H := (x.H.map (frO o T e u)).set o .dead } : Env) = x'
  have xP : x'.P = x.P := by rw [← hx]
  have xI : ∀ b, x'.I b ↔ x.I b ∨ blkOf (x.ν o) = some b := fun b => by rw [← hx]
  have xν : x'.ν = x.ν := by rw [← hx]
  have xe : x'.e = x.e := by rw [← hx]
  have xw : x'.w = x.w := by rw [← hx]
  have xH : ∀ p, look x'.H p = if p = o then .dead else frO o T e u (look x.H p) := fun p => by rw [← hx]; exact hlook p
  have hfr : ∀ s : SObj, (frO o T e u s).live = s.live ∧ (frO o T e u s).loose = s.loose ∧ (frO o T e u s).born = s.born := by
    intro s; cases s <;> exact ⟨rfl, rfl, rfl⟩
  have hlive : ∀ p, (look x'.H p).live = true → p ≠ o ∧ (look x.H p).live = true := by
    intro p h
    rw [xH] at h
    split at h
    · cases h
    · rename_i hp; rw [(hfr _).1] at h; exact ⟨hp, h⟩
  have hext : Ext x x' := by
    refine ⟨xP, fun b hb => (xI b).2 (.inl hb), ⟨[], by simp [xe]⟩, fun b _ => by rw [xw], fun p hp => ?_, fun p T' l fz _ h => ?_, fun p T' e' u' _ h => ?_⟩
    · rw [xH]
      split
      · rfl
      · rw [(hfr _).2.2]; exact hp
    · rw [xH] at h
      split at h
      · cases h
      · rw [xν]
        cases hq : look x.H p with
        | cells T2 l2 fz2 => rw [hq] at h; simp only [frO, SObj.cells.injEq] at h; obtain ⟨rfl, _, _⟩ := h; exact ⟨⟨l2, fz2, rfl⟩, rfl⟩
        | row _ _ _ => rw [hq] at h; cases h
        | dead => rw [hq] at h; cases h
        | unborn => rw [hq] at h; cases h
    · rw [xH] at h
      split at h
      · cases h
      · rw [xν]
        cases hq : look x.H p with
        | cells T2 l2 fz2 => rw [hq] at h; cases h
        | row _ _ _ => rw [hq] at h; simp only [frO, SObj.row.injEq] at h; obtain ⟨rfl, rfl, rfl⟩ := h; exact ⟨_, _, rfl, Nat.le_refl _, fun _ => rfl⟩
        | dead => rw [hq] at h; cases h
        | unborn => rw [hq] at h; cases h
  have hrd : ∀ v, v = x.ν o → e.sc x.e.length = true ∧ Rd x.P (fun b => x.I b ∨ blkOf v = some b) x.w.heap (.sl T) v (e.den x.e) := by
    intro v hv
    refine borrow_ok (s := .own o u) hs (by simp [borrow, hl]) ⟨by rw [hl]; rfl, fun T' e' u' h => ?_⟩
    rw [hl] at h
    cases h
    exact ⟨Nat.le_refl _, fun _ => hv⟩
  have hG : ∀ s v, G x s v → G x' (frSV o T e u s) v := by
    intro s v h
    by_cases hown : ∃ v', s = .own o v'
    · obtain ⟨v', rfl⟩ := hown
      simp only [frSV, if_true]
      split
      · rename_i huv
        subst huv
        have hv := (h.2 T e _ hl).2 rfl
        obtain ⟨h1, h2⟩ := hrd v hv
        refine ⟨by rw [xe]; exact h1, ?_⟩
        rw [xP, xw, xe]
        refine h2.mono (fun b hb => ?_) fun _ _ => rfl
        rw [xI]
        rcases hb with hb | hb
        · exact .inl hb
        · exact .inr (by rw [← hv]; exact hb)
      · trivial
    · have : frSV o T e u s = s := by
        cases s with
        | own o' v' =>
          have : o' ≠ o := fun h => hown ⟨v', by rw [h]⟩
          simp [frSV, this]
        | _ => rfl
      rw [this]
      exact h.ext hext
  have hGL : ∀ l c, GL x l c → GL x' (l.map (frSV o T e u)) c := by
    intro l c h
    refine ⟨by rw [List.length_map]; exact h.1, fun j s hj => ?_⟩
    simp only [List.getElem?_map, Option.map_eq_some_iff] at hj
    obtain ⟨s', h1, rfl⟩ := hj
    exact hG s' _ (h.2 j s' h1)
  have hG1 : ∀ s v, G1 x s v → G1 x' (fr1 o T e u s) v := by
    intro s v h
    cases s with
    | one s => exact hG s v h
    | agg l => obtain ⟨c, h1, h2⟩ := h; exact ⟨c, h1, hGL l c h2⟩
  have hblk : ∀ p b, p ≠ o → (look x.H p).live = true → blkOf (x.ν p) = some b → blkOf (x.ν o) ≠ some b := fun p b hp h1 h2 => hs.apart p o b hp h1 (by rw [hl]; rfl) h2
  refine ⟨x', xw, xP, xe, xν, by rw [← hx], ?_, hext, fun b hb => ?_, fun p T' l fz h => ?_, fun s v h => ?_⟩
  · refine Sat.step hs hext (fun _ => True) (fun _ h => absurd trivial h) (fun _ _ h => absurd trivial h) (fun p _ => ?_) (fun p p' b _ hne h1 h2 h3 => ?_) (fun b hb => ?_) (fun p b _ h1 h2 => ?_) ⟨by rw [xw]; exact hs.frame.os, by rw [xw]; exact hs.frame.tape, by rw [xw]; exact hs.frame.output, by rw [xw]; exact hs.frame.size, by rw [xw]; exact hs.frame.block⟩
    · rw [xH]
      split
      · trivial
      · rename_i hp
        have hob := hs.objs p
        cases hq : look x.H p with
        | dead => trivial
        | unborn => trivial
        | cells T2 l2 fz2 =>
          rw [hq] at hob
          obtain ⟨b, c, k1, k2, k3, k4, k5⟩ := hob
          refine ⟨b, c, by rw [xν]; exact k1, by rw [xw]; exact k2, hGL l2 c k3, fun h => (xI b).2 (.inl (k4 h)), fun h hi => ?_⟩
          rcases (xI b).1 hi with hi | hi
          · exact k5 h hi
          · exact hblk p b hp (by rw [hq]; rfl) (by rw [k1]; rfl) hi
        | row T2 e2 u2 =>
          rw [hq] at hob
          obtain ⟨hsc, ts, n, xs, k1, k2, k3, k4, k5⟩ := hob
          refine ⟨by rw [xe]; exact hsc, ts, n, xs, by rw [xP]; exact k1, by rw [xν, xw]; exact k2, by rw [xe]; exact k3, ?_, fun b hb hi => ?_⟩
          · rw [xP, xw, xe]
            exact k4.mono (fun b hb => (xI b).2 (.inl hb)) fun _ _ => rfl
          · rw [xν] at hb
            rcases (xI b).1 hi with hi | hi
            · exact k5 b hb hi
            · exact hblk p b hp (by rw [hq]; rfl) (blkOf_own hb) hi
    · rw [xν] at h3 ⊢
      exact hs.apart p p' b hne (hlive p h1).2 (hlive p' h2).2 h3
    · rw [xw]
      rcases (xI b).1 hb with hb | hb
      · exact hs.ibound b hb
      · exact live_blk_lt hs (by rw [hl]; rfl) hb
    · rw [xν] at h2
      rw [xH] at h1
      split at h1
      · cases h1
      · rw [(hfr _).2.1] at h1
        exact hs.mine p b h1 h2
  · rcases (xI b).1 hb with hb | hb
    · exact .inl hb
    · rcases hs.mine o b (by rw [hl]; rfl) hb with h | h
      · exact .inr (.inr h)
      · exact .inr (.inl h)
  · rw [xH] at h
    split at h
    · cases h
    · cases hq : look x.H p with
      | cells T2 l2 fz2 => rw [hq] at h; simp only [frO, SObj.cells.injEq] at h; obtain ⟨rfl, _, rfl⟩ := h; exact ⟨l2, rfl⟩
      | row _ _ _ => rw [hq] at h; cases h
      | dead => rw [hq] at h; cases h
      | unborn => rw [hq] at h; cases h
  · cases s with
    | v s => exact hG1 s v h
    | tup l =>
      obtain ⟨c, h1, h2, h3⟩ := h
      refine ⟨c, h1, by rw [List.length_map]; exact h2, fun j s hj => ?_⟩
      simp only [List.getElem?_map, Option.map_eq_some_iff] at hj
      obtain ⟨s', h4, rfl⟩ := hj
      exact hG1 s' _ (h3 j s' h4)

end
end Glx
