/- One block is made, or turned: the picture behind it. -/
import Derived.Test.YtfelpmijieomaaaGreatDoorGlxSymC
namespace Glx
open Go

def put (H : List SObj) (o : Nat) (s : SObj) : List SObj := if o < H.length then H.set o s else H ++ List.replicate (o - H.length) .unborn ++ [s]

theorem look_put (H : List SObj) (o p : Nat) (s : SObj) : look (put H o s) p = if p = o then s else look H p := by
  unfold look put
  by_cases ho : o < H.length
  · rw [if_pos ho]
    by_cases hp : p = o
    · subst hp; simp [ho]
    · simp [hp, List.getElem?_set_ne (Ne.symm hp)]
  · rw [if_neg ho]
    by_cases hp : p = o
    · subst hp
      rw [if_pos rfl]
      have : (H ++ List.replicate (p - H.length) SObj.unborn ++ [s])[p]? = some s := by
        rw [List.getElem?_append_right (by simp; omega)]
        simp
        rw [show p - (H.length + (p - H.length)) = 0 by omega]
        rfl
      rw [List.getD_eq_getElem?_getD, this]; rfl
    · rw [if_neg hp]
      simp only [List.getD_eq_getElem?_getD]
      by_cases h1 : p < H.length
      · rw [List.append_assoc, List.getElem?_append_left h1]
      · have h2 : H[p]? = none := List.getElem?_eq_none (by omega)
        rw [h2]
        by_cases h3 : p < o
        · rw [List.append_assoc, List.getElem?_append_right (by omega), List.getElem?_append_left (by simp; omega)]
          simp [show p - H.length < o - H.length by omega]
        · rw [List.getElem?_eq_none (by simp; omega)]

def Env.set (x : Env) (o : Nat) (pv : Value) (ob : SObj) (w' : World) : Env := { x with ν := fun p => if p = o then pv else x.ν p, H := put x.H o ob, w := w' }

section
variable {x : Env} {w0 : World} {M : Nat → Prop} {o : Nat} {pv : Value} {ob : SObj} {w' : World}

theorem loose_not_I (hs : Sat x w0 M) {o b : Nat} (hl : (look x.H o).loose = true) (hb : blkOf (x.ν o) = some b) : ¬ x.I b := by
  have ho := hs.objs o
  cases hk : look x.H o with
  | unborn => rw [hk] at hl; cases hl
  | dead => rw [hk] at hl; cases hl
  | cells T l fz =>
    rw [hk] at ho hl
    obtain ⟨b', c, h1, h2, h3, h4, h5⟩ := ho
    rw [h1] at hb
    cases hb
    exact h5 (by simpa [SObj.loose] using hl)
  | row T e u =>
    rw [hk] at ho
    obtain ⟨_, ts, n, xs, h1, h2, h3, h4, h5⟩ := ho
    refine h5 b ?_
    rcases h2.2 with ⟨h6, _⟩ | ⟨g, cap, cur, h6, _⟩
    · rw [h6] at hb; cases hb
    · rw [h6] at hb ⊢; exact hb

theorem step_ext (hs : Sat x w0 M) (hold : look x.H o = .unborn ∨ (look x.H o).loose = true)
    (hc : ∀ T l fz, ob = .cells T l fz → look x.H o ≠ .unborn → (∃ l' fz', look x.H o = .cells T l' fz') ∧ pv = x.ν o)
    (hr : ∀ T e u, ob = .row T e u → look x.H o ≠ .unborn → ∃ e' u', look x.H o = .row T e' u' ∧ u' ≤ u ∧ (u = u' → pv = x.ν o))
    (hborn : ob.born = true)
    (hblk : ∀ b, b < x.w.heap.size → ((look x.H o).loose = true → blkOf (x.ν o) ≠ some b) → w'.heap[b]? = x.w.heap[b]?) : Ext x (x.set o pv ob w') := by
  refine ⟨rfl, fun _ h => h, ⟨[], by simp [Env.set]⟩, fun b hb => ?_, fun p hp => ?_, fun p T l fz hp hl => ?_, fun p T e u hp hl => ?_⟩
  · refine hblk b (hs.ibound b hb) fun hl hbl => ?_
    exact loose_not_I hs hl hbl hb
  · simp only [Env.set, look_put]
    split
    · exact hborn
    · exact hp
  · simp only [Env.set, look_put] at hl ⊢
    by_cases hpo : p = o
    · subst hpo
      simp only [if_true] at hl ⊢
      exact hc T l fz hl (by intro h; rw [h] at hp; cases hp)
    · simp only [if_neg hpo] at hl ⊢
      exact ⟨⟨l, fz, hl⟩, trivial⟩
  · simp only [Env.set, look_put] at hl ⊢
    by_cases hpo : p = o
    · subst hpo
      simp only [if_true] at hl ⊢
      exact hr T e u hl (by intro h; rw [h] at hp; cases hp)
    · simp only [if_neg hpo] at hl ⊢
      exact ⟨e, u, hl, Nat.le_refl _, fun _ => trivial⟩

theorem live_blk_lt (hs : Sat x w0 M) {o b : Nat} (hl : (look x.H o).live = true) (hb : blkOf (x.ν o) = some b) : b < x.w.heap.size := by
  have ho := hs.objs o
  cases hk : look x.H o with
  | unborn => rw [hk] at hl; cases hl
  | dead => rw [hk] at hl; cases hl
  | cells T l fz =>
    rw [hk] at ho
    obtain ⟨b', c, h1, h2, _⟩ := ho
    rw [h1] at hb
    cases hb
    exact (Array.getElem?_eq_some_iff.1 h2).1
  | row T e u =>
    rw [hk] at ho
    obtain ⟨_, ts, n, xs, h1, h2, _⟩ := ho
    rcases h2.2 with ⟨h6, _⟩ | ⟨g, cap, cur, h6, _, h7, _⟩
    · rw [h6] at hb; cases hb
    · rw [h6] at hb; cases hb; exact (Array.getElem?_eq_some_iff.1 h7).1

theorem step_sat (hs : Sat x w0 M) (he : Ext x (x.set o pv ob w')) (hold : look x.H o = .unborn ∨ (look x.H o).loose = true)
    (hg : w'.os = x.w.os ∧ w'.tape = x.w.tape ∧ w'.output = x.w.output ∧ x.w.heap.size ≤ w'.heap.size)
    (hblk : ∀ b, b < x.w.heap.size → ((look x.H o).loose = true → blkOf (x.ν o) ≠ some b) → w'.heap[b]? = x.w.heap[b]?)
    (hpv : ∀ b, ob.live = true → blkOf pv = some b → ((look x.H o).loose = true ∧ blkOf (x.ν o) = some b) ∨ x.w.heap.size ≤ b)
    (hob : ObjOk (x.set o pv ob w') o ob) : Sat (x.set o pv ob w') w0 M := by
  have hnu : ∀ p, p ≠ o → (x.set o pv ob w').ν p = x.ν p := fun p hp => by simp [Env.set, hp]
  have hno : (x.set o pv ob w').ν o = pv := by simp [Env.set]
  have hlk : ∀ p, p ≠ o → look (x.set o pv ob w').H p = look x.H p := fun p hp => by simp [Env.set, look_put, hp]
  have hlo : look (x.set o pv ob w').H o = ob := by simp [Env.set, look_put]
  -- another block of the walk's own is not the one that is turned
  have hother : ∀ p b, p ≠ o → (look x.H p).live = true → blkOf (x.ν p) = some b → b < x.w.heap.size ∧ ((look x.H o).loose = true → blkOf (x.ν o) ≠ some b) := by
    intro p b hp hl hb
    refine ⟨live_blk_lt hs hl hb, fun hlo' => ?_⟩
    have hlive : (look x.H o).live = true := by
      cases hk : look x.H o <;> rw [hk] at hlo' <;> first | rfl | cases hlo'
    exact hs.apart p o b hp hl hlive hb
  refine Sat.step hs he (fun p => p = o) (fun p hp => ⟨hlk p hp, hnu p hp⟩) (fun p b hp hl hb => ?_) (fun p hp => ?_) (fun p p' b hp hne h1 h2 h3 => ?_) (fun b hb => ?_) (fun p b hp h1 h2 => ?_) ?_
  · obtain ⟨h1, h2⟩ := hother p b hp hl hb
    exact ⟨hblk b h1 h2, Iff.rfl⟩
  · subst hp; rw [hlo]; exact hob
  · subst hp
    rw [hlo] at h1
    rw [hno] at h3
    rw [hlk p' (Ne.symm hne)] at h2
    rw [hnu p' (Ne.symm hne)]
    intro h4
    obtain ⟨h5, h6⟩ := hother p' b (Ne.symm hne) h2 h4
    rcases hpv b h1 h3 with ⟨h7, h8⟩ | h7
    · exact h6 h7 h8
    · omega
  · exact Nat.lt_of_lt_of_le (hs.ibound b hb) hg.2.2.2
  · subst hp
    rw [hlo] at h1
    rw [hno] at h2
    have hlive : ob.live = true := by cases ob <;> first | rfl | cases h1
    rcases hpv b hlive h2 with ⟨h7, h8⟩ | h7
    · exact hs.mine p b h7 h8
    · exact .inr (Nat.le_trans hs.frame.size h7)
  · refine ⟨hg.1.trans hs.frame.os, hg.2.1.trans hs.frame.tape, hg.2.2.1.trans hs.frame.output, Nat.le_trans hs.frame.size hg.2.2.2, fun b hb hm => ?_⟩
    have : w'.heap[b]? = x.w.heap[b]? := hblk b (Nat.lt_of_lt_of_le hb hs.frame.size) fun hl hbl => by
      rcases hs.mine o b hl hbl with h | h
      · exact hm h
      · omega
    exact this.trans (hs.frame.block b hb hm)

/-- cells that a block may bear -/
theorem solid_ok (hs : Sat x w0 M) {s : SV} (h : solid x.H s = true) {v : Value} (hg : G x s v) : v.oneCell' = true ∧ v.cells = #[v] := by
  cases s with
  | int k e => obtain ⟨_, rfl⟩ := hg; exact ⟨rfl, rfl⟩
  | bool e => obtain ⟨_, rfl⟩ := hg; exact ⟨rfl, rfl⟩
  | str e => obtain ⟨_, rfl⟩ := hg; exact ⟨rfl, rfl⟩
  | sl T e => cases hg.2 <;> exact ⟨rfl, rfl⟩
  | nils => cases hg; exact ⟨rfl, rfl⟩
  | nilp => cases hg; exact ⟨rfl, rfl⟩
  | nilf => cases hg; exact ⟨rfl, rfl⟩
  | ifc e =>
    cases hb : (e.den x.e).bool with
    | true => rw [hg.2.1 hb]; exact ⟨rfl, rfl⟩
    | false => obtain ⟨t, u, hv⟩ := hg.2.2 hb; rw [hv]; exact ⟨rfl, rfl⟩
  | ptr o off =>
    simp only [solid] at h
    split at h
    · rename_i T l fz hl
      obtain ⟨b, _, rfl⟩ := hg.2 T l fz hl
      exact ⟨rfl, rfl⟩
    · cases h
  | own o ver =>
    simp only [solid] at h
    split at h
    · rename_i T e u hl
      have hv := (hg.2 T e u hl).2 (by simpa using h)
      have ho := hs.objs o
      rw [hl] at ho
      obtain ⟨_, ts, n, xs, h1, h2, _⟩ := ho
      rw [hv]
      rcases h2.2 with ⟨h6, _⟩ | ⟨g, cap, cur, h6, _⟩ <;> rw [h6] <;> exact ⟨rfl, rfl⟩
    · cases h
  | oel o ver i off =>
    simp only [solid] at h
    split at h
    · rename_i T e u hl
      obtain ⟨ts, b, n, cap, _, _, _, _, rfl⟩ := (hg.2.2 T e u hl).2 (by simpa using h)
      exact ⟨rfl, rfl⟩
    · cases h
  | pel T l i off => obtain ⟨_, _, ts, b, o, n, cap, _, _, _, _, rfl⟩ := hg; exact ⟨rfl, rfl⟩
  | fn f a c => obtain ⟨_, _, rfl, _⟩ := hg; exact ⟨rfl, rfl⟩
  | top => cases h

theorem cells_ok (hs : Sat x w0 M) {s : S1} (h : s.cells.all (solid x.H) = true) {v : Value} (hg : G1 x s v) : GL x s.cells v.cells ∧ ∀ u ∈ v.cells.toList, u.oneCell' = true := by
  cases s with
  | one s =>
    simp only [S1.cells, List.all_cons, List.all_nil, Bool.and_true] at h
    obtain ⟨h1, h2⟩ := solid_ok hs h hg
    rw [h2]
    refine ⟨⟨rfl, fun j t hj => ?_⟩, by simpa using h1⟩
    cases j with
    | zero => simp only [S1.cells, List.getElem?_cons_zero, Option.some.injEq] at hj; subst hj; exact hg
    | succ j => simp [S1.cells] at hj
  | agg l =>
    obtain ⟨c, rfl, hl⟩ := hg
    refine ⟨hl, fun u hu => ?_⟩
    simp only [Value.cells] at hu
    obtain ⟨j, hj, rfl⟩ := List.getElem_of_mem hu
    have hj' : j < l.length := by rw [← hl.1]; simpa using hj
    have hg := hl.2 j _ (List.getElem?_eq_getElem hj')
    have hsol : solid x.H l[j] = true := by
      simp only [S1.cells, List.all_eq_true] at h
      exact h _ (List.getElem_mem hj')
    have := (solid_ok hs hsol hg).1
    simpa [show j < c.size by simpa using hj] using this

end
end Glx
