/- What a function promises, and what a call of it does to the picture. -/
import Derived.Test.YtfelpmijieomaaaGreatDoorGlxFit
import Derived.Calls
namespace Glx
open Go

def nodup : List Nat → Bool
  | [] => true
  | a :: l => !l.contains a && nodup l

theorem nodup_spec : ∀ {l : List Nat}, nodup l = true → ∀ (i j : Nat) (a : Nat), l[i]? = some a → l[j]? = some a → i = j
  | [], _, _, _, _, h, _ => by simp at h
  | b :: l, h, i, j, a, hi, hj => by
    simp only [nodup, Bool.and_eq_true, Bool.not_eq_true', List.contains_eq_mem, decide_eq_false_iff_not] at h
    cases i with
    | zero =>
      cases j with
      | zero => rfl
      | succ j =>
        simp only [List.getElem?_cons_zero, Option.some.injEq, List.getElem?_cons_succ] at hi hj
        subst hi
        exact absurd (List.mem_of_getElem? hj) h.1
    | succ i =>
      cases j with
      | zero =>
        simp only [List.getElem?_cons_zero, Option.some.injEq, List.getElem?_cons_succ] at hi hj
        subst hj
        exact absurd (List.mem_of_getElem? hi) h.1
      | succ j =>
        simp only [List.getElem?_cons_succ] at hi hj
        rw [nodup_spec h.2 i j a hi hj]

/-- the sources of the wanted live blocks, by number -/
def srcs (σ : Src) (H' : List SObj) : List Nat := (List.range H'.length).filterMap fun k => if (look H' k).live then (src σ k).join else none

theorem mem_srcs {σ : Src} {H' : List SObj} {k o : Nat} (hl : (look H' k).live = true) (h : src σ k = some (some o)) : o ∈ srcs σ H' := by
  have hk : k < H'.length := by
    rcases Nat.lt_or_ge k H'.length with h1 | h1
    · exact h1
    · simp [look, List.getD_eq_getElem?_getD, List.getElem?_eq_none h1, SObj.live] at hl
  exact List.mem_filterMap.2 ⟨k, List.mem_range.2 hk, by simp [hl, h]⟩

theorem srcs_inj : ∀ {σ : Src} {H' : List SObj}, nodup (srcs σ H') = true → ∀ (k k' o : Nat), (look H' k).live = true → (look H' k').live = true → src σ k = some (some o) → src σ k' = some (some o) → k = k' := by
  intro σ H' h k k' o h1 h2 h3 h4
  have lt : ∀ k, (look H' k).live = true → k < H'.length := by
    intro k hl
    rcases Nat.lt_or_ge k H'.length with h1 | h1
    · exact h1
    · simp [look, List.getD_eq_getElem?_getD, List.getElem?_eq_none h1, SObj.live] at hl
  -- a list of distinct numbers: a filtered range bears no number at two places
  have key : ∀ (l : List Nat), l.Nodup → nodup (l.filterMap fun k => if (look H' k).live then (src σ k).join else none) = true → k ∈ l → k' ∈ l → k = k' := by
    intro l
    induction l with
    | nil => intro _ _ h; cases h
    | cons a l ih =>
      intro hd hn hk hk'
      rw [List.nodup_cons] at hd
      have tail : nodup (l.filterMap fun k => if (look H' k).live then (src σ k).join else none) = true := by
        rw [List.filterMap_cons] at hn
        split at hn
        · exact hn
        · simp only [nodup, Bool.and_eq_true] at hn; exact hn.2
      have head : ∀ q, (look H' q).live = true → src σ q = some (some o) → a = k ∨ a = k' → q ∈ l → (look H' a).live = true → src σ a = some (some o) → False := by
        intro q hq1 hq2 _ hql ha1 ha2
        rw [List.filterMap_cons] at hn
        simp only [ha1, if_true, ha2, Option.join_some, nodup, Bool.and_eq_true, Bool.not_eq_true', List.contains_eq_mem, decide_eq_false_iff_not] at hn
        exact hn.1 (List.mem_filterMap.2 ⟨q, hql, by simp [hq1, hq2]⟩)
      rcases List.mem_cons.1 hk with e1 | hk2
      · rcases List.mem_cons.1 hk' with e2 | hk3
        · exact e1.trans e2.symm
        · exact (head k' h2 h4 (.inl e1.symm) hk3 (e1 ▸ h1) (e1 ▸ h3)).elim
      · rcases List.mem_cons.1 hk' with e2 | hk3
        · exact (head k h1 h3 (.inr e2.symm) hk2 (e2 ▸ h2) (e2 ▸ h4)).elim
        · exact ih hd.2 tail hk2 hk3
  exact key (List.range H'.length) List.nodup_range h (List.mem_range.2 (lt k h1)) (List.mem_range.2 (lt k' h2))

def fitAll (P : Program) (nb : Nat) (us : List Ex) (σ : Src) (H' H : List SObj) : Bool :=
  nodup (srcs σ H') && (List.range H'.length).all fun k => fitObj P nb us σ H' H k (look H' k)

def Mof (x : Env) (b : Nat) : Prop := ∃ o, (look x.H o).loose = true ∧ blkOf (x.ν o) = some b

section
variable {x : Env} {nb : Nat} {us : List Ex} {σ : Src} {H' : List SObj} {bor : Nat → Prop} {w0 : World} {M : Nat → Prop}

theorem look_lt {H : List SObj} {k : Nat} (h : (look H k).born = true) : k < H.length := by
  rcases Nat.lt_or_ge k H.length with h1 | h1
  · exact h1
  · simp [look, List.getD_eq_getElem?_getD, List.getElem?_eq_none h1, SObj.born] at h

theorem fitObj_src {k : Nat} {s : SObj} (h : fitObj x.P nb us σ H' x.H k s = true) (hl : s.live = true) : src σ k = some none ∨ ∃ o, src σ k = some (some o) ∧ (look x.H o).live = true ∧ (s.loose = true → (look x.H o).loose = true) := by
  cases s with
  | dead => cases hl
  | unborn => cases hl
  | cells T l fz =>
    simp only [fitObj] at h
    split at h
    · rename_i o hsrc
      split at h
      · rename_i T' l' fz' hlk
        simp only [Bool.and_eq_true, beq_iff_eq] at h
        obtain ⟨⟨rfl, rfl⟩, h⟩ := h
        exact .inr ⟨o, hsrc, by rw [hlk]; rfl, fun h => by rw [hlk]; exact h⟩
      · cases h
    · cases h
  | row T t u =>
    simp only [fitObj] at h
    split at h
    · rename_i o hsrc
      split at h
      · rename_i T' e u' hlk
        exact .inr ⟨o, hsrc, by rw [hlk]; rfl, fun _ => by rw [hlk]; rfl⟩
      · cases h
    · rename_i hsrc; exact .inl hsrc
    · cases h

/-- another picture of the same memory -/
theorem fit_sat (hs : Sat x w0 M) (h : fitAll x.P nb us σ H' x.H = true) (hn : nb ≤ x.e.length) (hborlt : ∀ b, bor b → b < x.w.heap.size)
    (hbor : ∀ k o b, (look H' k).live = true → src σ k = some (some o) → blkOf (x.ν o) = some b → (look x.H o).loose = true → ¬ bor b) {w1 : World} {M1 : Nat → Prop} (hf : Fr w1 M1 x.w)
    (hm : ∀ k b, (look H' k).loose = true → blkOf (nuOf x σ k) = some b → M1 b ∨ w1.heap.size ≤ b) : Sat (x.fit nb us σ H' bor) w1 M1 := by
  simp only [fitAll, Bool.and_eq_true, List.all_eq_true, List.mem_range] at h
  obtain ⟨hinj, hall⟩ := h
  have hob : ∀ k, fitObj x.P nb us σ H' x.H k (look H' k) = true := by
    intro k
    rcases Nat.lt_or_ge k H'.length with h1 | h1
    · exact hall k h1
    · simp [look, List.getD_eq_getElem?_getD, List.getElem?_eq_none h1, fitObj]
  refine ⟨fun k => ?_, fun k k' b hne h1 h2 h3 => ?_, fun b hb => ?_, fun k b h1 h2 => hm k b h1 h2, hf, hs.glob.mono (fun _ => .inl) fun _ _ => rfl⟩
  · show ObjOk _ k (look H' k)
    by_cases hl : (look H' k).live = true
    · exact fitObj_ok hs (hob k) hn fun o b h1 h2 h3 => hbor k o b hl h1 h2 h3
    · cases hk : look H' k <;> rw [hk] at hl <;> first | trivial | exact absurd rfl hl
  · have h1' : (look H' k).live = true := h1
    have h2' : (look H' k').live = true := h2
    simp only [Env.fit] at h3 ⊢
    rcases fitObj_src (hob k) h1' with a1 | ⟨o, a1, a2, _⟩
    · rw [nuOf_none a1] at h3; cases h3
    · rcases fitObj_src (hob k') h2' with b1 | ⟨o', b1, b2, _⟩
      · rw [nuOf_none b1]; intro h; cases h
      · rw [nuOf_some a1] at h3
        rw [nuOf_some b1]
        refine hs.apart o o' b (fun e => hne ?_) a2 b2 h3
        subst e
        exact srcs_inj hinj k k' o h1' h2' a1 b1
  · rcases hb with hb | hb
    · exact hs.ibound b hb
    · exact hborlt b hb

end

/-! ### What a function promises -/
structure Sig where
  inS : List Slot
  inH : List SObj
  inN : Nat
  outS : Slot
  outH : List SObj
  outN : Nat

/-- what is left behind -/
structure Left (s : Sig) (x y : Env) : Prop where
  P : y.P = x.P
  H : y.H = s.outH
  sat : Sat y x.w (Mof x)
  I : ∀ b, x.I b → y.I b
  back : ∀ b, y.I b → x.I b ∨ x.w.heap.size ≤ b ∨ Mof x b
  same : ∀ o T l fz, look s.outH o = .cells T l fz → o < s.inH.length → y.ν o = x.ν o

def Impl (P : Program) (K : FuncId) (s : Sig) (f : List D → Option (List D)) : Prop :=
  ∀ (x : Env) (args : Array Value), x.P = P → x.H = s.inH → x.e.length = s.inN → Sat x x.w (Mof x) → args.size = s.inS.length → (∀ i t, s.inS[i]? = some t → GS x t (args.getD i undef)) →
    ∀ r, f x.e = some r → r.length = s.outN ∧ Calls P K args x.w fun e w' => ∃ v y, e = .returned v ∧ y.w = w' ∧ y.e = r ∧ Left s x y ∧ GS y s.outS v

end Glx
