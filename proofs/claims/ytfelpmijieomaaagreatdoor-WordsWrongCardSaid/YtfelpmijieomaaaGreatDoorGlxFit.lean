/- One picture fits another: its variables are named anew, its blocks are those that are wanted, the rest is forgotten. -/
import Derived.Test.YtfelpmijieomaaaGreatDoorGlxOpP
namespace Glx
open Go

/-- where a wanted block comes from: a block of the walk's own, or nil (a slice) -/
abbrev Src := List (Option (Option Nat))

def src (σ : Src) (k : Nat) : Option (Option Nat) := (σ[k]?).join

def fitE (nb : Nat) (us : List Ex) (t e : Ex) : Bool :=
  (match t with
    | .var i => decide (nb ≤ i) && (us[i - nb]? == some e)
    | _ => false) || (t == e && e.sc nb)

def curVer (H : List SObj) (o ver : Nat) : Bool := match look H o with | .row _ _ u => u == ver | _ => false

def isCells : SObj → Bool | .cells .. => true | _ => false

def fitP (σ : Src) (H' H : List SObj) : List (Nat × Nat) → List (Nat × Nat) → Bool
  | [], [] => true
  | p :: t, q :: s => isCells (look H' p.1) && isCells (look H q.1) && p.2 == q.2 && src σ p.1 == some (some q.1) && fitP σ H' H t s
  | _, _ => false

def fitSV (nb : Nat) (us : List Ex) (σ : Src) (H' H : List SObj) (t s : SV) : Bool :=
  match t, s with
  | .top, _ => true
  | .int k t, .int k' e => k == k' && fitE nb us t e
  | .bool t, .bool e => fitE nb us t e
  | .str t, .str e => fitE nb us t e
  | .sl T t, .sl T' e => T == T' && fitE nb us t e
  | .sl _ t, .nils => fitE nb us t .nil
  | .nils, .nils => true
  | .nilp, .nilp => true
  | .nilf, .nilf => true
  | .ifc t, .ifc e => fitE nb us t e
  | .ptr o' off', .ptr o off => off' == off && src σ o' == some (some o) && isCells (look H' o') && isCells (look H o)
  | .own o' u', .own o u => src σ o' == some (some o) && curVer H' o' u' && curVer H o u
  | .own o' u', .nils => src σ o' == some none && curVer H' o' u'
  | .fn f a c, .fn f' a' c' => f == f' && fitP σ H' H a a' && fitP σ H' H c c'
  | .pel T l i off, .pel T' l' i' off' => T == T' && off == off' && fitE nb us l l' && fitE nb us i i'
  | _, _ => false

def fitL (nb : Nat) (us : List Ex) (σ : Src) (H' H : List SObj) : List SV → List SV → Bool
  | [], [] => true
  | t :: ts, s :: ss => fitSV nb us σ H' H t s && fitL nb us σ H' H ts ss
  | _, _ => false

def fit1 (nb : Nat) (us : List Ex) (σ : Src) (H' H : List SObj) : S1 → S1 → Bool
  | .one .top, _ => true
  | .one t, .one s => fitSV nb us σ H' H t s
  | .agg t, .agg s => fitL nb us σ H' H t s
  | _, _ => false

def fit1s (nb : Nat) (us : List Ex) (σ : Src) (H' H : List SObj) : List S1 → List S1 → Bool
  | [], [] => true
  | t :: ts, s :: ss => fit1 nb us σ H' H t s && fit1s nb us σ H' H ts ss
  | _, _ => false

def fitS (nb : Nat) (us : List Ex) (σ : Src) (H' H : List SObj) : Slot → Slot → Bool
  | .v (.one .top), _ => true
  | .v t, .v s => fit1 nb us σ H' H t s
  | .tup t, .tup s => fit1s nb us σ H' H t s
  | _, _ => false

def fitObj (P : Program) (nb : Nat) (us : List Ex) (σ : Src) (H' H : List SObj) (k : Nat) : SObj → Bool
  | .dead | .unborn => true
  | .cells T l fz => match src σ k with
    | some (some o) => match look H o with
      | .cells T' l' fz' => T == T' && fz == fz' && fitL nb us σ H' H l l'
      | _ => false
    | _ => false
  | .row T t _ => match src σ k with
    | some (some o) => match look H o with
      | .row T' e _ => T == T' && fitE nb us t e
      | _ => false
    | some none => (tys P T).isSome && fitE nb us t .nil
    | none => false

def nuOf (x : Env) (σ : Src) (k : Nat) : Value := match src σ k with
  | some (some o) => x.ν o
  | _ => .slice none 0 0

def Env.fit (x : Env) (nb : Nat) (us : List Ex) (σ : Src) (H' : List SObj) (bor : Nat → Prop) : Env :=
  { x with I := fun b => x.I b ∨ bor b, ν := nuOf x σ, H := H', e := x.e.take nb ++ dens x.e us }

section
variable {x : Env} {nb : Nat} {us : List Ex} {σ : Src} {H' : List SObj} {bor : Nat → Prop}

theorem fitE_ok {t e : Ex} (h : fitE nb us t e = true) (hn : nb ≤ x.e.length) : t.sc (x.e.take nb ++ dens x.e us).length = true ∧ t.den (x.e.take nb ++ dens x.e us) = e.den x.e := by
  unfold fitE at h
  rw [Bool.or_eq_true] at h
  rcases h with h | h
  · split at h
    · rename_i i
      simp only [Bool.and_eq_true, decide_eq_true_eq, beq_iff_eq] at h
      obtain ⟨h1, h2⟩ := h
      have hi : i - nb < us.length := (List.getElem?_eq_some_iff.1 h2).1
      have hl : (x.e.take nb).length = nb := by simp; omega
      refine ⟨by simp [Ex.sc, dens]; omega, ?_⟩
      simp only [Ex.den, List.getD_eq_getElem?_getD]
      rw [List.getElem?_append_right (by omega), hl]
      simp [dens, h2]
    · cases h
  · simp only [Bool.and_eq_true, beq_iff_eq] at h
    obtain ⟨rfl, hs⟩ := h
    have hl : (x.e.take nb).length = nb := by simp; omega
    refine ⟨Ex.sc_mono (by simp; omega) _ hs, ?_⟩
    rw [Ex.den_ext _ _ t (by rw [hl]; exact hs)]
    have := Ex.den_ext (x.e.take nb) (x.e.drop nb) t (by rw [hl]; exact hs)
    rw [List.take_append_drop] at this
    exact this.symm

theorem isCells_spec {s : SObj} (h : isCells s = true) : ∃ T l fz, s = .cells T l fz := by
  cases s <;> first | exact ⟨_, _, _, rfl⟩ | cases h

theorem nuOf_some {k o : Nat} (h : src σ k = some (some o)) : nuOf x σ k = x.ν o := by simp [nuOf, h]
theorem nuOf_none {k : Nat} (h : src σ k = some none) : nuOf x σ k = .slice none 0 0 := by simp [nuOf, h]

theorem ptrTo_fit {o' o off : Nat} (h1 : src σ o' = some (some o)) (h2 : isCells (look H' o') = true) (h3 : isCells (look x.H o) = true) {v : Value} (hg : ptrTo x (o, off) v) : ptrTo (x.fit nb us σ H' bor) (o', off) v := by
  obtain ⟨T, l, fz, hl⟩ := isCells_spec h3
  obtain ⟨T', l', fz', hl'⟩ := isCells_spec h2
  obtain ⟨b, hb, hv⟩ := hg.2 T l fz hl
  refine ⟨by simp [Env.fit, hl', SObj.born], fun _ _ _ _ => ⟨b, ?_, hv⟩⟩
  simp only [Env.fit, nuOf_some h1]
  exact hb

theorem fitP_ok : ∀ {t s : List (Nat × Nat)} {c : List Value}, fitP σ H' x.H t s = true → ptrsTo x s c.toArray → ptrsTo (x.fit nb us σ H' bor) t c.toArray
  | [], [], c, _, hg => ⟨hg.1, fun j p hj => by simp at hj⟩
  | p :: t, q :: s, c, h, hg => by
    simp only [fitP, Bool.and_eq_true, beq_iff_eq] at h
    obtain ⟨⟨⟨⟨h1, h2⟩, h3⟩, h4⟩, h5⟩ := h
    cases c with
    | nil => have := hg.1; simp at this
    | cons v c =>
      have ih := fitP_ok h5 (c := c) ⟨by have := hg.1; simpa using this, fun j r hj => by simpa using hg.2 (j + 1) r (by simpa using hj)⟩
      refine ⟨by have := ih.1; simpa using this, fun j r hj => ?_⟩
      cases j with
      | zero =>
        simp only [List.getElem?_cons_zero, Option.some.injEq] at hj
        subst hj
        have hq := hg.2 0 q rfl
        have : ptrTo (x.fit nb us σ H' bor) (p.1, q.2) v := ptrTo_fit h4 h1 h2 (by simpa using hq)
        rw [← h3] at this
        simpa using this
      | succ j => simpa using ih.2 j r (by simpa using hj)
  | [], _ :: _, _, h, _ => by simp [fitP] at h
  | _ :: _, [], _, h, _ => by simp [fitP] at h

theorem fitSV_ok {t s : SV} (h : fitSV nb us σ H' x.H t s = true) (hn : nb ≤ x.e.length) {v : Value} (hg : G x s v) : G (x.fit nb us σ H' bor) t v := by
  unfold fitSV at h
  split at h
  · trivial
  · simp only [Bool.and_eq_true, beq_iff_eq] at h
    obtain ⟨rfl, h⟩ := h
    obtain ⟨h1, h2⟩ := fitE_ok h hn
    exact ⟨h1, by show v = .int _ (Ex.den _ _).int; simp only [Env.fit]; rw [h2]; exact hg.2⟩
  · obtain ⟨h1, h2⟩ := fitE_ok h hn
    exact ⟨h1, by show v = .bool (Ex.den _ _).bool; simp only [Env.fit]; rw [h2]; exact hg.2⟩
  · obtain ⟨h1, h2⟩ := fitE_ok h hn
    exact ⟨h1, by show v = .string (Ex.den _ _).str; simp only [Env.fit]; rw [h2]; exact hg.2⟩
  · simp only [Bool.and_eq_true, beq_iff_eq] at h
    obtain ⟨rfl, h⟩ := h
    obtain ⟨h1, h2⟩ := fitE_ok h hn
    refine ⟨h1, ?_⟩
    simp only [Env.fit]
    rw [h2]
    exact hg.2.mono (fun _ => .inl) fun _ _ => rfl
  · obtain ⟨h1, h2⟩ := fitE_ok h hn
    obtain rfl := hg
    refine ⟨h1, ?_⟩
    simp only [Env.fit]
    rw [h2]
    exact .nil rfl
  · exact hg
  · exact hg
  · exact hg
  · obtain ⟨h1, h2⟩ := fitE_ok h hn
    exact ⟨h1, by simp only [Env.fit]; rw [h2]; exact hg.2⟩
  · simp only [Bool.and_eq_true, beq_iff_eq] at h
    obtain ⟨⟨⟨rfl, h1⟩, h2⟩, h3⟩ := h
    exact ptrTo_fit h1 h2 h3 hg
  · rename_i o' u' o u
    simp only [Bool.and_eq_true, beq_iff_eq] at h
    obtain ⟨⟨h1, h2⟩, h3⟩ := h
    unfold curVer at h2 h3
    split at h2
    · rename_i T' e' w' hl'
      split at h3
      · rename_i T e w hl
        have hv := (hg.2 T e w hl).2 (by simpa using h3)
        refine ⟨by simp [Env.fit, hl', SObj.born], fun T2 e2 u2 hl2 => ?_⟩
        simp only [Env.fit] at hl2
        rw [hl'] at hl2
        cases hl2
        have h2 : w' = u' := by simpa using h2
        exact ⟨by omega, fun _ => by simp only [Env.fit, nuOf_some h1]; exact hv⟩
      · cases h3
    · cases h2
  · rename_i o' u'
    simp only [Bool.and_eq_true, beq_iff_eq] at h
    obtain ⟨h1, h2⟩ := h
    unfold curVer at h2
    split at h2
    · rename_i T' e' w' hl'
      refine ⟨by simp [Env.fit, hl', SObj.born], fun T2 e2 u2 hl2 => ?_⟩
      simp only [Env.fit] at hl2
      rw [hl'] at hl2
      cases hl2
      have h2 : w' = u' := by simpa using h2
      exact ⟨by omega, fun _ => by simp only [Env.fit, nuOf_none h1]; exact hg⟩
    · cases h2
  · simp only [Bool.and_eq_true, beq_iff_eq] at h
    obtain ⟨⟨rfl, h1⟩, h2⟩ := h
    obtain ⟨a, c, hv, g1, g2⟩ := hg
    exact ⟨a, c, hv, by simpa using fitP_ok (c := a.toList) h1 (by simpa using g1), by simpa using fitP_ok (c := c.toList) h2 (by simpa using g2)⟩
  · simp only [Bool.and_eq_true, beq_iff_eq] at h
    obtain ⟨⟨⟨rfl, rfl⟩, h1⟩, h2⟩ := h
    obtain ⟨a1, a2⟩ := fitE_ok h1 hn
    obtain ⟨b1, b2⟩ := fitE_ok h2 hn
    obtain ⟨_, _, ts, b, o, n, cap, q1, q2, q3, q4, q5⟩ := hg
    refine ⟨a1, b1, ts, b, o, n, cap, q1, ?_, ?_⟩
    · simp only [Env.fit]; rw [a2]; exact q2.mono (fun _ => .inl) fun _ _ => rfl
    · simp only [Env.fit]; rw [b2]; exact ⟨q3, q4, q5⟩
  · cases h

theorem fitL_ok : ∀ {t s : List SV} {c : List Value}, fitL nb us σ H' x.H t s = true → nb ≤ x.e.length → GL x s c.toArray → GL (x.fit nb us σ H' bor) t c.toArray
  | [], [], c, _, _, hg => ⟨hg.1, fun j p hj => by simp at hj⟩
  | p :: t, q :: s, c, h, hn, hg => by
    simp only [fitL, Bool.and_eq_true] at h
    obtain ⟨v, c', rfl, g1, g2⟩ := hg.cons
    have ih := fitL_ok h.2 hn g2
    have hv := fitSV_ok (bor := bor) h.1 hn g1
    refine ⟨by have := ih.1; simpa using this, fun j r hj => ?_⟩
    cases j with
    | zero => simp only [List.getElem?_cons_zero, Option.some.injEq] at hj; subst hj; simpa using hv
    | succ j => simpa using ih.2 j r (by simpa using hj)
  | [], _ :: _, _, h, _, _ => by simp [fitL] at h
  | _ :: _, [], _, h, _, _ => by simp [fitL] at h

theorem fit1_ok {t s : S1} (h : fit1 nb us σ H' x.H t s = true) (hn : nb ≤ x.e.length) {v : Value} (hg : G1 x s v) : G1 (x.fit nb us σ H' bor) t v := by
  unfold fit1 at h
  split at h
  · trivial
  · exact fitSV_ok (bor := bor) h hn hg
  · obtain ⟨c, hv, hl⟩ := hg
    exact ⟨c, hv, by simpa using fitL_ok (c := c.toList) (bor := bor) h hn (by simpa using hl)⟩
  · cases h

theorem fit1s_ok : ∀ {t s : List S1} {c : List Value}, fit1s nb us σ H' x.H t s = true → nb ≤ x.e.length → (c.length = s.length ∧ ∀ j r, s[j]? = some r → G1 x r (c.getD j undef)) →
    (c.length = t.length ∧ ∀ j r, t[j]? = some r → G1 (x.fit nb us σ H' bor) r (c.getD j undef))
  | [], [], c, _, _, hg => ⟨hg.1, fun j p hj => by simp at hj⟩
  | p :: t, q :: s, c, h, hn, hg => by
    simp only [fit1s, Bool.and_eq_true] at h
    cases c with
    | nil => have := hg.1; simp at this
    | cons v c =>
      have ih := fit1s_ok h.2 hn (c := c) ⟨by have := hg.1; simpa using this, fun j r hj => by simpa using hg.2 (j + 1) r (by simpa using hj)⟩
      have hv := fit1_ok (bor := bor) h.1 hn (hg.2 0 q rfl)
      refine ⟨by simp [ih.1], fun j r hj => ?_⟩
      cases j with
      | zero => simp only [List.getElem?_cons_zero, Option.some.injEq] at hj; subst hj; simpa using hv
      | succ j => simpa using ih.2 j r (by simpa using hj)
  | [], _ :: _, _, h, _, _ => by simp [fit1s] at h
  | _ :: _, [], _, h, _, _ => by simp [fit1s] at h

theorem fitS_ok {t s : Slot} (h : fitS nb us σ H' x.H t s = true) (hn : nb ≤ x.e.length) {v : Value} (hg : GS x s v) : GS (x.fit nb us σ H' bor) t v := by
  unfold fitS at h
  split at h
  · trivial
  · exact fit1_ok (bor := bor) h hn hg
  · obtain ⟨c, hv, h1, h2⟩ := hg
    have := fit1s_ok (bor := bor) h hn (c := c.toList) ⟨by simpa using h1, fun j r hj => by simpa using h2 j r hj⟩
    exact ⟨c, hv, by simpa using this.1, fun j r hj => by simpa using this.2 j r hj⟩
  · cases h

/-- the wanted blocks are as they are wanted -/
theorem fitObj_ok {w0 : World} {M : Nat → Prop} (hs : Sat x w0 M) {k : Nat} {s : SObj} (h : fitObj x.P nb us σ H' x.H k s = true) (hn : nb ≤ x.e.length)
    (hbor : ∀ o b, src σ k = some (some o) → blkOf (x.ν o) = some b → (look x.H o).loose = true → ¬ bor b) : ObjOk (x.fit nb us σ H' bor) k s := by
  cases s with
  | dead => trivial
  | unborn => trivial
  | cells T l fz =>
    simp only [fitObj] at h
    split at h
    · rename_i o hsrc
      split at h
      · rename_i T' l' fz' hl
        simp only [Bool.and_eq_true, beq_iff_eq] at h
        obtain ⟨⟨rfl, rfl⟩, h⟩ := h
        have ho := hs.objs o
        rw [hl] at ho
        obtain ⟨b, c, h1, h2, h3, h4, h5⟩ := ho
        refine ⟨b, c, by simp only [Env.fit, nuOf_some hsrc]; exact h1, h2, by simpa using fitL_ok (c := c.toList) (bor := bor) h hn (by simpa using h3), fun e => .inl (h4 e), fun e hi => ?_⟩
        rcases hi with hi | hi
        · exact h5 e hi
        · exact hbor o b hsrc (by rw [h1]; rfl) (by rw [hl, e]; rfl) hi
      · cases h
    · cases h
  | row T t u =>
    simp only [fitObj] at h
    split at h
    · rename_i o hsrc
      split at h
      · rename_i T' e u' hl
        simp only [Bool.and_eq_true, beq_iff_eq] at h
        obtain ⟨rfl, h⟩ := h
        have ho := hs.objs o
        rw [hl] at ho
        obtain ⟨hsc, ts, n, xs, h1, h2, h3, h4, h5⟩ := ho
        obtain ⟨a1, a2⟩ := fitE_ok h hn
        refine ⟨a1, ts, n, xs, h1, by simp only [Env.fit, nuOf_some hsrc]; exact h2, ?_, ?_, fun b hb hi => ?_⟩
        · simp only [Env.fit]; rw [a2]; exact h3
        · simp only [Env.fit]; rw [a2]; exact h4.mono (fun _ => .inl) fun _ _ => rfl
        · simp only [Env.fit, nuOf_some hsrc] at hb
          rcases hi with hi | hi
          · exact h5 b hb hi
          · exact hbor o b hsrc (blkOf_own hb) (by rw [hl]; rfl) hi
      · cases h
    · rename_i hsrc
      simp only [Bool.and_eq_true] at h
      obtain ⟨hts, h⟩ := h
      obtain ⟨ts, hts⟩ := Option.isSome_iff_exists.1 hts
      obtain ⟨a1, a2⟩ := fitE_ok h hn
      refine ⟨a1, ts, 0, [], hts, by simp only [Env.fit, nuOf_none hsrc]; exact World.ownsRow_nil _ _ _ _, ?_, ?_, fun b hb => ?_⟩
      · simp only [Env.fit]; rw [a2]; rfl
      · simp only [Env.fit]; rw [a2]; exact ⟨by simp [Ex.den], fun i j t hi => by simp [Ex.den] at hi⟩
      · simp only [Env.fit, nuOf_none hsrc] at hb; cases hb
    · cases h

end
end Glx
