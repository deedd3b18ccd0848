/- All contracts at once: as many calls deep as it takes. -/
import Derived.Test.YtfelpmijieomaaaGreatDoorGlxFun
import Derived.Test.YtfelpmijieomaaaGreatDoorGlxDen
namespace Glx
open Go

/-- the functions' terms, and what is given of others -/
structure Book where
  C : Cfg
  tm : Nat → Option (Tm (List Ex))
  base : Nat → Option (List D → Option (List D))

def Book.cut (B : Book) (cid : Nat) (r : List D) : Option (List D) := match B.C.sig cid with
  | some s => if r.length = s.outN then some r else none
  | none => none

/-- what a contract says, so many calls deep -/
noncomputable def Book.phi (B : Book) : Nat → Nat → List D → Option (List D)
  | 0, _, _ => none
  | n + 1, cid, as => (match B.base cid with
    | some g => g as
    | none => match B.tm cid with
      | some t => fnDen (B.phi n) t as
      | none => none).bind (B.cut cid)

structure BookOk (B : Book) : Prop where
  mix : B.C.P.follows .mixedOrders = true
  enters : ∀ f, B.C.of f ≠ [] → ∀ args w, (callFunc f args).run B.C.P w = .ok (.enter f args) w
  own : ∀ f cid s, cid ∈ B.C.of f → B.C.sig cid = some s → (∃ fn body t, B.base cid = none ∧ B.tm cid = some t ∧ B.C.P.funcs[f]? = some fn ∧ fn.body = some body ∧ fnTm B.C s fn.ntmps fn.results.toList body = some t) ∨
    (∃ g, B.base cid = some g ∧ Impl B.C.P f s g)

theorem Book.sigOk {B : Book} (h : BookOk B) : ∀ n, SigOk B.C (B.phi n)
  | 0 => ⟨h.enters, fun f cid s _ _ x args _ _ _ _ _ _ r hr => (by cases hr), fun f s _ as ds hr => (by cases hr)⟩
  | n + 1 => by
    have hcut : ∀ cid s as r, B.C.sig cid = some s → B.phi (n + 1) cid as = some r → r.length = s.outN ∧ (match B.base cid with | some g => g as | none => match B.tm cid with | some t => fnDen (B.phi n) t as | none => none) = some r := by
      intro cid s as r hs hr
      simp only [Book.phi] at hr
      obtain ⟨r', h1, h2⟩ := Option.bind_eq_some_iff.1 hr
      simp only [Book.cut, hs, Option.ite_none_right_eq_some, Option.some.injEq] at h2
      obtain ⟨h3, rfl⟩ := h2
      exact ⟨h3, h1⟩
    refine ⟨h.enters, fun f cid s hmem hs x args h1 h2 h3 h4 h5 h6 r hr => ?_, fun cid s hs as ds hr => (hcut cid s as ds hs hr).1⟩
    obtain ⟨_, k2⟩ := hcut cid s x.e r hs hr
    rcases h.own f cid s hmem hs with ⟨fn, body, t, q1, q2, q3, q4, q5⟩ | ⟨g, q1, q2⟩
    · simp only [q1, q2] at k2
      exact impl_of (Book.sigOk h n) h.mix q3 q4 q5 x args h1 h2 h3 h4 h5 h6 r k2
    · simp only [q1] at k2
      exact q2 x args h1 h2 h3 h4 h5 h6 r k2

/-- the same, reckoned -/
def Book.ev (B : Book) (m : Nat) : Nat → Nat → List D → Option (List D)
  | 0, _, _ => none
  | n + 1, cid, as => match (match B.base cid with
    | some g => g as
    | none => match B.tm cid with
      | some t => t.ev m (B.ev m n) (fun us e => some (dens e us)) (fun _ _ => none) as
      | none => none) with
    | some r => B.cut cid r
    | none => none

theorem Book.ev_phi {B : Book} {m : Nat} : ∀ n cid, Le (B.ev m n cid) (B.phi n cid)
  | 0, _ => fun _ _ h => by cases h
  | n + 1, cid => by
    intro as r h
    simp only [Book.ev] at h
    split at h
    · rename_i r0 h0
      simp only [Book.phi]
      have : (match B.base cid with | some g => g as | none => match B.tm cid with | some t => fnDen (B.phi n) t as | none => none) = some r0 := by
        cases hb : B.base cid with
        | some g => rw [hb] at h0; exact h0
        | none =>
          rw [hb] at h0
          cases ht : B.tm cid with
          | none => rw [ht] at h0; cases h0
          | some t =>
            rw [ht] at h0
            simp only at h0 ⊢
            exact den_mono (Book.ev_phi n) t _ _ (fun _ _ _ h => h) as r0 (ev_den t _ _ (fun _ _ _ h => h) as r0 h0)
      rw [this]
      exact h
    · cases h

end Glx
