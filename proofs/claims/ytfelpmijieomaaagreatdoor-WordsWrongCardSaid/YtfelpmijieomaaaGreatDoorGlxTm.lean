/- Terms put behind the leaves of terms, and what a run of such a term is. -/
import Derived.Test.YtfelpmijieomaaaGreatDoorGlxCore
namespace Glx
open Go

section
variable {A B : Type}

/-- a term behind each leaf -/
def Tm.bindO : Tm A → (A → Option (Tm B)) → Option (Tm B)
  | .leaf x, f => f x
  | .jump t o, _ => some (.jump t o)
  | .guard c k, f => (k.bindO f).map (.guard c)
  | .letx x k, f => (k.bindO f).map (.letx x)
  | .call i as k, f => (k.bindO f).map (.call i as)
  | .ite c a b, f => (a.bindO f).bind fun a => (b.bindO f).map fun b => .ite c a b
  | .join t m k, f => (m.bindO f).bind fun m => (k.bindO f).map fun k => .join t m k
  | .loop t i b, f => (b.bindO f).map (.loop t i)

/-- is a label bound within? -/
def Tm.binds (T : Nat) : Tm A → Bool
  | .leaf _ | .jump _ _ => false
  | .guard _ k | .letx _ k | .call _ _ k => k.binds T
  | .ite _ a b => a.binds T || b.binds T
  | .join t m k => t == T || m.binds T || k.binds T
  | .loop t _ b => t == T || b.binds T

/-- a run goes to a leaf, or to one label -/
def Only (Φ : Nat → List D → Option (List D)) (T : Nat) (t : Tm A) : Prop := ∀ e u ds, Run Φ none t e (.jump u ds) → u = T

theorem run_bindO {Φ : Nat → List D → Option (List D)} {T : Nat} {f : A → Option (Tm B)} (hf : ∀ a t2, f a = some t2 → Only Φ T t2) : ∀ (t : Tm A) (t' : Tm B) (e : List D) (res : Res B), t.binds T = false → t.bindO f = some t' → Run Φ none t' e res →
    (∃ a e1 t2, Run Φ none t e (.leaf a e1) ∧ f a = some t2 ∧ Run Φ none t2 e1 res) ∨ (∃ u ds, Run Φ none t e (.jump u ds) ∧ res = .jump u ds) := by
  intro t
  induction t with
  | leaf x => intro t' e res _ h hr; exact .inl ⟨x, e, t', .leaf, h, hr⟩
  | jump u o =>
    intro t' e res _ h hr
    simp only [Tm.bindO, Option.some.injEq] at h
    subst h
    cases hr
    exact .inr ⟨_, _, .jump, rfl⟩
  | guard c k ih =>
    intro t' e res hb h hr
    obtain ⟨k', h1, rfl⟩ := Option.map_eq_some_iff.1 h
    cases hr with
    | guard hc h2 =>
      rcases ih k' e res hb h1 h2 with ⟨a, e1, t2, r1, r2, r3⟩ | ⟨u, ds, r1, r2⟩
      · exact .inl ⟨a, e1, t2, .guard hc r1, r2, r3⟩
      · exact .inr ⟨u, ds, .guard hc r1, r2⟩
  | letx x k ih =>
    intro t' e res hb h hr
    obtain ⟨k', h1, rfl⟩ := Option.map_eq_some_iff.1 h
    cases hr with
    | letx h2 =>
      rcases ih k' _ res hb h1 h2 with ⟨a, e1, t2, r1, r2, r3⟩ | ⟨u, ds, r1, r2⟩
      · exact .inl ⟨a, e1, t2, .letx r1, r2, r3⟩
      · exact .inr ⟨u, ds, .letx r1, r2⟩
  | call i as k ih =>
    intro t' e res hb h hr
    obtain ⟨k', h1, rfl⟩ := Option.map_eq_some_iff.1 h
    cases hr with
    | call hc h2 =>
      rcases ih k' _ res hb h1 h2 with ⟨a, e1, t2, r1, r2, r3⟩ | ⟨u, ds, r1, r2⟩
      · exact .inl ⟨a, e1, t2, .call hc r1, r2, r3⟩
      · exact .inr ⟨u, ds, .call hc r1, r2⟩
  | ite c a b iha ihb =>
    intro t' e res hb h hr
    simp only [Tm.binds, Bool.or_eq_false_iff] at hb
    obtain ⟨a', h1, h⟩ := Option.bind_eq_some_iff.1 h
    obtain ⟨b', h2, rfl⟩ := Option.map_eq_some_iff.1 h
    cases hr with
    | iteT hc h3 =>
      rcases iha a' e res hb.1 h1 h3 with ⟨a, e1, t2, r1, r2, r3⟩ | ⟨u, ds, r1, r2⟩
      · exact .inl ⟨a, e1, t2, .iteT hc r1, r2, r3⟩
      · exact .inr ⟨u, ds, .iteT hc r1, r2⟩
    | iteF hc h3 =>
      rcases ihb b' e res hb.2 h2 h3 with ⟨a, e1, t2, r1, r2, r3⟩ | ⟨u, ds, r1, r2⟩
      · exact .inl ⟨a, e1, t2, .iteF hc r1, r2, r3⟩
      · exact .inr ⟨u, ds, .iteF hc r1, r2⟩
  | join t m k ihm ihk =>
    intro t' e res hb h hr
    simp only [Tm.binds, Bool.or_eq_false_iff, beq_eq_false_iff_ne] at hb
    obtain ⟨m', h1, h⟩ := Option.bind_eq_some_iff.1 h
    obtain ⟨k', h2, rfl⟩ := Option.map_eq_some_iff.1 h
    cases hr with
    | joinL h3 =>
      rcases ihm m' e _ hb.1.2 h1 h3 with ⟨a, e1, t2, r1, r2, r3⟩ | ⟨u, ds, r1, r2⟩
      · exact .inl ⟨a, e1, t2, .joinL r1, r2, r3⟩
      · cases r2
    | joinO hu h3 =>
      rcases ihm m' e _ hb.1.2 h1 h3 with ⟨a, e1, t2, r1, r2, r3⟩ | ⟨u, ds, r1, r2⟩
      · exact .inl ⟨a, e1, t2, .joinL r1, r2, r3⟩
      · cases r2; exact .inr ⟨_, _, .joinO hu r1, rfl⟩
    | joinJ h3 h4 =>
      rcases ihm m' e _ hb.1.2 h1 h3 with ⟨a, e1, t2, r1, r2, r3⟩ | ⟨u, ds, r1, r2⟩
      · exact absurd (hf a t2 r2 _ _ _ r3) hb.1.1
      · cases r2
        rcases ihk k' _ res hb.2 h2 h4 with ⟨a, e1, t2, q1, q2, q3⟩ | ⟨u, ds, q1, q2⟩
        · exact .inl ⟨a, e1, t2, .joinJ r1 q1, q2, q3⟩
        · exact .inr ⟨u, ds, .joinJ r1 q1, q2⟩
  | loop t init body ih =>
    intro t' e res hb h hr
    simp only [Tm.binds, Bool.or_eq_false_iff, beq_eq_false_iff_ne] at hb
    obtain ⟨b', h1, rfl⟩ := Option.map_eq_some_iff.1 h
    cases hr with
    | loop h2 =>
      have key : ∀ (o : Option (List D)) (tt : Tm B) (e' : List D) (res : Res B), Run Φ o tt e' res → ∀ st, o = some st → tt = .loop t init b' → e' = e →
          (∃ a e1 t2, Run Φ (some st) (.loop t init body) e (.leaf a e1) ∧ f a = some t2 ∧ Run Φ none t2 e1 res) ∨ (∃ u ds, Run Φ (some st) (.loop t init body) e (.jump u ds) ∧ res = .jump u ds) := by
        intro o tt e' res hrun
        induction hrun with
        | loopL h3 =>
          intro st ho ht he
          cases ho; cases ht; subst he
          rcases ih b' _ _ hb.2 h1 h3 with ⟨a, e1, t2, r1, r2, r3⟩ | ⟨u, ds, r1, r2⟩
          · exact .inl ⟨a, e1, t2, .loopL r1, r2, r3⟩
          · cases r2
        | loopO hu h3 =>
          intro st ho ht he
          cases ho; cases ht; subst he
          rcases ih b' _ _ hb.2 h1 h3 with ⟨a, e1, t2, r1, r2, r3⟩ | ⟨u, ds, r1, r2⟩
          · exact .inl ⟨a, e1, t2, .loopL r1, r2, r3⟩
          · cases r2; exact .inr ⟨_, _, .loopO hu r1, rfl⟩
        | loopJ h3 h4 _ ih2 =>
          intro st ho ht he
          cases ho; cases ht; subst he
          rcases ih b' _ _ hb.2 h1 h3 with ⟨a, e1, t2, r1, r2, r3⟩ | ⟨u, ds, r1, r2⟩
          · exact absurd (hf a t2 r2 _ _ _ r3) hb.1
          · cases r2
            rcases ih2 _ rfl rfl rfl with ⟨a, e1, t2, q1, q2, q3⟩ | ⟨u, ds, q1, q2⟩
            · exact .inl ⟨a, e1, t2, .loopJ r1 q1, q2, q3⟩
            · exact .inr ⟨u, ds, .loopJ r1 q1, q2⟩
        | _ => intro st ho; cases ho
      rcases key _ _ _ _ h2 _ rfl rfl rfl with ⟨a, e1, t2, r1, r2, r3⟩ | ⟨u, ds, r1, r2⟩
      · exact .inl ⟨a, e1, t2, .loop r1, r2, r3⟩
      · exact .inr ⟨u, ds, .loop r1, r2⟩

/-- a run goes to a leaf -/
def Never (Φ : Nat → List D → Option (List D)) (t : Tm A) : Prop := ∀ e u ds, ¬ Run Φ none t e (.jump u ds)

theorem run_bindN {Φ : Nat → List D → Option (List D)} {T : Nat} {f : A → Option (Tm B)} (hf : ∀ a t2, f a = some t2 → Only Φ T t2) {t : Tm A} {t' : Tm B} {e : List D} {res : Res B} (ht : Never Φ t) (hb : t.binds T = false) (h : t.bindO f = some t') (hr : Run Φ none t' e res) :
    ∃ a e1 t2, Run Φ none t e (.leaf a e1) ∧ f a = some t2 ∧ Run Φ none t2 e1 res := by
  rcases run_bindO hf t t' e res hb h hr with h1 | ⟨u, ds, h1, _⟩
  · exact h1
  · exact absurd h1 (ht e u ds)

end
end Glx
