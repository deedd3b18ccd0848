/- A function's text as a term, and that it is so. -/
import Derived.Test.YtfelpmijieomaaaGreatDoorGlxFreezeB
namespace Glx
open Go

def Kind.ex : Kind → Exit
  | .normal => .normal
  | .exit id => .exit id
  | .ret => .ret
  | .dead => .ret

/-- a path that is not told of -/
def orDead (st : St) : Option (Tm Lf) → Tm Lf
  | some t => t
  | none => .guard (.blit false) (.leaf (.dead, st))

/-- no label, no jump -/
def Tm.flat {A : Type} : Tm A → Bool
  | .leaf _ => true
  | .guard _ k | .letx _ k | .call _ _ k => k.flat
  | .ite _ a b => a.flat && b.flat
  | _ => false

def jumpOr (P : Program) (B nb T : Nat) (L : Lay) (lf : Lf) : Option (Tm Lf) :=
  match lf.1 with
  | .normal =>
    let st := freezes (thaws L B lf.2) lf.2
    let p := mkFit B nb L st
    if fitSt P B nb L p.1 p.2 st = true then some (.jump T p.1) else none
  | _ => some (.leaf lf)

/-- paths meet -/
def joinN (P : Program) (B T live : Nat) (st0 : St) (t : Tm Lf) : Option (Tm Lf) :=
  let ns := normals t
  if ns.length ≤ 1 then some t
  else
    let L := antiUnify B st0.n live ns
    if t.binds T then none else (t.bindO (jumpOr P B st0.n T L)).map fun m => .join T m (.leaf (.normal, L.st st0.n))

/-- a region; if it can't be told with rows of the walk's own, then without them -/
def regionF (C : Cfg) (draw : Bool) (ops : Array Oper) (st : St) : Option (St × Tm RLeaf) :=
  match region C draw ops st.S st.H st.n with
  | some t => some (st, t)
  | none => let st := freezes (rowsOf st.H) st; (region C draw ops st.S st.H st.n).map (st, ·)

def exec (C : Cfg) (B : Nat) : Code → Nat → Nat → St → Option (Tm Lf)
  | .skip, _, _, st => some (.leaf (.normal, st))
  | .exit id, _, _, st => some (.leaf (.exit id, st))
  | .ret, _, _, st => some (.leaf (.ret, st))
  | .region _ ops draw, d, live, st =>
    (regionF C draw ops st).bind fun (st, t) => if t.flat then (t.bindO fun lf => some (.leaf (.normal, ⟨regEnd ops.toList lf.R st.S, lf.H, lf.n⟩))).bind (joinN C.P B d live st) else none
  | .seq a b, d, live, st => (exec C B a (d + 1) (live ||| usesOf b) st).bind fun t => t.bindO fun lf => if lf.1 = .normal then some (orDead lf.2 (exec C B b (d + 1) live lf.2)) else some (.leaf lf)
  | .cond c x y, d, live, st => (opd st.S c).bind fun
    | .v (.one (.bool (.blit true))) => exec C B x (d + 1) live st
    | .v (.one (.bool (.blit false))) => exec C B y (d + 1) live st
    | .v (.one (.bool e)) => joinN C.P B d live st (.ite e (orDead st (exec C B x (d + 1) live st)) (orDead st (exec C B y (d + 1) live st)))
    | _ => none
  | .block id c, d, live, st => (exec C B c (d + 1) live st).bind fun t => (t.bindO fun lf => if lf.1 = .exit id then some (.leaf (.normal, lf.2)) else some (.leaf lf)).bind (joinN C.P B d live st)
  | .loop c, d, live, st =>
    let lv := live ||| usesOf c
    (search C.P B lv st (exec C B c (d + 1) lv) 8 (openLay B lv (setsOf c) st)).bind fun (L, t) =>
      let st' := freezes (thaws L B st) st
      let p := mkFit B st.n L st'
      if fitSt C.P B st.n L p.1 p.2 st' && !t.binds d then (t.bindO (jumpOr C.P B st.n d L)).map fun b => .loop d p.1 b else none
  | _, _, _, _ => none

theorem search_ok {P : Program} {B live : Nat} {st : St} {body : St → Option (Tm Lf)} : ∀ {f : Nat} {L L' : Lay} {t : Tm Lf}, search P B live st body f L = some (L', t) → body (L'.st st.n) = some t
  | 0, _, _, _, h => by cases h
  | f + 1, L, L', t, h => by
    simp only [search] at h
    obtain ⟨t', h1, h⟩ := Option.bind_eq_some_iff.1 h
    split at h
    · split at h
      · cases h; exact h1
      · exact search_ok h
    · exact search_ok h

section
variable {A B : Type} {Φ : Nat → List D → Option (List D)}

theorem flat_binds {T : Nat} : ∀ {t : Tm A}, t.flat = true → t.binds T = false := by
  intro t
  induction t <;> simp_all [Tm.flat, Tm.binds]

theorem flat_never {t : Tm A} (h : t.flat = true) : Never Φ t := by
  induction t with
  | leaf x => intro e u ds hr; cases hr
  | jump _ _ => cases h
  | join _ _ _ => cases h
  | loop _ _ _ => cases h
  | guard c k ih => intro e u ds hr; cases hr with | guard _ h2 => exact ih h _ _ _ h2
  | letx x k ih => intro e u ds hr; cases hr with | letx h2 => exact ih h _ _ _ h2
  | call i as k ih => intro e u ds hr; cases hr with | call _ h2 => exact ih h _ _ _ h2
  | ite c a b iha ihb =>
    simp only [Tm.flat, Bool.and_eq_true] at h
    intro e u ds hr
    cases hr with
    | iteT _ h2 => exact iha h.1 _ _ _ h2
    | iteF _ h2 => exact ihb h.2 _ _ _ h2

theorem binds_bound : ∀ t : Tm A, ∃ n, ∀ T, n ≤ T → t.binds T = false := by
  intro t
  induction t with
  | leaf x => exact ⟨0, fun _ _ => rfl⟩
  | jump _ _ => exact ⟨0, fun _ _ => rfl⟩
  | guard c k ih => exact ih
  | letx x k ih => exact ih
  | call i as k ih => exact ih
  | ite c a b iha ihb =>
    obtain ⟨n, hn⟩ := iha
    obtain ⟨m, hm⟩ := ihb
    exact ⟨max n m, fun T hT => by simp [Tm.binds, hn T (by omega), hm T (by omega)]⟩
  | join t a b iha ihb =>
    obtain ⟨n, hn⟩ := iha
    obtain ⟨m, hm⟩ := ihb
    exact ⟨max (t + 1) (max n m), fun T hT => by simp [Tm.binds, hn T (by omega), hm T (by omega)]; omega⟩
  | loop t i b ih =>
    obtain ⟨n, hn⟩ := ih
    exact ⟨max (t + 1) n, fun T hT => by simp [Tm.binds, hn T (by omega)]; omega⟩

theorem run_bind0 {f : A → Option (Tm B)} (hf : ∀ a t2, f a = some t2 → Never Φ t2) {t : Tm A} {t' : Tm B} {e : List D} {res : Res B} (ht : Never Φ t) (h : t.bindO f = some t') (hr : Run Φ none t' e res) :
    ∃ a e1 t2, Run Φ none t e (.leaf a e1) ∧ f a = some t2 ∧ Run Φ none t2 e1 res := by
  obtain ⟨n, hn⟩ := binds_bound t
  exact run_bindN (T := n) (fun a t2 h e u ds hr => absurd hr (hf a t2 h e u ds)) ht (hn n (Nat.le_refl _)) h hr

theorem never_bind {f : A → Option (Tm B)} (hf : ∀ a t2, f a = some t2 → Never Φ t2) {t : Tm A} {t' : Tm B} (ht : Never Φ t) (h : t.bindO f = some t') : Never Φ t' := by
  intro e u ds hr
  obtain ⟨a, e1, t2, _, h2, h3⟩ := run_bind0 hf ht h hr
  exact hf a t2 h2 e1 u ds h3

theorem never_leaf {x : A} : Never Φ (.leaf x) := by intro e u ds hr; cases hr

theorem jumpOr_only {P : Program} {Bn nb T : Nat} {L : Lay} (lf : Lf) (t2 : Tm Lf) (h : jumpOr P Bn nb T L lf = some t2) : Only Φ T t2 := by
  unfold jumpOr at h
  intro e u ds hr
  split at h
  · simp only [Option.ite_none_right_eq_some, Option.some.injEq] at h
    obtain ⟨_, rfl⟩ := h
    cases hr
    rfl
  · cases h
    cases hr

theorem joinN_never {P : Program} {Bn T live : Nat} {st0 : St} {t t' : Tm Lf} (ht : Never Φ t) (h : joinN P Bn T live st0 t = some t') : Never Φ t' := by
  unfold joinN at h
  simp only at h
  split at h
  · cases h; exact ht
  · split at h
    · cases h
    · rename_i hb
      obtain ⟨m, h1, rfl⟩ := Option.map_eq_some_iff.1 h
      intro e u ds hr
      cases hr with
      | joinO hu h2 =>
        obtain ⟨a, e1, t2, _, q2, q3⟩ := run_bindN (T := T) (fun a t2 h => jumpOr_only a t2 h) ht (by simpa using hb) h1 h2
        exact hu (jumpOr_only a t2 q2 _ _ _ q3)
      | joinJ _ h3 => cases h3

theorem orDead_never {st : St} {o : Option (Tm Lf)} (h : ∀ t, o = some t → Never Φ t) : Never Φ (orDead st o) := by
  cases o with
  | some t => exact h t rfl
  | none =>
    intro e u ds hr
    cases hr with
    | guard hc _ => cases hc

theorem orDead_run {st : St} {o : Option (Tm Lf)} {e : List D} {res : Res Lf} (h : Run Φ none (orDead st o) e res) : ∃ t, o = some t ∧ Run Φ none t e res := by
  cases o with
  | some t => exact ⟨t, rfl, h⟩
  | none =>
    cases h with
    | guard hc _ => cases hc

theorem exec_never {C : Cfg} {Bn : Nat} : ∀ (c : Code) (d live : Nat) (st : St) (t : Tm Lf), exec C Bn c d live st = some t → Never Φ t := by
  intro c
  induction c with
  | skip => intro d live st t h; simp only [exec, Option.some.injEq] at h; subst h; exact never_leaf
  | exit id => intro d live st t h; simp only [exec, Option.some.injEq] at h; subst h; exact never_leaf
  | ret => intro d live st t h; simp only [exec, Option.some.injEq] at h; subst h; exact never_leaf
  | region id ops draw =>
    intro d live st t h
    simp only [exec] at h
    obtain ⟨⟨st', t1⟩, _, h⟩ := Option.bind_eq_some_iff.1 h
    simp only at h
    split at h
    · rename_i hfl
      obtain ⟨t2, h2, h⟩ := Option.bind_eq_some_iff.1 h
      exact joinN_never (never_bind (fun a t2 h => by cases h; exact never_leaf) (flat_never hfl) h2) h
    · cases h
  | seq a b iha ihb =>
    intro d live st t h
    simp only [exec] at h
    obtain ⟨t1, h1, h⟩ := Option.bind_eq_some_iff.1 h
    refine never_bind (fun lf t2 h => ?_) (iha _ _ _ _ h1) h
    split at h
    · cases h; exact orDead_never (ihb _ _ _)
    · cases h; exact never_leaf
  | cond c x y ihx ihy =>
    intro d live st t h
    simp only [exec] at h
    obtain ⟨s, _, h⟩ := Option.bind_eq_some_iff.1 h
    split at h
    · exact ihx _ _ _ _ h
    · exact ihy _ _ _ _ h
    · refine joinN_never (fun e u ds hr => ?_) h
      cases hr with
      | iteT _ h3 => exact orDead_never (ihx _ _ _) _ _ _ h3
      | iteF _ h3 => exact orDead_never (ihy _ _ _) _ _ _ h3
    · cases h
  | block id c ih =>
    intro d live st t h
    simp only [exec] at h
    obtain ⟨t1, h1, h⟩ := Option.bind_eq_some_iff.1 h
    obtain ⟨t2, h2, h⟩ := Option.bind_eq_some_iff.1 h
    refine joinN_never (never_bind (fun a t2 h => ?_) (ih _ _ _ _ h1) h2) h
    split at h <;> cases h <;> exact never_leaf
  | loop c ih =>
    intro d live st t h
    simp only [exec] at h
    obtain ⟨⟨L, tb⟩, h1, h⟩ := Option.bind_eq_some_iff.1 h
    have hb := search_ok h1
    simp only [Option.ite_none_right_eq_some, Bool.and_eq_true, Bool.not_eq_true'] at h
    obtain ⟨⟨_, hbd⟩, h⟩ := h
    obtain ⟨b, h2, rfl⟩ := Option.map_eq_some_iff.1 h
    intro e u ds hr
    have key : ∀ (o : Option (List D)) (tt : Tm Lf) (e' : List D) (res : Res Lf), Run Φ o tt e' res → ∀ st', o = some st' → tt = .loop d (mkFit Bn st.n L (freezes (thaws L Bn st) st)).1 b → res ≠ .jump u ds := by
      intro o tt e' res hrun
      induction hrun with
      | loopL h3 => intro _ _ _ h; cases h
      | loopO hu h3 =>
        intro st' ho ht hq
        cases ho; cases ht
        obtain ⟨a, e1, t2, _, q2, q3⟩ := run_bindN (T := d) (fun a t2 h => jumpOr_only a t2 h) (ih _ _ _ _ hb) hbd h2 h3
        exact hu (jumpOr_only a t2 q2 _ _ _ q3)
      | loopJ h3 h4 _ ih2 =>
        intro st' ho ht hq
        cases ho; cases ht
        exact ih2 _ rfl rfl hq
      | _ => intro _ ho; cases ho
    cases hr with
    | loop h3 => exact key _ _ _ _ h3 _ rfl rfl rfl
  | _ => intro d live st t h; simp [exec] at h

end
end Glx
