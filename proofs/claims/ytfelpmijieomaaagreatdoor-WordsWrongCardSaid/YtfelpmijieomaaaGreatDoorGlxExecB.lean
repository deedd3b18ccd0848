/- A run of a text's term tells what the text does. -/
import Derived.Test.YtfelpmijieomaaaGreatDoorGlxExec
namespace Glx
open Go

/-- what stays the same for a whole function -/
structure Gl where
  C : Cfg
  Φ : Nat → List D → Option (List D)
  w0 : World
  M : Nat → Prop
  I0 : Nat → Prop
  ν0 : Nat → Value
  B : Nat

structure At (g : Gl) (st : St) (e : List D) (x : Env) (a : Act) : Prop where
  P : x.P = g.C.P
  env : x.e = e
  n : e.length = st.n
  H : x.H = st.H
  sat : Sat x g.w0 g.M
  slots : Slots x st.S a.tmps
  defers : a.defers = []
  I : ∀ b, g.I0 b → x.I b
  back : ∀ b, x.I b → g.I0 b ∨ g.w0.heap.size ≤ b ∨ g.M b
  base : ∀ o, o < g.B → (look st.H o).born = true ∧ ∀ T l fz, look st.H o = .cells T l fz → x.ν o = g.ν0 o

section
variable {g : Gl}

theorem fitSlots_ok {x : Env} {nb : Nat} {us : List Ex} {σ : Src} {H' : List SObj} {bor : Nat → Prop} (hn : nb ≤ x.e.length) : ∀ {ts ss : List Slot}, fitSlots nb us σ H' x.H ts ss = true → ts.length = ss.length ∧ ∀ (i : Nat) (t : Slot), ts[i]? = some t → ∃ s, ss[i]? = some s ∧ ∀ v, GS x s v → GS (x.fit nb us σ H' bor) t v
  | [], [], _ => ⟨rfl, fun i t hi => by simp at hi⟩
  | t :: ts, s :: ss, h => by
    simp only [fitSlots, Bool.and_eq_true] at h
    obtain ⟨h1, h2⟩ := fitSlots_ok hn (bor := bor) h.2
    refine ⟨by simp [h1], fun i r hi => ?_⟩
    cases i with
    | zero => simp only [List.getElem?_cons_zero, Option.some.injEq] at hi; subst hi; exact ⟨s, rfl, fun v hv => fitS_ok h.1 hn hv⟩
    | succ i => exact h2 i r (by simpa using hi)
  | [], _ :: _, h => by cases h
  | _ :: _, [], h => by cases h

theorem fit_at {st : St} {e : List D} {x : Env} {a : Act} (hat : At g st e x a) {nb : Nat} {L : Lay} {us : List Ex} {σ : Src} (h : fitSt g.C.P g.B nb L us σ st = true) :
    At g (L.st nb) (e.take nb ++ dens e us) (x.fit nb us σ L.H (fun _ => False)) a := by
  simp only [fitSt, Bool.and_eq_true, beq_iff_eq, decide_eq_true_eq] at h
  obtain ⟨⟨⟨⟨h1, h2⟩, h3⟩, h4⟩, h5⟩ := h
  have hn : nb ≤ x.e.length := by rw [hat.env, hat.n]; exact h2
  rw [← hat.H] at h3 h4
  obtain ⟨k1, k2⟩ := fitSlots_ok (bor := fun _ => False) hn h3
  rw [← hat.P] at h4
  have hob : ∀ k, fitObj x.P nb us σ L.H x.H k (look L.H k) = true := by
    intro k
    unfold fitAll at h4
    simp only [Bool.and_eq_true, List.all_eq_true, List.mem_range] at h4
    rcases Nat.lt_or_ge k L.H.length with h6 | h6
    · exact h4.2 k h6
    · simp [look, List.getD_eq_getElem?_getD, List.getElem?_eq_none h6, fitObj]
  refine ⟨hat.P, by simp only [Env.fit]; rw [hat.env], ?_, rfl, ?_, ⟨by rw [hat.slots.1]; exact k1.symm, fun i t hi => ?_⟩, hat.defers, fun b hb => .inl (hat.I b hb), fun b hb => hat.back b (hb.resolve_right id), fun o ho => ?_⟩
  · simp only [List.length_append, List.length_take, dens, List.length_map, h1, Lay.st]
    rw [Nat.min_eq_left (by rw [hat.n]; exact h2)]
  · refine fit_sat hat.sat h4 hn (fun b hb => hb.elim) (fun _ _ _ _ _ _ _ hb => hb.elim) hat.sat.frame fun k b hk hb => ?_
    have hkl : (look L.H k).live = true := by cases hq : look L.H k <;> rw [hq] at hk <;> first | rfl | cases hk
    rcases fitObj_src (hob k) hkl with h6 | ⟨o, h6, _, h8⟩
    · rw [nuOf_none h6] at hb; cases hb
    · rw [nuOf_some h6] at hb; exact hat.sat.mine o b (h8 hk) hb
  · obtain ⟨s, k3, k4⟩ := k2 i t hi
    rw [hat.H] at *
    exact k4 _ (hat.slots.2 i s k3)
  · unfold baseOk at h5
    simp only [List.all_eq_true, List.mem_range] at h5
    have h6 := h5 o ho
    refine ⟨(by simp only [Lay.st]; cases hq : look L.H o <;> rw [hq] at h6 <;> first | rfl | exact absurd h6 (by simp)), fun T l fz hq => ?_⟩
    have hq' : look L.H o = .cells T l fz := hq
    rw [hq'] at h6
    simp only [beq_iff_eq] at h6
    have h7 := hob o
    rw [hq'] at h7
    simp only [fitObj, h6] at h7
    simp only [Env.fit, nuOf_some h6]
    split at h7
    · rename_i T' l' fz' hlk
      rw [hat.H] at hlk
      exact (hat.base o ho).2 T' l' fz' hlk
    · cases h7

/-- from one leaf to what comes -/
def Goes (g : Gl) (c : Code) (st : St) (e : List D) (lf : Lf) (e' : List D) : Prop :=
  ∀ (x : Env) (a : Act) (Q : Exit → Act → World → Prop), At g st e x a → (∀ x' a', At g lf.2 e' x' a' → Q lf.1.ex a' x'.w) → c.wp g.C.P Q a x.w

theorem freeze_at {st : St} {e : List D} {x : Env} {a : Act} (hat : At g st e x a) (o : Nat) : ∃ x', x'.w = x.w ∧ At g (freeze o st) e x' a := by
  unfold freeze
  split
  · rename_i T ex u hl
    rw [← hat.H] at hl
    obtain ⟨x', k1, k2, k3, k4, k5, k6, k7, k8, k9, k10⟩ := freeze_env hat.sat hl
    refine ⟨x', k1, ⟨k2.trans hat.P, k3.trans hat.env, hat.n, by rw [k5, hat.H], k6, ⟨by rw [List.length_map]; exact hat.slots.1, fun i s hi => ?_⟩, hat.defers, fun b hb => k7.I b (hat.I b hb), fun b hb => ?_, fun p hp => ⟨?_, fun T' l fz h => ?_⟩⟩⟩
    · simp only [List.getElem?_map, Option.map_eq_some_iff] at hi
      obtain ⟨s', h1, rfl⟩ := hi
      exact k10 s' _ (hat.slots.2 i s' h1)
    · rcases k8 b hb with h | h
      · exact hat.back b h
      · exact .inr h
    · have := k7.born p (by rw [hat.H]; exact (hat.base p hp).1)
      rw [k5, hat.H] at this
      exact this
    · have h' : look x'.H p = .cells T' l fz := by rw [k5, hat.H]; exact h
      obtain ⟨l', h2⟩ := k9 p T' l fz h'
      rw [k4]
      rw [hat.H] at h2
      exact (hat.base p hp).2 T' l' fz h2
  · exact ⟨x, rfl, hat⟩

theorem freezes_at : ∀ (l : List Nat) {st : St} {e : List D} {x : Env} {a : Act}, At g st e x a → ∃ x', x'.w = x.w ∧ At g (freezes l st) e x' a
  | [], st, e, x, a, hat => ⟨x, rfl, hat⟩
  | o :: l, st, e, x, a, hat => by
    obtain ⟨x1, h1, h2⟩ := freeze_at hat o
    obtain ⟨x2, h3, h4⟩ := freezes_at l h2
    exact ⟨x2, h3.trans h1, h4⟩

theorem fits_at {st : St} {e : List D} {x : Env} {a : Act} (hat : At g st e x a) {nb : Nat} {L : Lay} {us : List Ex} {σ : Src} {l : List Nat} (h : fitSt g.C.P g.B nb L us σ (freezes l st) = true) :
    ∃ x', x'.w = x.w ∧ At g (L.st nb) (e.take nb ++ dens e us) x' a := by
  obtain ⟨x1, h1, h2⟩ := freezes_at l hat
  exact ⟨x1.fit nb us σ L.H (fun _ => False), h1, fit_at h2 h⟩

theorem fitSt_len {P : Program} {B nb : Nat} {L : Lay} {us : List Ex} {σ : Src} {st : St} (h : fitSt P B nb L us σ st = true) : us.length = L.m := by
  simp only [fitSt, Bool.and_eq_true, beq_iff_eq] at h
  exact h.1.1.1.1

theorem joinN_ok {T live : Nat} {st0 : St} {t t' : Tm Lf} (ht : Never g.Φ t) (h : joinN g.C.P g.B T live st0 t = some t') {e : List D} {res : Res Lf} (he : e.length = st0.n)
    (hpre : ∀ lf1 e1, Run g.Φ none t e (.leaf lf1 e1) → e1.take e.length = e ∧ e1.length = lf1.2.n) (hr : Run g.Φ none t' e res) :
    ∃ lf e' lf1 e1, res = .leaf lf e' ∧ Run g.Φ none t e (.leaf lf1 e1) ∧ lf1.1 = lf.1 ∧ e'.take e.length = e ∧ e'.length = lf.2.n ∧ ∀ x a, At g lf1.2 e1 x a → ∃ x', x'.w = x.w ∧ At g lf.2 e' x' a := by
  unfold joinN at h
  simp only at h
  split at h
  · cases h
    cases res with
    | leaf lf e' => exact ⟨lf, e', lf, e', rfl, hr, rfl, (hpre _ _ hr).1, (hpre _ _ hr).2, fun x a hat => ⟨x, rfl, hat⟩⟩
    | jump u ds => exact absurd hr (ht e u ds)
  · split at h
    · cases h
    · rename_i hb
      obtain ⟨m, h1, rfl⟩ := Option.map_eq_some_iff.1 h
      have hb' : t.binds T = false := by simpa using hb
      cases hr with
      | joinL h2 =>
        obtain ⟨lf1, e1, t2, q1, q2, q3⟩ := run_bindN (T := T) (fun a t2 h => jumpOr_only a t2 h) ht hb' h1 h2
        unfold jumpOr at q2
        split at q2
        · simp only [Option.ite_none_right_eq_some, Option.some.injEq] at q2
          obtain ⟨_, rfl⟩ := q2
          cases q3
        · cases q2
          cases q3
          exact ⟨_, _, _, _, rfl, q1, rfl, (hpre _ _ q1).1, (hpre _ _ q1).2, fun x a hat => ⟨x, rfl, hat⟩⟩
      | joinO hu h2 =>
        obtain ⟨lf1, e1, t2, q1, q2, q3⟩ := run_bindN (T := T) (fun a t2 h => jumpOr_only a t2 h) ht hb' h1 h2
        exact absurd (jumpOr_only lf1 t2 q2 _ _ _ q3) hu
      | joinJ h2 h3 =>
        obtain ⟨lf1, e1, t2, q1, q2, q3⟩ := run_bindN (T := T) (fun a t2 h => jumpOr_only a t2 h) ht hb' h1 h2
        unfold jumpOr at q2
        split at q2
        · rename_i hk
          simp only [Option.ite_none_right_eq_some, Option.some.injEq] at q2
          obtain ⟨hfit, rfl⟩ := q2
          cases q3
          cases h3
          have hp := (hpre _ _ q1).1
          rw [he] at hp
          refine ⟨_, _, lf1, e1, rfl, q1, hk, by simp, by simp [dens, fitSt_len hfit, Lay.st, he], fun x a hat => ?_⟩
          obtain ⟨x', z1, z2⟩ := fits_at hat hfit
          rw [hp] at z2
          exact ⟨x', z1, z2⟩
        · cases q2
          cases q3

/-- in the body of a loop -/
def loopWp (P : Program) (c : Code) (Q : Exit → Act → World → Prop) (a : Act) (w : World) : Prop :=
  ∀ (b : Frame) (k : List Item) (cs : List Frame), ∃ e a' w', Q e a' w' ∧ Arrives P (lone (b.at a (.code c :: .inLoop c :: k)) cs w) b k cs e a' w'

theorem wp_of_loopWp {P : Program} {c : Code} {Q : Exit → Act → World → Prop} {a : Act} {w : World} (h : loopWp P c Q a w) : (Code.loop c).wp P Q a w := fun b k cs =>
  let ⟨e, a', w', q, r⟩ := h b k cs
  ⟨e, a', w', q, .of_steps (.one step_loop) r⟩

theorem loop_round {P : Program} {c : Code} {Q : Exit → Act → World → Prop} {a : Act} {w : World} (h : c.wp P (Exit.then (loopWp P c Q) Q) a w) : loopWp P c Q a w := by
  intro b k cs
  obtain ⟨e, a₁, w₁, hq, harr⟩ := h b (.inLoop c :: k) cs
  cases e with
  | normal =>
    obtain ⟨e₂, a₂, w₂, hq₂, harr₂⟩ := hq b k cs
    exact ⟨e₂, a₂, w₂, hq₂, .of_steps (Steps.trans harr (.one step_inLoop)) harr₂⟩
  | exit id => exact ⟨_, a₁, w₁, hq, .pass (x := .inLoop c) rfl (fun _ _ => .inl (by simp)) harr⟩
  | goto l => exact ⟨_, a₁, w₁, hq, .pass (x := .inLoop c) rfl (fun _ _ => .inl (by simp)) harr⟩
  | ret => exact ⟨_, a₁, w₁, hq, .pass (x := .inLoop c) rfl (fun _ _ => .inl (by simp)) harr⟩
  | panic ch => exact ⟨_, a₁, w₁, hq, .pass (x := .inLoop c) rfl (fun _ _ => .inl (by simp)) harr⟩
  | outgrown => exact ⟨_, a₁, w₁, hq, .pass (x := .inLoop c) rfl (fun _ _ => .inl (by simp)) harr⟩

theorem take_take_pre {e e1 e2 : List D} (h1 : e1.take e.length = e) (h2 : e2.take e1.length = e1) : e2.take e.length = e := by
  have hl : e.length ≤ e1.length := by have := congrArg List.length h1; simp at this; omega
  rw [← h2, List.take_take, Nat.min_eq_left hl] at h1
  exact h1

theorem then_ex {next : Act → World → Prop} {Q : Exit → Act → World → Prop} {k : Kind} (hk : k ≠ .normal) {a : Act} {w : World} (h : Q k.ex a w) : Exit.then next Q k.ex a w := by
  cases k with
  | normal => exact absurd rfl hk
  | exit id => exact h
  | ret => exact h
  | dead => exact h

/-- a text -/
theorem exec_ok (hsig : SigOk g.C g.Φ) (hmix : g.C.P.follows .mixedOrders = true) : ∀ (c : Code) (d live : Nat) (st : St) (t : Tm Lf) (e : List D) (res : Res Lf), exec g.C g.B c d live st = some t → Run g.Φ none t e res → e.length = st.n →
    ∃ lf e', res = .leaf lf e' ∧ e'.take e.length = e ∧ e'.length = lf.2.n ∧ Goes g c st e lf e' := by
  intro c
  induction c with
  | skip =>
    intro d live st t e res h hr hn
    simp only [exec, Option.some.injEq] at h
    subst h
    cases hr
    exact ⟨_, e, rfl, List.take_length, hn, fun x a Q hat hQ => wp_skip (hQ x a hat)⟩
  | exit id =>
    intro d live st t e res h hr hn
    simp only [exec, Option.some.injEq] at h
    subst h
    cases hr
    exact ⟨_, e, rfl, List.take_length, hn, fun x a Q hat hQ => wp_exit (hQ x a hat)⟩
  | ret =>
    intro d live st t e res h hr hn
    simp only [exec, Option.some.injEq] at h
    subst h
    cases hr
    exact ⟨_, e, rfl, List.take_length, hn, fun x a Q hat hQ => wp_ret (hQ x a hat)⟩
  | region id ops draw =>
    intro d live st t e res h hr hn
    simp only [exec] at h
    obtain ⟨⟨st', t1⟩, h1, h⟩ := Option.bind_eq_some_iff.1 h
    simp only [Option.ite_none_right_eq_some] at h
    obtain ⟨hfl, h⟩ := h
    obtain ⟨t2, h2, h⟩ := Option.bind_eq_some_iff.1 h
    have hst : region g.C draw ops st'.S st'.H st'.n = some t1 ∧ st'.n = st.n ∧ ∀ x a, At g st e x a → ∃ x', x'.w = x.w ∧ At g st' e x' a := by
      unfold regionF at h1
      split at h1
      · rename_i t0 h0
        cases h1
        exact ⟨h0, rfl, fun x a hat => ⟨x, rfl, hat⟩⟩
      · obtain ⟨t0, h0, h1⟩ := Option.map_eq_some_iff.1 h1
        cases h1
        exact ⟨h0, freezes_n _ _, fun x a hat => freezes_at _ hat⟩
    obtain ⟨h1, hn', hfrz⟩ := hst
    rw [← hn'] at hn
    have hnl : ∀ (a : RLeaf) (t2 : Tm Lf), some (.leaf (.normal, (⟨regEnd ops.toList a.R st'.S, a.H, a.n⟩ : St))) = some t2 → Never g.Φ t2 := fun a t2 h => by cases h; exact never_leaf
    have hnv := never_bind hnl (flat_never (Φ := g.Φ) hfl) h2
    have hleaf : ∀ lf1 e1, Run g.Φ none t2 e (.leaf lf1 e1) → ∃ (lf : RLeaf) (es : List D), e1 = e ++ es ∧ lf1 = (.normal, ⟨regEnd ops.toList lf.R st'.S, lf.H, lf.n⟩) ∧ lf.n = e1.length ∧ ∀ (x : Env) (a : Act) (Q : Exit → Act → World → Prop), x.P = g.C.P → x.e = e → x.H = st'.H → Sat x g.w0 g.M → Slots x st'.S a.tmps →
        (∀ a' x', x'.P = g.C.P → x'.e = e1 → x'.H = lf.H → Sat x' g.w0 g.M → Ext x x' → (∀ b, x'.I b → x.I b ∨ g.w0.heap.size ≤ b ∨ g.M b) → Slots x' (regEnd ops.toList lf.R st'.S) a'.tmps → a'.defers = a.defers → Q .normal a' x'.w) → (Code.region id ops draw).wp g.C.P Q a x.w := by
      intro lf1 e1 hr1
      obtain ⟨rl, e2, t3, q1, q2, q3⟩ := run_bind0 hnl (flat_never hfl) h2 hr1
      cases q2
      cases q3
      obtain ⟨lf, es, k1, k2, k3⟩ := region_ok (w0 := g.w0) (M := g.M) hsig hmix (id := id) h1 q1 hn
      cases k1
      exact ⟨_, es, rfl, rfl, k2, k3⟩
    obtain ⟨lf, e', lf1, e1, r1, r2, r3, r4, r5, r6⟩ := joinN_ok hnv h hn (fun lf1 e1 hr1 => by
      obtain ⟨rl, es, q1, q2, q3, _⟩ := hleaf lf1 e1 hr1
      subst q1 q2
      exact ⟨by simp, q3.symm⟩) hr
    refine ⟨lf, e', r1, r4, r5, fun x a Q hat hQ => ?_⟩
    obtain ⟨rl, es, q1, q2, q3, q4⟩ := hleaf lf1 e1 r2
    obtain ⟨xf, hxf, hat⟩ := hfrz x a hat
    rw [← hxf]
    refine q4 xf a Q hat.P hat.env hat.H hat.sat hat.slots fun a' x' z1 z2 z3 z4 z5 z6 z7 z8 => ?_
    subst q2
    obtain ⟨x'', y1, y2⟩ := r6 x' a' ⟨z1, z2, q3.symm, z3, z4, z7, by rw [z8]; exact hat.defers, fun b hb => z5.I b (hat.I b hb), fun b hb => by
        rcases z6 b hb with hb | hb
        · exact hat.back b hb
        · exact .inr hb, fun o ho => by
        have hbo := (hat.base o ho).1
        rw [← hat.H] at hbo
        refine ⟨by show (look rl.H o).born = true; rw [← z3]; exact z5.born o hbo, fun T l fz hq => ?_⟩
        have hq' : look x'.H o = .cells T l fz := by rw [z3]; exact hq
        obtain ⟨⟨l', fz', k1⟩, k2⟩ := z5.cells o T l fz hbo hq'
        rw [k2]
        rw [hat.H] at k1
        exact (hat.base o ho).2 T l' fz' k1⟩
    have := hQ x'' a' y2
    rw [y1, ← r3] at this
    exact this
  | seq a b iha ihb =>
    intro d live st t e res h hr hn
    simp only [exec] at h
    obtain ⟨t1, h1, h⟩ := Option.bind_eq_some_iff.1 h
    have hnv : ∀ (lf : Lf) (t2 : Tm Lf), (if lf.1 = .normal then some (orDead lf.2 (exec g.C g.B b (d + 1) live lf.2)) else some (.leaf lf)) = some t2 → Never g.Φ t2 := fun lf t2 h => by
      split at h
      · cases h; exact orDead_never (fun t h1 => exec_never b _ _ _ _ h1)
      · cases h; exact never_leaf
    obtain ⟨lf1, e1, t2, q1, q2, q3⟩ := run_bind0 hnv (exec_never a _ _ _ _ h1) h hr
    obtain ⟨lf1', e1', k1, k2, k3, k4⟩ := iha _ _ _ _ _ _ h1 q1 hn
    cases k1
    split at q2
    · rename_i hk
      cases q2
      obtain ⟨tb, hb2, q3⟩ := orDead_run q3
      obtain ⟨lf, e', m1, m2, m3, m4⟩ := ihb _ _ _ _ _ _ hb2 q3 k3
      refine ⟨lf, e', m1, take_take_pre k2 m2, m3, fun x ac Q hat hQ => wp_seq (k4 x ac _ hat fun x' a' hat' => ?_)⟩
      rw [hk]
      exact m4 x' a' Q hat' hQ
    · rename_i hk
      cases q2
      cases q3
      exact ⟨_, _, rfl, k2, k3, fun x ac Q hat hQ => wp_seq (k4 x ac _ hat fun x' a' hat' => then_ex hk (hQ x' a' hat'))⟩
  | cond c x y ihx ihy =>
    intro d live st t e res h hr hn
    simp only [exec] at h
    obtain ⟨s, h0, h⟩ := Option.bind_eq_some_iff.1 h
    split at h
    · obtain ⟨lf, e', m1, m2, m3, m4⟩ := ihx _ _ _ _ _ _ h hr hn
      exact ⟨lf, e', m1, m2, m3, fun x ac Q hat hQ => wp_cond_true (opd_ok hat.slots h0).2 (m4 x ac Q hat hQ)⟩
    · obtain ⟨lf, e', m1, m2, m3, m4⟩ := ihy _ _ _ _ _ _ h hr hn
      exact ⟨lf, e', m1, m2, m3, fun x ac Q hat hQ => wp_cond_false (opd_ok hat.slots h0).2 (m4 x ac Q hat hQ)⟩
    · rename_i ex _ _
      have hnv : Never g.Φ (.ite ex (orDead st (exec g.C g.B x (d + 1) live st)) (orDead st (exec g.C g.B y (d + 1) live st))) := fun e u ds hr => by
        cases hr with
        | iteT _ h3 => exact orDead_never (fun t h1 => exec_never x _ _ _ _ h1) _ _ _ h3
        | iteF _ h3 => exact orDead_never (fun t h1 => exec_never y _ _ _ _ h1) _ _ _ h3
      obtain ⟨lf, e', lf1, e1, r1, r2, r3, r4, r5, r6⟩ := joinN_ok hnv h hn (fun lf1 e1 hr1 => by
        cases hr1 with
        | iteT _ h3 => obtain ⟨_, h1, h3⟩ := orDead_run h3; obtain ⟨_, _, m1, m2, m3, _⟩ := ihx _ _ _ _ _ _ h1 h3 hn; cases m1; exact ⟨m2, m3⟩
        | iteF _ h3 => obtain ⟨_, h2, h3⟩ := orDead_run h3; obtain ⟨_, _, m1, m2, m3, _⟩ := ihy _ _ _ _ _ _ h2 h3 hn; cases m1; exact ⟨m2, m3⟩) hr
      refine ⟨lf, e', r1, r4, r5, fun x0 ac Q hat hQ => ?_⟩
      have hc := (opd_ok hat.slots h0).2
      rw [hat.env] at hc
      have hQ' : ∀ x' a', At g lf1.2 e1 x' a' → Q lf1.1.ex a' x'.w := fun x' a' hat' => by
        obtain ⟨x'', y1, y2⟩ := r6 x' a' hat'
        have := hQ x'' a' y2
        rw [y1, ← r3] at this
        exact this
      cases r2 with
      | iteT hb h3 =>
        obtain ⟨_, h1, h3⟩ := orDead_run h3
        obtain ⟨_, _, m1, m2, m3, m4⟩ := ihx _ _ _ _ _ _ h1 h3 hn
        cases m1
        rw [hb] at hc
        exact wp_cond_true hc (m4 x0 ac Q hat hQ')
      | iteF hb h3 =>
        obtain ⟨_, h2, h3⟩ := orDead_run h3
        obtain ⟨_, _, m1, m2, m3, m4⟩ := ihy _ _ _ _ _ _ h2 h3 hn
        cases m1
        rw [hb] at hc
        exact wp_cond_false hc (m4 x0 ac Q hat hQ')
    · cases h
  | block id c ih =>
    intro d live st t e res h hr hn
    simp only [exec] at h
    obtain ⟨t1, h1, h⟩ := Option.bind_eq_some_iff.1 h
    obtain ⟨t2, h2, h⟩ := Option.bind_eq_some_iff.1 h
    have hnl : ∀ (lf : Lf) (t2 : Tm Lf), (if lf.1 = .exit id then some (.leaf ((.normal, lf.2) : Lf)) else some (.leaf lf)) = some t2 → Never g.Φ t2 := fun lf t2 h => by
      split at h <;> cases h <;> exact never_leaf
    have hnv := never_bind hnl (exec_never c _ _ _ _ h1) h2
    have hleaf : ∀ lf1 e1, Run g.Φ none t2 e (.leaf lf1 e1) → ∃ lf0 : Lf, Run g.Φ none t1 e (.leaf lf0 e1) ∧ lf1.2 = lf0.2 ∧ ((lf0.1 = .exit id ∧ lf1.1 = .normal) ∨ (lf0.1 ≠ .exit id ∧ lf1.1 = lf0.1)) := by
      intro lf1 e1 hr1
      obtain ⟨lf0, e2, t3, q1, q2, q3⟩ := run_bind0 hnl (exec_never c _ _ _ _ h1) h2 hr1
      split at q2
      · rename_i hk
        cases q2
        cases q3
        exact ⟨lf0, q1, rfl, .inl ⟨hk, rfl⟩⟩
      · rename_i hk
        cases q2
        cases q3
        exact ⟨_, q1, rfl, .inr ⟨hk, rfl⟩⟩
    obtain ⟨lf, e', lf1, e1, r1, r2, r3, r4, r5, r6⟩ := joinN_ok hnv h hn (fun lf1 e1 hr1 => by
      obtain ⟨lf0, q1, q2, _⟩ := hleaf lf1 e1 hr1
      obtain ⟨_, _, m1, m2, m3, _⟩ := ih _ _ _ _ _ _ h1 q1 hn
      cases m1
      exact ⟨m2, by rw [q2]; exact m3⟩) hr
    refine ⟨lf, e', r1, r4, r5, fun x ac Q hat hQ => ?_⟩
    obtain ⟨lf0, q1, q2, q3⟩ := hleaf lf1 e1 r2
    obtain ⟨_, _, m1, m2, m3, m4⟩ := ih _ _ _ _ _ _ h1 q1 hn
    cases m1
    refine wp_block (m4 x ac _ hat fun x' a' hat' => ?_)
    rw [← q2] at hat'
    obtain ⟨x'', y1, y2⟩ := r6 x' a' hat'
    have hq := hQ x'' a' y2
    rw [y1, ← r3] at hq
    rcases q3 with ⟨k1, k2⟩ | ⟨k1, k2⟩
    · rw [k1]
      rw [k2] at hq
      simpa [Kind.ex, Exit.inBlock] using hq
    · rw [k2] at hq
      generalize lf0.1 = kk at k1 hq
      cases kk with
      | normal => exact hq
      | ret => exact hq
      | dead => exact hq
      | exit id' =>
        have : id' ≠ id := fun h => k1 (by rw [h])
        simpa [Kind.ex, Exit.inBlock, this] using hq
  | loop c ih =>
    intro d live st t e res h hr hn
    simp only [exec] at h
    obtain ⟨⟨L, tb⟩, h1, h⟩ := Option.bind_eq_some_iff.1 h
    have hbody := search_ok h1
    simp only [Option.ite_none_right_eq_some, Bool.and_eq_true, Bool.not_eq_true'] at h
    obtain ⟨⟨hfit0, hbd⟩, h⟩ := h
    obtain ⟨b, h2, rfl⟩ := Option.map_eq_some_iff.1 h
    have hLn : ∀ st' : List D, st'.length = L.m → (e ++ st').length = (L.st st.n).n := fun st' hl => by simp [Lay.st, hl, hn]
    have key : ∀ (o : Option (List D)) (tt : Tm Lf) (e0 : List D) (res : Res Lf), Run g.Φ o tt e0 res → ∀ st', o = some st' → tt = .loop d (mkFit g.B st.n L (freezes (thaws L g.B st) st)).1 b → e0 = e → st'.length = L.m →
        ∃ lf e', res = .leaf lf e' ∧ e'.take e.length = e ∧ e'.length = lf.2.n ∧ ∀ (x : Env) (a : Act) (Q : Exit → Act → World → Prop), At g (L.st st.n) (e ++ st') x a → (∀ x' a', At g lf.2 e' x' a' → Q lf.1.ex a' x'.w) → loopWp g.C.P c Q a x.w := by
      intro o tt e0 res hrun
      induction hrun with
      | loopL h3 =>
        intro st' ho ht he hl
        cases ho; cases ht; subst he
        obtain ⟨lf1, e1, t2, q1, q2, q3⟩ := run_bindN (T := d) (fun a t2 h => jumpOr_only a t2 h) (exec_never c _ _ _ _ hbody) hbd h2 h3
        obtain ⟨_, _, m1, m2, m3, m4⟩ := ih _ _ _ _ _ _ hbody q1 (hLn _ hl)
        cases m1
        unfold jumpOr at q2
        split at q2
        · simp only [Option.ite_none_right_eq_some, Option.some.injEq] at q2
          obtain ⟨_, rfl⟩ := q2
          cases q3
        · rename_i hk
          cases q2
          cases q3
          refine ⟨_, _, rfl, take_take_pre (by simp) m2, m3, fun x a Q hat hQ => loop_round (m4 x a _ hat fun x' a' hat' => then_ex (fun h => hk h) (hQ x' a' hat'))⟩
      | loopO hu h3 =>
        intro st' ho ht he hl
        cases ho; cases ht; subst he
        obtain ⟨lf1, e1, t2, q1, q2, q3⟩ := run_bindN (T := d) (fun a t2 h => jumpOr_only a t2 h) (exec_never c _ _ _ _ hbody) hbd h2 h3
        exact absurd (jumpOr_only lf1 t2 q2 _ _ _ q3) hu
      | loopJ h3 h4 _ ih2 =>
        intro st' ho ht he hl
        cases ho; cases ht; subst he
        obtain ⟨lf1, e1, t2, q1, q2, q3⟩ := run_bindN (T := d) (fun a t2 h => jumpOr_only a t2 h) (exec_never c _ _ _ _ hbody) hbd h2 h3
        obtain ⟨_, _, m1, m2, m3, m4⟩ := ih _ _ _ _ _ _ hbody q1 (hLn _ hl)
        cases m1
        unfold jumpOr at q2
        split at q2
        · rename_i hk
          simp only [Option.ite_none_right_eq_some, Option.some.injEq] at q2
          obtain ⟨hfit, rfl⟩ := q2
          cases q3
          obtain ⟨lf, e', z1, z2, z3, z4⟩ := ih2 _ rfl rfl rfl (by simp [dens, fitSt_len hfit])
          refine ⟨lf, e', z1, z2, z3, fun x a Q hat hQ => loop_round (m4 x a _ hat fun x' a' hat' => ?_)⟩
          rw [hk]
          obtain ⟨x2, hx2, hf⟩ := fits_at hat' hfit
          have hte := take_take_pre List.take_left m2
          rw [hn] at hte
          rw [hte] at hf
          rw [← hx2]
          exact z4 x2 a' Q hf hQ
        · cases q2
          cases q3
      | _ => intro _ ho; cases ho
    cases hr with
    | loop h3 =>
      obtain ⟨lf, e', z1, z2, z3, z4⟩ := key _ _ _ _ h3 _ rfl rfl rfl (by simp [dens, fitSt_len hfit0])
      refine ⟨lf, e', z1, z2, z3, fun x a Q hat hQ => wp_of_loopWp ?_⟩
      obtain ⟨x2, hx2, hf⟩ := fits_at hat hfit0
      rw [← hn, List.take_length] at hf
      rw [hn] at hf
      rw [← hx2]
      exact z4 x2 a Q hf hQ
  | _ => intro d live st t e res h; simp [exec] at h

end
end Glx
