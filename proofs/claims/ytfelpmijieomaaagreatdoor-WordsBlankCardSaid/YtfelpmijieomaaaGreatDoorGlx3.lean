import Derived.Test.YtfelpmijieomaaaGreatDoorGlx2
import Derived.Test.YtfelpmijieomaaaGreatDoorGlx0
import Derived.Below
namespace Glx
open Go

/-- what stays the same for a whole function -/
structure Gl where
  C : Cfg
  Φ : Nat → List D → Option (List D)
  w0 : World
  M : Nat → Prop
  I0 : Nat → Prop
  ν0 : Nat → Value
  B : Nat

structure At (g : Gl) (st : St) (e : List D) (x : Env) (a : Act) : Prop where
  P : x.P = g.C.P
  env : x.e = e
  n : e.length = st.n
  H : x.H = st.H
  sat : Sat x g.w0 g.M
  slots : Slots x st.S a.tmps
  defers : a.defers = []
  I : ∀ b, g.I0 b → x.I b
  back : ∀ b, x.I b → g.I0 b ∨ g.w0.heap.size ≤ b ∨ g.M b
  base : ∀ o, o < g.B → (look st.H o).born = true ∧ ∀ T l fz, look st.H o = .cells T l fz → x.ν o = g.ν0 o

section
variable {g : Gl}

theorem fitSlots_ok {x : Env} {nb : Nat} {us : List Ex} {σ : Src} {H' : List SObj} {bor : Nat → Prop} (hn : nb ≤ x.e.length) : ∀ {ts ss : List Slot}, fitSlots nb us σ H' x.H ts ss = true → ts.length = ss.length ∧ ∀ (i : Nat) (t : Slot), ts[i]? = some t → ∃ s, ss[i]? = some s ∧ ∀ v, GS x s v → GS (x.fit nb us σ H' bor) t v
  | [], [], _ => ⟨rfl, fun i t hi => by simp at hi⟩
  | t :: ts, s :: ss, h => by
    simp only [fitSlots, Bool.and_eq_true] at h
    obtain ⟨h1, h2⟩ := fitSlots_ok hn (bor := bor) h.2
    refine ⟨by simp [h1], fun i r hi => ?_⟩
    cases i with
    | zero => simp only [List.getElem?_cons_zero, Option.some.injEq] at hi; subst hi; exact ⟨s, rfl, fun v hv => fitS_ok h.1 hn hv⟩
    | succ i => exact h2 i r (by simpa using hi)
  | [], _ :: _, h => by cases h
  | _ :: _, [], h => by cases h

theorem fit_at {st : St} {e : List D} {x : Env} {a : Act} (hat : At g st e x a) {nb : Nat} {L : Lay} {us : List Ex} {σ : Src} (h : fitSt g.C.P g.B nb L us σ st = true) :
    At g (L.st nb) (e.take nb ++ dens e us) (x.fit nb us σ L.H (fun _ => False)) a := by
  simp only [fitSt, Bool.and_eq_true, beq_iff_eq, decide_eq_true_eq] at h
  obtain ⟨⟨⟨⟨h1, h2⟩, h3⟩, h4⟩, h5⟩ := h
  have hn : nb ≤ x.e.length := by rw [hat.env, hat.n]; exact h2
  rw [← hat.H] at h3 h4
  obtain ⟨k1, k2⟩ := fitSlots_ok (bor := fun _ => False) hn h3
  rw [← hat.P] at h4
  have hob : ∀ k, fitObj x.P nb us σ L.H x.H k (look L.H k) = true := by
    intro k
    unfold fitAll at h4
    simp only [Bool.and_eq_true, List.all_eq_true, List.mem_range] at h4
    rcases Nat.lt_or_ge k L.H.length with h6 | h6
    · exact h4.2 k h6
    · simp [look, List.getD_eq_getElem?_getD, List.getElem?_eq_none h6, fitObj]
  refine ⟨hat.P, by simp only [Env.fit]; rw [hat.env], ?_, rfl, ?_, ⟨by rw [hat.slots.1]; exact k1.symm, fun i t hi => ?_⟩, hat.defers, fun b hb => .inl (hat.I b hb), fun b hb => hat.back b (hb.resolve_right id), fun o ho => ?_⟩
  · simp only [List.length_append, List.length_take, dens, List.length_map, h1, Lay.st]
    rw [Nat.min_eq_left (by rw [hat.n]; exact h2)]
  · refine fit_sat hat.sat h4 hn (fun b hb => hb.elim) (fun _ _ _ _ _ _ _ hb => hb.elim) hat.sat.frame fun k b hk hb => ?_
    have hkl : (look L.H k).live = true := by cases hq : look L.H k <;> rw [hq] at hk <;> first | rfl | cases hk
    rcases fitObj_src (hob k) hkl with h6 | ⟨o, h6, _, h8⟩
    · rw [nuOf_none h6] at hb; cases hb
    · rw [nuOf_some h6] at hb; exact hat.sat.mine o b (h8 hk) hb
  · obtain ⟨s, k3, k4⟩ := k2 i t hi
    rw [hat.H] at *
    exact k4 _ (hat.slots.2 i s k3)
  · unfold baseOk at h5
    simp only [List.all_eq_true, List.mem_range] at h5
    have h6 := h5 o ho
    refine ⟨(by simp only [Lay.st]; cases hq : look L.H o <;> rw [hq] at h6 <;> first | rfl | exact absurd h6 (by simp)), fun T l fz hq => ?_⟩
    have hq' : look L.H o = .cells T l fz := hq
    rw [hq'] at h6
    simp only [beq_iff_eq] at h6
    have h7 := hob o
    rw [hq'] at h7
    simp only [fitObj, h6] at h7
    simp only [Env.fit, nuOf_some h6]
    split at h7
    · rename_i T' l' fz' hlk
      rw [hat.H] at hlk
      exact (hat.base o ho).2 T' l' fz' hlk
    · cases h7

/-- from one leaf to what comes -/
def Goes (g : Gl) (c : Code) (st : St) (e : List D) (lf : Lf) (e' : List D) : Prop :=
  ∀ (x : Env) (a : Act) (Q : Exit → Act → World → Prop), At g st e x a → (∀ x' a', At g lf.2 e' x' a' → Q lf.1.ex a' x'.w) → c.wp g.C.P Q a x.w

theorem freeze_at {st : St} {e : List D} {x : Env} {a : Act} (hat : At g st e x a) (o : Nat) : ∃ x', x'.w = x.w ∧ At g (freeze o st) e x' a := by
  unfold freeze
  split
  · rename_i T ex u hl
    rw [← hat.H] at hl
    obtain ⟨x', k1, k2, k3, k4, k5, k6, k7, k8, k9, k10⟩ := freeze_env hat.sat hl
    refine ⟨x', k1, ⟨k2.trans hat.P, k3.trans hat.env, hat.n, by rw [k5, hat.H], k6, ⟨by rw [List.length_map]; exact hat.slots.1, fun i s hi => ?_⟩, hat.defers, fun b hb => k7.I b (hat.I b hb), fun b hb => ?_, fun p hp => ⟨?_, fun T' l fz h => ?_⟩⟩⟩
    · simp only [List.getElem?_map, Option.map_eq_some_iff] at hi
      obtain ⟨s', h1, rfl⟩ := hi
      exact k10 s' _ (hat.slots.2 i s' h1)
    · rcases k8 b hb with h | h
      · exact hat.back b h
      · exact .inr h
    · have := k7.born p (by rw [hat.H]; exact (hat.base p hp).1)
      rw [k5, hat.H] at this
      exact this
    · have h' : look x'.H p = .cells T' l fz := by rw [k5, hat.H]; exact h
      obtain ⟨l', h2⟩ := k9 p T' l fz h'
      rw [k4]
      rw [hat.H] at h2
      exact (hat.base p hp).2 T' l' fz h2
  · exact ⟨x, rfl, hat⟩

theorem freezes_at : ∀ (l : List Nat) {st : St} {e : List D} {x : Env} {a : Act}, At g st e x a → ∃ x', x'.w = x.w ∧ At g (freezes l st) e x' a
  | [], st, e, x, a, hat => ⟨x, rfl, hat⟩
  | o :: l, st, e, x, a, hat => by
    obtain ⟨x1, h1, h2⟩ := freeze_at hat o
    obtain ⟨x2, h3, h4⟩ := freezes_at l h2
    exact ⟨x2, h3.trans h1, h4⟩

theorem fits_at {st : St} {e : List D} {x : Env} {a : Act} (hat : At g st e x a) {nb : Nat} {L : Lay} {us : List Ex} {σ : Src} {l : List Nat} (h : fitSt g.C.P g.B nb L us σ (freezes l st) = true) :
    ∃ x', x'.w = x.w ∧ At g (L.st nb) (e.take nb ++ dens e us) x' a := by
  obtain ⟨x1, h1, h2⟩ := freezes_at l hat
  exact ⟨x1.fit nb us σ L.H (fun _ => False), h1, fit_at h2 h⟩

theorem fitSt_len {P : Program} {B nb : Nat} {L : Lay} {us : List Ex} {σ : Src} {st : St} (h : fitSt P B nb L us σ st = true) : us.length = L.m := by
  simp only [fitSt, Bool.and_eq_true, beq_iff_eq] at h
  exact h.1.1.1.1

theorem joinN_ok {T live : Nat} {st0 : St} {t t' : Tm Lf} (ht : Never g.Φ t) (h : joinN g.C.P g.B T live st0 t = some t') {e : List D} {res : Res Lf} (he : e.length = st0.n)
    (hpre : ∀ lf1 e1, Run g.Φ none t e (.leaf lf1 e1) → e1.take e.length = e ∧ e1.length = lf1.2.n) (hr : Run g.Φ none t' e res) :
    ∃ lf e' lf1 e1, res = .leaf lf e' ∧ Run g.Φ none t e (.leaf lf1 e1) ∧ lf1.1 = lf.1 ∧ e'.take e.length = e ∧ e'.length = lf.2.n ∧ ∀ x a, At g lf1.2 e1 x a → ∃ x', x'.w = x.w ∧ At g lf.2 e' x' a := by
  unfold joinN at h
  simp only at h
  split at h
  · cases h
    cases res with
    | leaf lf e' => exact ⟨lf, e', lf, e', rfl, hr, rfl, (hpre _ _ hr).1, (hpre _ _ hr).2, fun x a hat => ⟨x, rfl, hat⟩⟩
    | jump u ds => exact absurd hr (ht e u ds)
  · split at h
    · cases h
    · rename_i hb
      obtain ⟨m, h1, rfl⟩ := Option.map_eq_some_iff.1 h
      have hb' : t.binds T = false := by simpa using hb
      cases hr with
      | joinL h2 =>
        obtain ⟨lf1, e1, t2, q1, q2, q3⟩ := run_bindN (T := T) (fun a t2 h => jumpOr_only a t2 h) ht hb' h1 h2
        unfold jumpOr at q2
        split at q2
        · simp only [Option.ite_none_right_eq_some, Option.some.injEq] at q2
          obtain ⟨_, rfl⟩ := q2
          cases q3
        · cases q2
          cases q3
          exact ⟨_, _, _, _, rfl, q1, rfl, (hpre _ _ q1).1, (hpre _ _ q1).2, fun x a hat => ⟨x, rfl, hat⟩⟩
      | joinO hu h2 =>
        obtain ⟨lf1, e1, t2, q1, q2, q3⟩ := run_bindN (T := T) (fun a t2 h => jumpOr_only a t2 h) ht hb' h1 h2
        exact absurd (jumpOr_only lf1 t2 q2 _ _ _ q3) hu
      | joinJ h2 h3 =>
        obtain ⟨lf1, e1, t2, q1, q2, q3⟩ := run_bindN (T := T) (fun a t2 h => jumpOr_only a t2 h) ht hb' h1 h2
        unfold jumpOr at q2
        split at q2
        · rename_i hk
          simp only [Option.ite_none_right_eq_some, Option.some.injEq] at q2
          obtain ⟨hfit, rfl⟩ := q2
          cases q3
          cases h3
          have hp := (hpre _ _ q1).1
          rw [he] at hp
          refine ⟨_, _, lf1, e1, rfl, q1, hk, by simp, by simp [dens, fitSt_len hfit, Lay.st, he], fun x a hat => ?_⟩
          obtain ⟨x', z1, z2⟩ := fits_at hat hfit
          rw [hp] at z2
          exact ⟨x', z1, z2⟩
        · cases q2
          cases q3

/-- in the body of a loop -/
def loopWp (P : Program) (c : Code) (Q : Exit → Act → World → Prop) (a : Act) (w : World) : Prop :=
  ∀ (b : Frame) (k : List Item) (cs : List Frame), ∃ e a' w', Q e a' w' ∧ Arrives P (lone (b.at a (.code c :: .inLoop c :: k)) cs w) b k cs e a' w'

theorem wp_of_loopWp {P : Program} {c : Code} {Q : Exit → Act → World → Prop} {a : Act} {w : World} (h : loopWp P c Q a w) : (Code.loop c).wp P Q a w := fun b k cs =>
  let ⟨e, a', w', q, r⟩ := h b k cs
  ⟨e, a', w', q, .of_steps (.one step_loop) r⟩

theorem loop_round {P : Program} {c : Code} {Q : Exit → Act → World → Prop} {a : Act} {w : World} (h : c.wp P (Exit.then (loopWp P c Q) Q) a w) : loopWp P c Q a w := by
  intro b k cs
  obtain ⟨e, a₁, w₁, hq, harr⟩ := h b (.inLoop c :: k) cs
  cases e with
  | normal =>
    obtain ⟨e₂, a₂, w₂, hq₂, harr₂⟩ := hq b k cs
    exact ⟨e₂, a₂, w₂, hq₂, .of_steps (Steps.trans harr (.one step_inLoop)) harr₂⟩
  | exit id => exact ⟨_, a₁, w₁, hq, .pass (x := .inLoop c) rfl (fun _ _ => .inl (by simp)) harr⟩
  | goto l => exact ⟨_, a₁, w₁, hq, .pass (x := .inLoop c) rfl (fun _ _ => .inl (by simp)) harr⟩
  | ret => exact ⟨_, a₁, w₁, hq, .pass (x := .inLoop c) rfl (fun _ _ => .inl (by simp)) harr⟩
  | panic ch => exact ⟨_, a₁, w₁, hq, .pass (x := .inLoop c) rfl (fun _ _ => .inl (by simp)) harr⟩
  | outgrown => exact ⟨_, a₁, w₁, hq, .pass (x := .inLoop c) rfl (fun _ _ => .inl (by simp)) harr⟩

theorem take_take_pre {e e1 e2 : List D} (h1 : e1.take e.length = e) (h2 : e2.take e1.length = e1) : e2.take e.length = e := by
  have hl : e.length ≤ e1.length := by have := congrArg List.length h1; simp at this; omega
  rw [← h2, List.take_take, Nat.min_eq_left hl] at h1
  exact h1

theorem then_ex {next : Act → World → Prop} {Q : Exit → Act → World → Prop} {k : Kind} (hk : k ≠ .normal) {a : Act} {w : World} (h : Q k.ex a w) : Exit.then next Q k.ex a w := by
  cases k with
  | normal => exact absurd rfl hk
  | exit id => exact h
  | ret => exact h
  | dead => exact h

/-- a text -/
theorem exec_ok (hsig : SigOk g.C g.Φ) (hmix : g.C.P.follows .mixedOrders = true) : ∀ (c : Code) (d live : Nat) (st : St) (t : Tm Lf) (e : List D) (res : Res Lf), exec g.C g.B c d live st = some t → Run g.Φ none t e res → e.length = st.n →
    ∃ lf e', res = .leaf lf e' ∧ e'.take e.length = e ∧ e'.length = lf.2.n ∧ Goes g c st e lf e' := by
  intro c
  induction c with
  | skip =>
    intro d live st t e res h hr hn
    simp only [exec, Option.some.injEq] at h
    subst h
    cases hr
    exact ⟨_, e, rfl, List.take_length, hn, fun x a Q hat hQ => wp_skip (hQ x a hat)⟩
  | exit id =>
    intro d live st t e res h hr hn
    simp only [exec, Option.some.injEq] at h
    subst h
    cases hr
    exact ⟨_, e, rfl, List.take_length, hn, fun x a Q hat hQ => wp_exit (hQ x a hat)⟩
  | ret =>
    intro d live st t e res h hr hn
    simp only [exec, Option.some.injEq] at h
    subst h
    cases hr
    exact ⟨_, e, rfl, List.take_length, hn, fun x a Q hat hQ => wp_ret (hQ x a hat)⟩
  | region id ops draw =>
    intro d live st t e res h hr hn
    simp only [exec] at h
    obtain ⟨⟨st', t1⟩, h1, h⟩ := Option.bind_eq_some_iff.1 h
    simp only [Option.ite_none_right_eq_some] at h
    obtain ⟨hfl, h⟩ := h
    obtain ⟨t2, h2, h⟩ := Option.bind_eq_some_iff.1 h
    have hst : region g.C draw ops st'.S st'.H st'.n = some t1 ∧ st'.n = st.n ∧ ∀ x a, At g st e x a → ∃ x', x'.w = x.w ∧ At g st' e x' a := by
      unfold regionF at h1
      split at h1
      · rename_i t0 h0
        cases h1
        exact ⟨h0, rfl, fun x a hat => ⟨x, rfl, hat⟩⟩
      · obtain ⟨t0, h0, h1⟩ := Option.map_eq_some_iff.1 h1
        cases h1
        exact ⟨h0, freezes_n _ _, fun x a hat => freezes_at _ hat⟩
    obtain ⟨h1, hn', hfrz⟩ := hst
    rw [← hn'] at hn
    have hnl : ∀ (a : RLeaf) (t2 : Tm Lf), some (.leaf (.normal, (⟨regEnd ops.toList a.R st'.S, a.H, a.n⟩ : St))) = some t2 → Never g.Φ t2 := fun a t2 h => by cases h; exact never_leaf
    have hnv := never_bind hnl (flat_never (Φ := g.Φ) hfl) h2
    have hleaf : ∀ lf1 e1, Run g.Φ none t2 e (.leaf lf1 e1) → ∃ (lf : RLeaf) (es : List D), e1 = e ++ es ∧ lf1 = (.normal, ⟨regEnd ops.toList lf.R st'.S, lf.H, lf.n⟩) ∧ lf.n = e1.length ∧ ∀ (x : Env) (a : Act) (Q : Exit → Act → World → Prop), x.P = g.C.P → x.e = e → x.H = st'.H → Sat x g.w0 g.M → Slots x st'.S a.tmps →
        (∀ a' x', x'.P = g.C.P → x'.e = e1 → x'.H = lf.H → Sat x' g.w0 g.M → Ext x x' → (∀ b, x'.I b → x.I b ∨ g.w0.heap.size ≤ b ∨ g.M b) → Slots x' (regEnd ops.toList lf.R st'.S) a'.tmps → a'.defers = a.defers → Q .normal a' x'.w) → (Code.region id ops draw).wp g.C.P Q a x.w := by
      intro lf1 e1 hr1
      obtain ⟨rl, e2, t3, q1, q2, q3⟩ := run_bind0 hnl (flat_never hfl) h2 hr1
      cases q2
      cases q3
      obtain ⟨lf, es, k1, k2, k3⟩ := region_ok (w0 := g.w0) (M := g.M) hsig hmix (id := id) h1 q1 hn
      cases k1
      exact ⟨_, es, rfl, rfl, k2, k3⟩
    obtain ⟨lf, e', lf1, e1, r1, r2, r3, r4, r5, r6⟩ := joinN_ok hnv h hn (fun lf1 e1 hr1 => by
      obtain ⟨rl, es, q1, q2, q3, _⟩ := hleaf lf1 e1 hr1
      subst q1 q2
      exact ⟨by simp, q3.symm⟩) hr
    refine ⟨lf, e', r1, r4, r5, fun x a Q hat hQ => ?_⟩
    obtain ⟨rl, es, q1, q2, q3, q4⟩ := hleaf lf1 e1 r2
    obtain ⟨xf, hxf, hat⟩ := hfrz x a hat
    rw [← hxf]
    refine q4 xf a Q hat.P hat.env hat.H hat.sat hat.slots fun a' x' z1 z2 z3 z4 z5 z6 z7 z8 => ?_
    subst q2
    obtain ⟨x'', y1, y2⟩ := r6 x' a' ⟨z1, z2, q3.symm, z3, z4, z7, by rw [z8]; exact hat.defers, fun b hb => z5.I b (hat.I b hb), fun b hb => by
        rcases z6 b hb with hb | hb
        · exact hat.back b hb
        · exact .inr hb, fun o ho => by
        have hbo := (hat.base o ho).1
        rw [← hat.H] at hbo
        refine ⟨by show (look rl.H o).born = true; rw [← z3]; exact z5.born o hbo, fun T l fz hq => ?_⟩
        have hq' : look x'.H o = .cells T l fz := by rw [z3]; exact hq
        obtain ⟨⟨l', fz', k1⟩, k2⟩ := z5.cells o T l fz hbo hq'
        rw [k2]
        rw [hat.H] at k1
        exact (hat.base o ho).2 T l' fz' k1⟩
    have := hQ x'' a' y2
    rw [y1, ← r3] at this
    exact this
  | seq a b iha ihb =>
    intro d live st t e res h hr hn
    simp only [exec] at h
    obtain ⟨t1, h1, h⟩ := Option.bind_eq_some_iff.1 h
    have hnv : ∀ (lf : Lf) (t2 : Tm Lf), (if lf.1 = .normal then some (orDead lf.2 (exec g.C g.B b (d + 1) live lf.2)) else some (.leaf lf)) = some t2 → Never g.Φ t2 := fun lf t2 h => by
      split at h
      · cases h; exact orDead_never (fun t h1 => exec_never b _ _ _ _ h1)
      · cases h; exact never_leaf
    obtain ⟨lf1, e1, t2, q1, q2, q3⟩ := run_bind0 hnv (exec_never a _ _ _ _ h1) h hr
    obtain ⟨lf1', e1', k1, k2, k3, k4⟩ := iha _ _ _ _ _ _ h1 q1 hn
    cases k1
    split at q2
    · rename_i hk
      cases q2
      obtain ⟨tb, hb2, q3⟩ := orDead_run q3
      obtain ⟨lf, e', m1, m2, m3, m4⟩ := ihb _ _ _ _ _ _ hb2 q3 k3
      refine ⟨lf, e', m1, take_take_pre k2 m2, m3, fun x ac Q hat hQ => wp_seq (k4 x ac _ hat fun x' a' hat' => ?_)⟩
      rw [hk]
      exact m4 x' a' Q hat' hQ
    · rename_i hk
      cases q2
      cases q3
      exact ⟨_, _, rfl, k2, k3, fun x ac Q hat hQ => wp_seq (k4 x ac _ hat fun x' a' hat' => then_ex hk (hQ x' a' hat'))⟩
  | cond c x y ihx ihy =>
    intro d live st t e res h hr hn
    simp only [exec] at h
    obtain ⟨s, h0, h⟩ := Option.bind_eq_some_iff.1 h
    split at h
    · obtain ⟨lf, e', m1, m2, m3, m4⟩ := ihx _ _ _ _ _ _ h hr hn
      exact ⟨lf, e', m1, m2, m3, fun x ac Q hat hQ => wp_cond_true (opd_ok hat.slots h0).2 (m4 x ac Q hat hQ)⟩
    · obtain ⟨lf, e', m1, m2, m3, m4⟩ := ihy _ _ _ _ _ _ h hr hn
      exact ⟨lf, e', m1, m2, m3, fun x ac Q hat hQ => wp_cond_false (opd_ok hat.slots h0).2 (m4 x ac Q hat hQ)⟩
    · rename_i ex _ _
      have hnv : Never g.Φ (.ite ex (orDead st (exec g.C g.B x (d + 1) live st)) (orDead st (exec g.C g.B y (d + 1) live st))) := fun e u ds hr => by
        cases hr with
        | iteT _ h3 => exact orDead_never (fun t h1 => exec_never x _ _ _ _ h1) _ _ _ h3
        | iteF _ h3 => exact orDead_never (fun t h1 => exec_never y _ _ _ _ h1) _ _ _ h3
      obtain ⟨lf, e', lf1, e1, r1, r2, r3, r4, r5, r6⟩ := joinN_ok hnv h hn (fun lf1 e1 hr1 => by
        cases hr1 with
        | iteT _ h3 => obtain ⟨_, h1, h3⟩ := orDead_run h3; obtain ⟨_, _, m1, m2, m3, _⟩ := ihx _ _ _ _ _ _ h1 h3 hn; cases m1; exact ⟨m2, m3⟩
        | iteF _ h3 => obtain ⟨_, h2, h3⟩ := orDead_run h3; obtain ⟨_, _, m1, m2, m3, _⟩ := ihy _ _ _ _ _ _ h2 h3 hn; cases m1; exact ⟨m2, m3⟩) hr
      refine ⟨lf, e', r1, r4, r5, fun x0 ac Q hat hQ => ?_⟩
      have hc := (opd_ok hat.slots h0).2
      rw [hat.env] at hc
      have hQ' : ∀ x' a', At g lf1.2 e1 x' a' → Q lf1.1.ex a' x'.w := fun x' a' hat' => by
        obtain ⟨x'', y1, y2⟩ := r6 x' a' hat'
        have := hQ x'' a' y2
        rw [y1, ← r3] at this
        exact this
      cases r2 with
      | iteT hb h3 =>
        obtain ⟨_, h1, h3⟩ := orDead_run h3
        obtain ⟨_, _, m1, m2, m3, m4⟩ := ihx _ _ _ _ _ _ h1 h3 hn
        cases m1
        rw [hb] at hc
        exact wp_cond_true hc (m4 x0 ac Q hat hQ')
      | iteF hb h3 =>
        obtain ⟨_, h2, h3⟩ := orDead_run h3
        obtain ⟨_, _, m1, m2, m3, m4⟩ := ihy _ _ _ _ _ _ h2 h3 hn
        cases m1
        rw [hb] at hc
        exact wp_cond_false hc (m4 x0 ac Q hat hQ')
    · cases h
  | block id c ih =>
    intro d live st t e res h hr hn
    simp only [exec] at h
    obtain ⟨t1, h1, h⟩ := Option.bind_eq_some_iff.1 h
    obtain ⟨t2, h2, h⟩ := Option.bind_eq_some_iff.1 h
    have hnl : ∀ (lf : Lf) (t2 : Tm Lf), (if lf.1 = .exit id then some (.leaf ((.normal, lf.2) : Lf)) else some (.leaf lf)) = some t2 → Never g.Φ t2 := fun lf t2 h => by
      split at h <;> cases h <;> exact never_leaf
    have hnv := never_bind hnl (exec_never c _ _ _ _ h1) h2
    have hleaf : ∀ lf1 e1, Run g.Φ none t2 e (.leaf lf1 e1) → ∃ lf0 : Lf, Run g.Φ none t1 e (.leaf lf0 e1) ∧ lf1.2 = lf0.2 ∧ ((lf0.1 = .exit id ∧ lf1.1 = .normal) ∨ (lf0.1 ≠ .exit id ∧ lf1.1 = lf0.1)) := by
      intro lf1 e1 hr1
      obtain ⟨lf0, e2, t3, q1, q2, q3⟩ := run_bind0 hnl (exec_never c _ _ _ _ h1) h2 hr1
      split at q2
      · rename_i hk
        cases q2
        cases q3
        exact ⟨lf0, q1, rfl, .inl ⟨hk, rfl⟩⟩
      · rename_i hk
        cases q2
        cases q3
        exact ⟨_, q1, rfl, .inr ⟨hk, rfl⟩⟩
    obtain ⟨lf, e', lf1, e1, r1, r2, r3, r4, r5, r6⟩ := joinN_ok hnv h hn (fun lf1 e1 hr1 => by
      obtain ⟨lf0, q1, q2, _⟩ := hleaf lf1 e1 hr1
      obtain ⟨_, _, m1, m2, m3, _⟩ := ih _ _ _ _ _ _ h1 q1 hn
      cases m1
      exact ⟨m2, by rw [q2]; exact m3⟩) hr
    refine ⟨lf, e', r1, r4, r5, fun x ac Q hat hQ => ?_⟩
    obtain ⟨lf0, q1, q2, q3⟩ := hleaf lf1 e1 r2
    obtain ⟨_, _, m1, m2, m3, m4⟩ := ih _ _ _ _ _ _ h1 q1 hn
    cases m1
    refine wp_block (m4 x ac _ hat fun x' a' hat' => ?_)
    rw [← q2] at hat'
    obtain ⟨x'', y1, y2⟩ := r6 x' a' hat'
    have hq := hQ x'' a' y2
    rw [y1, ← r3] at hq
    rcases q3 with ⟨k1, k2⟩ | ⟨k1, k2⟩
    · rw [k1]
      rw [k2] at hq
      simpa [Kind.ex, Exit.inBlock] using hq
    · rw [k2] at hq
      generalize lf0.1 = kk at k1 hq
      cases kk with
      | normal => exact hq
      | ret => exact hq
      | dead => exact hq
      | exit id' =>
        have : id' ≠ id := fun h => k1 (by rw [h])
        simpa [Kind.ex, Exit.inBlock, this] using hq
  | loop c ih =>
    intro d live st t e res h hr hn
    simp only [exec] at h
    obtain ⟨⟨L, tb⟩, h1, h⟩ := Option.bind_eq_some_iff.1 h
    have hbody := search_ok h1
    simp only [Option.ite_none_right_eq_some, Bool.and_eq_true, Bool.not_eq_true'] at h
    obtain ⟨⟨hfit0, hbd⟩, h⟩ := h
    obtain ⟨b, h2, rfl⟩ := Option.map_eq_some_iff.1 h
    have hLn : ∀ st' : List D, st'.length = L.m → (e ++ st').length = (L.st st.n).n := fun st' hl => by simp [Lay.st, hl, hn]
    have key : ∀ (o : Option (List D)) (tt : Tm Lf) (e0 : List D) (res : Res Lf), Run g.Φ o tt e0 res → ∀ st', o = some st' → tt = .loop d (mkFit g.B st.n L (freezes (thaws L g.B st) st)).1 b → e0 = e → st'.length = L.m →
        ∃ lf e', res = .leaf lf e' ∧ e'.take e.length = e ∧ e'.length = lf.2.n ∧ ∀ (x : Env) (a : Act) (Q : Exit → Act → World → Prop), At g (L.st st.n) (e ++ st') x a → (∀ x' a', At g lf.2 e' x' a' → Q lf.1.ex a' x'.w) → loopWp g.C.P c Q a x.w := by
      intro o tt e0 res hrun
      induction hrun with
      | loopL h3 =>
        intro st' ho ht he hl
        cases ho; cases ht; subst he
        obtain ⟨lf1, e1, t2, q1, q2, q3⟩ := run_bindN (T := d) (fun a t2 h => jumpOr_only a t2 h) (exec_never c _ _ _ _ hbody) hbd h2 h3
        obtain ⟨_, _, m1, m2, m3, m4⟩ := ih _ _ _ _ _ _ hbody q1 (hLn _ hl)
        cases m1
        unfold jumpOr at q2
        split at q2
        · simp only [Option.ite_none_right_eq_some, Option.some.injEq] at q2
          obtain ⟨_, rfl⟩ := q2
          cases q3
        · rename_i hk
          cases q2
          cases q3
          refine ⟨_, _, rfl, take_take_pre (by simp) m2, m3, fun x a Q hat hQ => loop_round (m4 x a _ hat fun x' a' hat' => then_ex (fun h => hk h) (hQ x' a' hat'))⟩
      | loopO hu h3 =>
        intro st' ho ht he hl
        cases ho; cases ht; subst he
        obtain ⟨lf1, e1, t2, q1, q2, q3⟩ := run_bindN (T := d) (fun a t2 h => jumpOr_only a t2 h) (exec_never c _ _ _ _ hbody) hbd h2 h3
        exact absurd (jumpOr_only lf1 t2 q2 _ _ _ q3) hu
      | loopJ h3 h4 _ ih2 =>
        intro st' ho ht he hl
        cases ho; cases ht; subst he
        obtain ⟨lf1, e1, t2, q1, q2, q3⟩ := run_bindN (T := d) (fun a t2 h => jumpOr_only a t2 h) (exec_never c _ _ _ _ hbody) hbd h2 h3
        obtain ⟨_, _, m1, m2, m3, m4⟩ := ih _ _ _ _ _ _ hbody q1 (hLn _ hl)
        cases m1
        unfold jumpOr at q2
        split at q2
        · rename_i hk
          simp only [Option.ite_none_right_eq_some, Option.some.injEq] at q2
          obtain ⟨hfit, rfl⟩ := q2
          cases q3
          obtain ⟨lf, e', z1, z2, z3, z4⟩ := ih2 _ rfl rfl rfl (by simp [dens, fitSt_len hfit])
          refine ⟨lf, e', z1, z2, z3, fun x a Q hat hQ => loop_round (m4 x a _ hat fun x' a' hat' => ?_)⟩
          rw [hk]
          obtain ⟨x2, hx2, hf⟩ := fits_at hat' hfit
          have hte := take_take_pre List.take_left m2
          rw [hn] at hte
          rw [hte] at hf
          rw [← hx2]
          exact z4 x2 a' Q hf hQ
        · cases q2
          cases q3
      | _ => intro _ ho; cases ho
    cases hr with
    | loop h3 =>
      obtain ⟨lf, e', z1, z2, z3, z4⟩ := key _ _ _ _ h3 _ rfl rfl rfl (by simp [dens, fitSt_len hfit0])
      refine ⟨lf, e', z1, z2, z3, fun x a Q hat hQ => wp_of_loopWp ?_⟩
      obtain ⟨x2, hx2, hf⟩ := fits_at hat hfit0
      rw [← hn, List.take_length] at hf
      rw [hn] at hf
      rw [← hx2]
      exact z4 x2 a Q hf hQ
  | _ => intro d live st t e res h; simp [exec] at h

end
end Glx
namespace Glx
open Go

/-- one result -/
def resSem (tmps : Array Value) : ResultVar → Sem Value
  | .tmp t => pure (tmps.getD t undef)
  | .cell a t => do loadVar t (← asAddr (tmps.getD a undef))

def tupOf : List Value → Value
  | [v] => v
  | l => .tuple l.toArray

theorem run_results {P : Program} {w : World} {fn : Func} {tmps : Array Value} {rs : List ResultVar} {vs : List Value} (h : fn.results.toList = rs) (hv : rs.length = vs.length ∧ ∀ (i : Nat) (r : ResultVar) (v : Value), rs[i]? = some r → vs[i]? = some v → (resSem tmps r).run P w = .ok v w) (hn : rs.length ≤ 4) :
    (results fn tmps).run P w = .ok (tupOf vs) w := by
  have h1 : fn.results = rs.toArray := by rw [← h]
  have hf : (results fn tmps) = (do let vs ← fn.results.mapM (resSem tmps); pure (if h : vs.size = 1 then vs[0] else .tuple vs)) := rfl
  rw [hf, h1]
  obtain ⟨hl, hv⟩ := hv
  clear h h1
  match rs, vs, hl, hn, hv with
  | [], [], _, _, _ => simp [tupOf]
  | [a], [v], _, _, hv =>
    have := hv 0 a v rfl rfl
    simp [tupOf, this]
  | [a, b], [v, u], _, _, hv =>
    have k0 := hv 0 a v rfl rfl
    have k1 := hv 1 b u rfl rfl
    simp [tupOf, k0, k1]
  | [a, b, c], [v, u, z], _, _, hv =>
    have k0 := hv 0 a v rfl rfl
    have k1 := hv 1 b u rfl rfl
    have k2 := hv 2 c z rfl rfl
    simp [tupOf, k0, k1, k2]
  | [a, b, c, d], [v, u, z, y], _, _, hv =>
    have k0 := hv 0 a v rfl rfl
    have k1 := hv 1 b u rfl rfl
    have k2 := hv 2 c z rfl rfl
    have k3 := hv 3 d y rfl rfl
    simp [tupOf, k0, k1, k2, k3]
  | _ :: _ :: _ :: _ :: _ :: _, _, _, h, _ => simp only [List.length_cons] at h; omega

def res1 (P : Program) (H : List SObj) (S : List Slot) : ResultVar → Option S1
  | .tmp t => (S[t]?).bind Slot.s1
  | .cell a t => ((S[a]?).bind Slot.sv).bind fun s => if sure H s = true then symLoad P H t s else none

def resAll (P : Program) (H : List SObj) (S : List Slot) : List ResultVar → Option (List S1)
  | [] => some []
  | r :: l => (res1 P H S r).bind fun s => (resAll P H S l).map (s :: ·)

def tupS : List S1 → Slot
  | [s] => .v s
  | l => .tup l

theorem res1_ok {x : Env} {w0 : World} {M : Nat → Prop} (hs : Sat x w0 M) {S : List Slot} {tmps : Array Value} (hS : Slots x S tmps) {r : ResultVar} {s : S1} (h : res1 x.P x.H S r = some s) : ∃ v, (resSem tmps r).run x.P x.w = .ok v x.w ∧ G1 x s v := by
  cases r with
  | tmp t =>
    obtain ⟨sl, h1, h2⟩ := Option.bind_eq_some_iff.1 h
    exact ⟨_, rfl, Slot.s1_ok h2 (hS.2 t sl h1)⟩
  | cell a t =>
    obtain ⟨sv, h1, h2⟩ := Option.bind_eq_some_iff.1 h
    obtain ⟨sl, h3, h4⟩ := Option.bind_eq_some_iff.1 h1
    simp only [Option.ite_none_right_eq_some] at h2
    have hg := Slot.sv_ok h4 (hS.2 a sl h3)
    obtain ⟨v, h5, h6⟩ := symLoad_ok hs h2.2 hg
    refine ⟨v, ?_, h6⟩
    rcases sure_ok h2.1 hg with ⟨b, c, hv⟩ | ⟨f, b, c, hv⟩
    · rw [hv] at h5
      simp only [resSem, hv, asAddr, Sem.run_bind, Sem.run_pure, Result.andThen_ok]
      simpa only [Instr.loadAt, Instr.sureAddr, Sem.run_bind, Sem.run_pure, Result.andThen_ok] using h5
    · exfalso
      rw [hv] at h5
      simp [Instr.loadAt, Instr.sureAddr] at h5

theorem resAll_ok {x : Env} {w0 : World} {M : Nat → Prop} (hs : Sat x w0 M) {S : List Slot} {tmps : Array Value} (hS : Slots x S tmps) : ∀ {rs : List ResultVar} {l : List S1}, resAll x.P x.H S rs = some l →
    ∃ vs : List Value, rs.length = vs.length ∧ l.length = vs.length ∧ (∀ (i : Nat) (r : ResultVar) (v : Value), rs[i]? = some r → vs[i]? = some v → (resSem tmps r).run x.P x.w = .ok v x.w) ∧ ∀ (i : Nat) (s : S1), l[i]? = some s → G1 x s (vs.getD i undef)
  | [], l, h => by cases h; exact ⟨[], rfl, rfl, fun i r v hi => by simp at hi, fun i s hi => by simp at hi⟩
  | r :: rs, l, h => by
    obtain ⟨s, h1, h⟩ := Option.bind_eq_some_iff.1 h
    obtain ⟨l', h2, rfl⟩ := Option.map_eq_some_iff.1 h
    obtain ⟨v, h3, h4⟩ := res1_ok hs hS h1
    obtain ⟨vs, k1, k2, k3, k4⟩ := resAll_ok hs hS h2
    refine ⟨v :: vs, by simp [k1], by simp [k2], fun i r' v' hi hv => ?_, fun i s' hi => ?_⟩
    · cases i with
      | zero => simp only [List.getElem?_cons_zero, Option.some.injEq] at hi hv; subst hi hv; exact h3
      | succ i => exact k3 i r' v' (by simpa using hi) (by simpa using hv)
    · cases i with
      | zero => simp only [List.getElem?_cons_zero, Option.some.injEq] at hi; subst hi; simpa using h4
      | succ i => simpa using k4 i s' (by simpa using hi)

theorem tup_ok {x : Env} {l : List S1} {vs : List Value} (h1 : l.length = vs.length) (h2 : ∀ (i : Nat) (s : S1), l[i]? = some s → G1 x s (vs.getD i undef)) : GS x (tupS l) (tupOf vs) := by
  match l, vs, h1 with
  | [], [], _ => exact ⟨_, rfl, rfl, fun j s hj => by simp at hj⟩
  | [s], [v], _ => exact h2 0 s rfl
  | s :: s' :: l, v :: v' :: vs, h1 => exact ⟨_, rfl, by simpa using h1.symm, fun j t hj => by simpa [List.getD_eq_getElem?_getD] using h2 j t hj⟩

def Sig.lay (s : Sig) : Lay := ⟨[s.outS], s.outH, s.outN⟩

/-- a leaf that leaves the function -/
def outOf (P : Program) (s : Sig) (rs : List ResultVar) (lf : Lf) : Option (Tm (List Ex)) :=
  match lf.1 with
  | .exit _ => none
  | .dead => some (.guard (.blit false) (.leaf []))
  | _ => (resAll P lf.2.H lf.2.S rs).bind fun rl =>
    let st : St := ⟨[tupS rl], lf.2.H, lf.2.n⟩
    let st := freezes (thaws s.lay s.inH.length st) st
    let p := mkFit s.inH.length 0 s.lay st
    if fitSt P s.inH.length 0 s.lay p.1 p.2 st = true then some (.leaf p.1) else none

def resBits : List ResultVar → Nat
  | [] => 0
  | .tmp t :: l => 2 ^ t ||| resBits l
  | .cell a _ :: l => 2 ^ a ||| resBits l

def fnTm (C : Cfg) (s : Sig) (ntmps : Nat) (rs : List ResultVar) (body : Code) : Option (Tm (List Ex)) :=
  if rs.length ≤ 4 ∧ s.inH.all SObj.born = true then
    (exec C s.inH.length body 0 (resBits rs) ⟨s.inS ++ List.replicate (ntmps - s.inS.length) skipSlot, s.inH, s.inN⟩).bind fun t => t.bindO (outOf C.P s rs)
  else none

noncomputable def fnDen (Φ : Nat → List D → Option (List D)) (t : Tm (List Ex)) (as : List D) : Option (List D) := t.den Φ (fun us e => some (dens e us)) (fun _ _ => none) as

theorem impl_of {C : Cfg} {Φ : Nat → List D → Option (List D)} (hsig : SigOk C Φ) (hmix : C.P.follows .mixedOrders = true) {K : FuncId} {fn : Func} {body : Code} (hf : C.P.funcs[K]? = some fn) (hb : fn.body = some body) {s : Sig} {t : Tm (List Ex)}
    (h : fnTm C s fn.ntmps fn.results.toList body = some t) : Impl C.P K s (fnDen Φ t) := by
  intro x args hP hH he hsat hargs hslots r hr
  unfold fnTm at h
  simp only [Option.ite_none_right_eq_some, List.all_eq_true] at h
  obtain ⟨⟨hrl, hborn⟩, h⟩ := h
  obtain ⟨t1, h2, h⟩ := Option.bind_eq_some_iff.1 h
  obtain ⟨res, hrun, hends⟩ := run_of_den t _ _ hr
  have hnl : ∀ (lf : Lf) (t2 : Tm (List Ex)), outOf C.P s fn.results.toList lf = some t2 → Never Φ t2 := by
    intro lf t2 ho
    unfold outOf at ho
    split at ho
    · cases ho
    · cases ho
      intro e u ds hr
      cases hr with
      | guard hc _ => cases hc
    · obtain ⟨q, _, ho⟩ := Option.bind_eq_some_iff.1 ho
      simp only [Option.ite_none_right_eq_some, Option.some.injEq] at ho
      obtain ⟨_, rfl⟩ := ho
      exact never_leaf
  obtain ⟨lf, e1, t2, q1, q2, q3⟩ := run_bind0 hnl (exec_never body _ _ _ _ h2) h hrun
  let g : Gl := ⟨C, Φ, x.w, Mof x, x.I, x.ν, s.inH.length⟩
  obtain ⟨_, _, m1, m2, m3, m4⟩ := exec_ok (g := g) hsig hmix body _ _ _ t1 x.e _ h2 q1 he
  cases m1
  unfold outOf at q2
  have hkind : lf.1 = .normal ∨ lf.1 = .ret := by
    generalize lf.1 = k at q2
    cases k with
    | normal => exact .inl rfl
    | ret => exact .inr rfl
    | exit id => cases q2
    | dead =>
      cases q2
      cases q3 with
      | guard hc _ => cases hc
  have q2' : ((resAll C.P lf.2.H lf.2.S fn.results.toList).bind fun rl =>
      if fitSt C.P s.inH.length 0 s.lay (mkFit s.inH.length 0 s.lay (freezes (thaws s.lay s.inH.length ⟨[tupS rl], lf.2.H, lf.2.n⟩) ⟨[tupS rl], lf.2.H, lf.2.n⟩)).1 (mkFit s.inH.length 0 s.lay (freezes (thaws s.lay s.inH.length ⟨[tupS rl], lf.2.H, lf.2.n⟩) ⟨[tupS rl], lf.2.H, lf.2.n⟩)).2 (freezes (thaws s.lay s.inH.length ⟨[tupS rl], lf.2.H, lf.2.n⟩) ⟨[tupS rl], lf.2.H, lf.2.n⟩) = true then some (Tm.leaf (mkFit s.inH.length 0 s.lay (freezes (thaws s.lay s.inH.length ⟨[tupS rl], lf.2.H, lf.2.n⟩) ⟨[tupS rl], lf.2.H, lf.2.n⟩)).1) else none) = some t2 := by
    rcases hkind with hk | hk <;> rw [hk] at q2 <;> exact q2
  obtain ⟨rl, hsl, q2'⟩ := Option.bind_eq_some_iff.1 q2'
  generalize hsl2 : tupS rl = sl at q2'
  simp only [Option.ite_none_right_eq_some, Option.some.injEq] at q2'
  obtain ⟨hfit, rfl⟩ := q2'
  cases q3
  simp only [Ends, Option.some.injEq] at hends
  have hlen : r.length = s.outN := by rw [← hends]; simpa [dens, Sig.lay] using fitSt_len hfit
  refine ⟨hlen, calls_of_wp hf hb ?_⟩
  have hinit : At g ⟨s.inS ++ List.replicate (fn.ntmps - s.inS.length) skipSlot, s.inH, s.inN⟩ x.e x { tmps := args ++ Array.replicate (fn.ntmps - args.size) undef, defers := [] } := by
    refine ⟨hP, rfl, he, hH, hsat, ⟨by simp [hargs], fun i t hi => ?_⟩, rfl, fun _ h => h, fun _ h => .inl h, fun o ho => ⟨?_, fun _ _ _ _ => rfl⟩⟩
    · rcases Nat.lt_or_ge i s.inS.length with hlt | hge
      · simp only at hi
        rw [List.getElem?_append_left hlt] at hi
        have := hslots i t hi
        have hia : i < args.size := by omega
        simpa [Array.getD_eq_getD_getElem?, Array.getElem?_append_left hia] using this
      · simp only at hi
        rw [List.getElem?_append_right hge] at hi
        have := List.mem_of_getElem? hi
        rw [List.mem_replicate] at this
        rw [this.2]
        trivial
    · have ho' : o < s.inH.length := ho
      have : look s.inH o = s.inH[o] := by simp [look, ho']
      show (look s.inH o).born = true
      rw [this]
      exact hborn _ (List.getElem_mem ho')
  refine m4 x _ _ hinit fun x' a' hat => ?_
  have hsl' := hsl
  rw [← hat.H, ← hat.P] at hsl'
  obtain ⟨vs, v1, v2, v3, v4⟩ := resAll_ok hat.sat hat.slots hsl'
  have hat' : At g ⟨[sl], lf.2.H, lf.2.n⟩ e1 x' { tmps := #[tupOf vs], defers := [] } :=
    ⟨hat.P, hat.env, hat.n, hat.H, hat.sat, ⟨rfl, fun i t hi => by
      cases i with
      | zero => simp only [List.getElem?_cons_zero, Option.some.injEq] at hi; subst hi; rw [← hsl2]; exact tup_ok v2 v4
      | succ i => simp at hi⟩, rfl, hat.I, hat.back, hat.base⟩
  obtain ⟨yf, hyf, hfin⟩ := fits_at hat' hfit
  rw [List.take_zero, List.nil_append, hends] at hfin
  have hgoal : bodyPost C.P fn (fun e w' => ∃ v y, e = .returned v ∧ y.w = w' ∧ y.e = r ∧ Left s x y ∧ GS y s.outS v) .ret a' x'.w := by
    refine ⟨hat.defers, _, (by have := run_results (fn := fn) rfl ⟨v1, v3⟩ hrl; rw [hat.P] at this; exact this), _, yf, rfl, hyf, hfin.env, ⟨?_, hfin.H, hfin.sat, hfin.I, hfin.back, fun o T l fz hl ho => ?_⟩, ?_⟩
    · exact hfin.P.trans hP.symm
    · exact (hfin.base o ho).2 T l fz hl
    · exact hfin.slots.2 0 _ rfl
  rcases hkind with hk | hk <;> rw [hk] <;> exact hgoal

end Glx
namespace Glx
open Go

section
variable {R : Type}

def Le {α : Type} (g g' : α → Option R) : Prop := ∀ x r, g x = some r → g' x = some r
def Mono (F : (List D → Option R) → List D → Option R) : Prop := ∀ g g', Le g g' → Le (F g) (F g')

theorem iter_le {F F' : (List D → Option R) → List D → Option R} (hF : Mono F) (h : ∀ g, Le (F g) (F' g)) : ∀ n, Le (iter F n) (iter F' n)
  | 0 => fun _ _ h => by cases h
  | n + 1 => fun st r hr => h _ st r (hF _ _ (iter_le hF h n) st r hr)

theorem iter_succ {F : (List D → Option R) → List D → Option R} (hF : Mono F) : ∀ n, Le (iter F n) (iter F (n + 1))
  | 0 => fun _ _ h => by cases h
  | n + 1 => hF _ _ (iter_succ hF n)

theorem iter_add {F : (List D → Option R) → List D → Option R} (hF : Mono F) (n : Nat) : ∀ k, Le (iter F n) (iter F (n + k))
  | 0 => fun _ _ h => h
  | k + 1 => fun st r h => iter_succ hF (n + k) st r (iter_add hF n k st r h)

theorem fix_of_iter {F : (List D → Option R) → List D → Option R} (hF : Mono F) {n : Nat} {st : List D} {r : R} (h : iter F n st = some r) : fix F st = some r := by
  have hex : ∃ n, (iter F n st).isSome = true := ⟨n, by rw [h]; rfl⟩
  unfold fix
  rw [dif_pos hex]
  have hc := hex.choose_spec
  generalize hex.choose = m at hc
  obtain ⟨r', hr'⟩ := Option.isSome_iff_exists.1 hc
  have h1 := iter_add hF n m st r h
  have h2 := iter_add hF m n st r' hr'
  rw [Nat.add_comm m n, h1] at h2
  rw [hr', h2]

theorem upd_le {K K' : Nat → List D → Option R} (hK : ∀ t, Le (K t) (K' t)) {k k' : List D → Option R} (hk : Le k k') (t : Nat) : ∀ u, Le (upd K t k u) (upd K' t k' u) := by
  intro u
  unfold upd
  split
  · exact hk
  · exact hK u

theorem den_mono {L : Type} {Φ Φ' : Nat → List D → Option (List D)} (hΦ : ∀ f, Le (Φ f) (Φ' f)) {kl : L → List D → Option R} : ∀ (t : Tm L) (K K' : Nat → List D → Option R), (∀ u, Le (K u) (K' u)) → Le (t.den Φ kl K) (t.den Φ' kl K') := by
  intro t
  induction t generalizing Φ Φ' with
  | leaf x => intro K K' _ e r h; exact h
  | jump t outs => intro K K' hK e r h; exact hK t _ r h
  | guard c k ih =>
    intro K K' hK e r h
    simp only [Tm.den] at h ⊢
    split at h
    · rename_i hc; rw [if_pos hc]; exact ih hΦ K K' hK e r h
    · cases h
  | letx x k ih => intro K K' hK e r h; exact ih hΦ K K' hK _ r h
  | call f args k ih =>
    intro K K' hK e r h
    simp only [Tm.den] at h ⊢
    obtain ⟨ds, h1, h2⟩ := Option.bind_eq_some_iff.1 h
    rw [hΦ f _ _ h1]
    exact ih hΦ K K' hK _ r h2
  | ite c a b iha ihb =>
    intro K K' hK e r h
    simp only [Tm.den] at h ⊢
    split at h
    · rename_i hc; rw [if_pos hc]; exact iha hΦ K K' hK e r h
    · rename_i hc; rw [if_neg hc]; exact ihb hΦ K K' hK e r h
  | join t m k ihm ihk =>
    intro K K' hK e r h
    exact ihm hΦ _ _ (upd_le hK (fun ds r h => ihk hΦ K K' hK _ r h) t) e r h
  | loop t init body ih =>
    intro K K' hK e r h
    simp only [Tm.den] at h ⊢
    have hF : ∀ (Φ : Nat → List D → Option (List D)) (K : Nat → List D → Option R), Mono (fun rec st => body.den Φ kl (upd K t rec) (e ++ st)) := fun Φ K g g' hg st r h => ih (fun f x r h => h) _ _ (upd_le (fun u x r h => h) hg t) _ r h
    obtain ⟨n, hn⟩ := fix_some h
    refine fix_of_iter (n := n) (hF Φ' K') (iter_le (hF Φ K) (fun g st r h => ?_) n _ r hn)
    exact ih hΦ _ _ (upd_le hK (fun _ _ h => h) t) _ r h

/-- a meaning that is reckoned: so many rounds of each loop -/
def Tm.ev {L : Type} (m : Nat) (Φ : Nat → List D → Option (List D)) (kl : L → List D → Option R) : Tm L → (Nat → List D → Option R) → List D → Option R
  | .leaf x, _, e => kl x e
  | .jump t outs, K, e => K t (dens e outs)
  | .guard c k, K, e => match (c.den e).bool with
    | true => k.ev m Φ kl K e
    | false => none
  | .letx x k, K, e => k.ev m Φ kl K (e ++ [x.den e])
  | .call f args k, K, e => match Φ f (dens e args) with
    | some ds => k.ev m Φ kl K (e ++ ds)
    | none => none
  | .ite c a b, K, e => match (c.den e).bool with
    | true => a.ev m Φ kl K e
    | false => b.ev m Φ kl K e
  | .join t k1 k, K, e => k1.ev m Φ kl (upd K t fun ds => k.ev m Φ kl K (e ++ ds)) e
  | .loop t init body, K, e => iter (fun rec st => body.ev m Φ kl (upd K t rec) (e ++ st)) m (dens e init)

theorem ev_den {L : Type} {m : Nat} {Φ : Nat → List D → Option (List D)} {kl : L → List D → Option R} : ∀ (t : Tm L) (K K' : Nat → List D → Option R), (∀ u, Le (K u) (K' u)) → Le (t.ev m Φ kl K) (t.den Φ kl K') := by
  intro t
  induction t with
  | leaf x => intro K K' _ e r h; exact h
  | jump t outs => intro K K' hK e r h; exact hK t _ r h
  | guard c k ih =>
    intro K K' hK e r h
    simp only [Tm.ev] at h
    simp only [Tm.den]
    split at h
    · rename_i hc; rw [if_pos hc]; exact ih K K' hK e r h
    · cases h
  | letx x k ih => intro K K' hK e r h; exact ih K K' hK _ r h
  | call f args k ih =>
    intro K K' hK e r h
    simp only [Tm.ev] at h
    simp only [Tm.den]
    split at h
    · rename_i ds h1; rw [h1]; exact ih K K' hK _ r h
    · cases h
  | ite c a b iha ihb =>
    intro K K' hK e r h
    simp only [Tm.ev] at h
    simp only [Tm.den]
    split at h
    · rename_i hc; rw [if_pos hc]; exact iha K K' hK e r h
    · rename_i hc; rw [if_neg (by rw [hc]; decide)]; exact ihb K K' hK e r h
  | join t k1 k ihm ihk =>
    intro K K' hK e r h
    exact ihm _ _ (upd_le hK (fun ds r h => ihk K K' hK _ r h) t) e r h
  | loop t init body ih =>
    intro K K' hK e r h
    simp only [Tm.ev] at h
    simp only [Tm.den]
    have hF : Mono (fun rec st => body.den Φ kl (upd K' t rec) (e ++ st)) := fun g g' hg st r h => den_mono (fun f x r h => h) body _ _ (upd_le (fun u x r h => h) hg t) _ r h
    have key : ∀ n, Le (iter (fun rec st => body.ev m Φ kl (upd K t rec) (e ++ st)) n) (iter (fun rec st => body.den Φ kl (upd K' t rec) (e ++ st)) n) := by
      intro n
      induction n with
      | zero => intro _ _ h; cases h
      | succ n ihn => intro st r h; exact ih _ _ (upd_le hK ihn t) _ r h
    exact fix_of_iter hF (key m _ r h)

end
end Glx
namespace Glx
open Go

/-- the functions' terms, and what is given of others -/
structure Book where
  C : Cfg
  tm : Nat → Option (Tm (List Ex))
  base : Nat → Option (List D → Option (List D))

def Book.cut (B : Book) (cid : Nat) (r : List D) : Option (List D) := match B.C.sig cid with
  | some s => if r.length = s.outN then some r else none
  | none => none

/-- what a contract says, so many calls deep -/
noncomputable def Book.phi (B : Book) : Nat → Nat → List D → Option (List D)
  | 0, _, _ => none
  | n + 1, cid, as => (match B.base cid with
    | some g => g as
    | none => match B.tm cid with
      | some t => fnDen (B.phi n) t as
      | none => none).bind (B.cut cid)

structure BookOk (B : Book) : Prop where
  mix : B.C.P.follows .mixedOrders = true
  enters : ∀ f, B.C.of f ≠ [] → ∀ args w, (callFunc f args).run B.C.P w = .ok (.enter f args) w
  own : ∀ f cid s, cid ∈ B.C.of f → B.C.sig cid = some s → (∃ fn body t, B.base cid = none ∧ B.tm cid = some t ∧ B.C.P.funcs[f]? = some fn ∧ fn.body = some body ∧ fnTm B.C s fn.ntmps fn.results.toList body = some t) ∨
    (∃ g, B.base cid = some g ∧ Impl B.C.P f s g)

theorem Book.sigOk {B : Book} (h : BookOk B) : ∀ n, SigOk B.C (B.phi n)
  | 0 => ⟨h.enters, fun f cid s _ _ x args _ _ _ _ _ _ r hr => (by cases hr), fun f s _ as ds hr => (by cases hr)⟩
  | n + 1 => by
    have hcut : ∀ cid s as r, B.C.sig cid = some s → B.phi (n + 1) cid as = some r → r.length = s.outN ∧ (match B.base cid with | some g => g as | none => match B.tm cid with | some t => fnDen (B.phi n) t as | none => none) = some r := by
      intro cid s as r hs hr
      simp only [Book.phi] at hr
      obtain ⟨r', h1, h2⟩ := Option.bind_eq_some_iff.1 hr
      simp only [Book.cut, hs, Option.ite_none_right_eq_some, Option.some.injEq] at h2
      obtain ⟨h3, rfl⟩ := h2
      exact ⟨h3, h1⟩
    refine ⟨h.enters, fun f cid s hmem hs x args h1 h2 h3 h4 h5 h6 r hr => ?_, fun cid s hs as ds hr => (hcut cid s as ds hs hr).1⟩
    obtain ⟨_, k2⟩ := hcut cid s x.e r hs hr
    rcases h.own f cid s hmem hs with ⟨fn, body, t, q1, q2, q3, q4, q5⟩ | ⟨g, q1, q2⟩
    · simp only [q1, q2] at k2
      exact impl_of (Book.sigOk h n) h.mix q3 q4 q5 x args h1 h2 h3 h4 h5 h6 r k2
    · simp only [q1] at k2
      exact q2 x args h1 h2 h3 h4 h5 h6 r k2

/-- the same, reckoned -/
def Book.ev (B : Book) (m : Nat) : Nat → Nat → List D → Option (List D)
  | 0, _, _ => none
  | n + 1, cid, as => match (match B.base cid with
    | some g => g as
    | none => match B.tm cid with
      | some t => t.ev m (B.ev m n) (fun us e => some (dens e us)) (fun _ _ => none) as
      | none => none) with
    | some r => B.cut cid r
    | none => none

theorem Book.ev_phi {B : Book} {m : Nat} : ∀ n cid, Le (B.ev m n cid) (B.phi n cid)
  | 0, _ => fun _ _ h => by cases h
  | n + 1, cid => by
    intro as r h
    simp only [Book.ev] at h
    split at h
    · rename_i r0 h0
      simp only [Book.phi]
      have : (match B.base cid with | some g => g as | none => match B.tm cid with | some t => fnDen (B.phi n) t as | none => none) = some r0 := by
        cases hb : B.base cid with
        | some g => rw [hb] at h0; exact h0
        | none =>
          rw [hb] at h0
          cases ht : B.tm cid with
          | none => rw [ht] at h0; cases h0
          | some t =>
            rw [ht] at h0
            simp only at h0 ⊢
            exact den_mono (Book.ev_phi n) t _ _ (fun _ _ _ h => h) as r0 (ev_den t _ _ (fun _ _ _ h => h) as r0 h0)
      rw [this]
      exact h
    · cases h

end Glx
namespace Glx
open Go

structure Ent where
  f : FuncId
  cid : Nat
  s : Sig
  t : Option (Tm (List Ex))
  g : Option (List D → Option (List D))

def cfgOf (P : Program) (es : List Ent) : Cfg := ⟨P, fun c => (es.find? fun e => e.cid == c).map (·.s), fun f => (es.filter fun e => e.f == f).map (·.cid)⟩
def bookOf (P : Program) (es : List Ent) : Book := ⟨cfgOf P es, fun c => (es.find? fun e => e.cid == c).bind (·.t), fun c => (es.find? fun e => e.cid == c).bind (·.g)⟩

structure EntOk (P : Program) (C : Cfg) (e : Ent) : Prop where
  enters : ∃ fn, P.funcs[e.f]? = some fn ∧ fn.body.isNone = false ∧ (fn.name == "runtime.NumGoroutine") = false
  own : e.g = none → ∃ fn body t, e.t = some t ∧ P.funcs[e.f]? = some fn ∧ fn.body = some body ∧ fnTm C e.s fn.ntmps fn.results.toList body = some t
  base : ∀ g, e.g = some g → Impl P e.f e.s g

theorem find_of_nodup : ∀ {es : List Ent}, nodup (es.map (·.cid)) = true → ∀ e ∈ es, es.find? (fun x => x.cid == e.cid) = some e
  | [], _, _, h => by cases h
  | a :: l, hn, e, h => by
    simp only [List.map_cons, nodup, Bool.and_eq_true, Bool.not_eq_true', List.contains_eq_mem, decide_eq_false_iff_not] at hn
    rw [List.find?_cons]
    by_cases hc : a.cid = e.cid
    · rcases List.mem_cons.1 h with rfl | h
      · simp
      · exact absurd (hc ▸ List.mem_map_of_mem h) hn.1
    · rcases List.mem_cons.1 h with rfl | h
      · exact absurd rfl hc
      · have : (a.cid == e.cid) = false := by simp [hc]
        rw [this]
        exact find_of_nodup hn.2 e h

theorem bookOk_of {P : Program} {es : List Ent} (hmix : P.follows .mixedOrders = true) (hn : nodup (es.map (·.cid)) = true) (h : ∀ e ∈ es, EntOk P (cfgOf P es) e) : BookOk (bookOf P es) := by
  have hof : ∀ f cid, cid ∈ (cfgOf P es).of f → ∃ e ∈ es, e.f = f ∧ e.cid = cid := by
    intro f cid hc
    simp only [cfgOf, List.mem_map, List.mem_filter, beq_iff_eq] at hc
    obtain ⟨e, ⟨h1, h2⟩, h3⟩ := hc
    exact ⟨e, h1, h2, h3⟩
  refine ⟨hmix, fun f hf args w => ?_, fun f cid s hmem hs => ?_⟩
  · cases hq : (cfgOf P es).of f with
    | nil => exact absurd hq hf
    | cons c l =>
      obtain ⟨e, h1, rfl, _⟩ := hof f c (by rw [hq]; exact List.mem_cons_self ..)
      obtain ⟨fn, k1, k2, k3⟩ := (h e h1).enters
      have hb : (bookOf P es).C.P = P := rfl
      rw [hb]
      have k4 : fn.body ≠ none := by intro h; rw [h] at k2; cases k2
      have k5 : fn.name ≠ "runtime.NumGoroutine" := by intro h; rw [h] at k3; simp at k3
      simp [callFunc, k1, k4, k5]
  · obtain ⟨e, h1, rfl, rfl⟩ := hof f cid hmem
    have hfind := find_of_nodup hn e h1
    have hs' : s = e.s := by
      have : (cfgOf P es).sig e.cid = some s := hs
      simp only [cfgOf, hfind, Option.map_some, Option.some.injEq] at this
      exact this.symm
    subst hs'
    cases hg : e.g with
    | none =>
      obtain ⟨fn, body, t, k1, k2, k3, k4⟩ := (h e h1).own hg
      exact .inl ⟨fn, body, t, by simp [bookOf, hfind, hg], by simp [bookOf, hfind, k1], k2, k3, k4⟩
    | some g => exact .inr ⟨g, by simp [bookOf, hfind, hg], (h e h1).base g hg⟩

end Glx
namespace Glx
open Go

theorem impl_pure {P : Program} {K : FuncId} {s : Sig} {f : List D → Option (List D)} (ho : s.outH = [])
    (h : ∀ (x : Env) (args : Array Value), x.P = P → x.e.length = s.inN → args.size = s.inS.length → (∀ i t, s.inS[i]? = some t → GS x t (args.getD i undef)) → ∀ r, f x.e = some r →
      r.length = s.outN ∧ Calls P K args x.w fun e w' => w' = x.w ∧ ∃ v, e = .returned v ∧ ∀ y : Env, y.P = x.P → y.e = r → y.w = x.w → y.I = x.I → GS y s.outS v) : Impl P K s f := by
  intro x args hP hH he hsat hargs hslots r hr
  obtain ⟨h1, h2⟩ := h x args hP he hargs hslots r hr
  refine ⟨h1, h2.mono ?_⟩
  rintro e w' ⟨rfl, v, rfl, hv⟩
  have hl : ∀ o, look ([] : List SObj) o = .unborn := fun o => rfl
  refine ⟨v, { x with H := [], e := r }, rfl, rfl, rfl, ⟨rfl, ho.symm, ⟨fun o => ?_, fun o o' b _ h1 => ?_, hsat.ibound, fun o b h1 => ?_, Fr.refl _ _, hsat.glob⟩, fun _ h => h, fun _ h => .inl h, fun o T l fz h => ?_⟩, hv _ rfl rfl rfl rfl⟩
  · show ObjOk _ o (look [] o)
    rw [hl]; trivial
  · rw [hl] at h1; cases h1
  · rw [hl] at h1; cases h1
  · rw [ho, hl] at h; cases h

/-- the same, where memory may have grown -/
theorem impl_below {P : Program} {K : FuncId} {s : Sig} {f : List D → Option (List D)} (ho : s.outH = [])
    (h : ∀ (x : Env) (args : Array Value), x.P = P → GlobOk x.P x.I x.w.heap → x.e.length = s.inN → args.size = s.inS.length → (∀ i t, s.inS[i]? = some t → GS x t (args.getD i undef)) → ∀ r, f x.e = some r →
      r.length = s.outN ∧ Calls P K args x.w fun e w' => RowKit.Below x.w.heap.size x.w w' ∧ ∃ v, e = .returned v ∧ ∀ y : Env, y.P = x.P → y.e = r → y.w = w' → y.I = x.I → GS y s.outS v) : Impl P K s f := by
  intro x args hP hH he hsat hargs hslots r hr
  obtain ⟨h1, h2⟩ := h x args hP hsat.glob he hargs hslots r hr
  refine ⟨h1, h2.mono ?_⟩
  rintro e w' ⟨hb, v, rfl, hv⟩
  have hl : ∀ o, look ([] : List SObj) o = .unborn := fun o => rfl
  refine ⟨v, { x with H := [], e := r, w := w' }, rfl, rfl, rfl, ⟨rfl, ho.symm, ⟨fun o => ?_, fun o o' b _ h1 => ?_, fun b h => Nat.lt_of_lt_of_le (hsat.ibound b h) hb.size, fun o b h1 => ?_, ⟨hb.os, hb.tape, hb.output, hb.size, fun b h _ => hb.block b h⟩, hsat.glob.mono (fun _ h => h) fun b h => hb.block b (hsat.ibound b h)⟩, fun _ h => h, fun _ h => .inl h, fun o T l fz h => ?_⟩, hv _ rfl rfl rfl rfl⟩
  · show ObjOk _ o (look [] o)
    rw [hl]; trivial
  · have : look ([] : List SObj) o = .unborn := hl o
    rw [this] at h1; cases h1
  · have : look ([] : List SObj) o = .unborn := hl o
    rw [this] at h1; cases h1
  · rw [ho, hl] at h; cases h

end Glx
