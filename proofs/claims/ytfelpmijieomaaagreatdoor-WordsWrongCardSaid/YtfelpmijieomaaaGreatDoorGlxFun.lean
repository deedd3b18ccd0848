/- A whole function: what its text's term means, it keeps. -/
import Derived.Test.YtfelpmijieomaaaGreatDoorGlxExecB
namespace Glx
open Go

/-- one result -/
def resSem (tmps : Array Value) : ResultVar → Sem Value
  | .tmp t => pure (tmps.getD t undef)
  | .cell a t => do loadVar t (← asAddr (tmps.getD a undef))

def tupOf : List Value → Value
  | [v] => v
  | l => .tuple l.toArray

theorem run_results {P : Program} {w : World} {fn : Func} {tmps : Array Value} {rs : List ResultVar} {vs : List Value} (h : fn.results.toList = rs) (hv : rs.length = vs.length ∧ ∀ (i : Nat) (r : ResultVar) (v : Value), rs[i]? = some r → vs[i]? = some v → (resSem tmps r).run P w = .ok v w) (hn : rs.length ≤ 4) :
    (results fn tmps).run P w = .ok (tupOf vs) w := by
  have h1 : fn.results = rs.toArray := by rw [← h]
  have hf : (results fn tmps) = (do let vs ← fn.results.mapM (resSem tmps); pure (if h : vs.size = 1 then vs[0] else .tuple vs)) := rfl
  rw [hf, h1]
  obtain ⟨hl, hv⟩ := hv
  clear h h1
  match rs, vs, hl, hn, hv with
  | [], [], _, _, _ => simp [tupOf]
  | [a], [v], _, _, hv =>
    have := hv 0 a v rfl rfl
    simp [tupOf, this]
  | [a, b], [v, u], _, _, hv =>
    have k0 := hv 0 a v rfl rfl
    have k1 := hv 1 b u rfl rfl
    simp [tupOf, k0, k1]
  | [a, b, c], [v, u, z], _, _, hv =>
    have k0 := hv 0 a v rfl rfl
    have k1 := hv 1 b u rfl rfl
    have k2 := hv 2 c z rfl rfl
    simp [tupOf, k0, k1, k2]
  | [a, b, c, d], [v, u, z, y], _, _, hv =>
    have k0 := hv 0 a v rfl rfl
    have k1 := hv 1 b u rfl rfl
    have k2 := hv 2 c z rfl rfl
    have k3 := hv 3 d y rfl rfl
    simp [tupOf, k0, k1, k2, k3]
  | _ :: _ :: _ :: _ :: _ :: _, _, _, h, _ => simp only [List.length_cons] at h; omega

def res1 (P : Program) (H : List SObj) (S : List Slot) : ResultVar → Option S1
  | .tmp t => (S[t]?).bind Slot.s1
  | .cell a t => ((S[a]?).bind Slot.sv).bind fun s => if sure H s = true then symLoad P H t s else none

def resAll (P : Program) (H : List SObj) (S : List Slot) : List ResultVar → Option (List S1)
  | [] => some []
  | r :: l => (res1 P H S r).bind fun s => (resAll P H S l).map (s :: ·)

def tupS : List S1 → Slot
  | [s] => .v s
  | l => .tup l

theorem res1_ok {x : Env} {w0 : World} {M : Nat → Prop} (hs : Sat x w0 M) {S : List Slot} {tmps : Array Value} (hS : Slots x S tmps) {r : ResultVar} {s : S1} (h : res1 x.P x.H S r = some s) : ∃ v, (resSem tmps r).run x.P x.w = .ok v x.w ∧ G1 x s v := by
  cases r with
  | tmp t =>
    obtain ⟨sl, h1, h2⟩ := Option.bind_eq_some_iff.1 h
    exact ⟨_, rfl, Slot.s1_ok h2 (hS.2 t sl h1)⟩
  | cell a t =>
    obtain ⟨sv, h1, h2⟩ := Option.bind_eq_some_iff.1 h
    obtain ⟨sl, h3, h4⟩ := Option.bind_eq_some_iff.1 h1
    simp only [Option.ite_none_right_eq_some] at h2
    have hg := Slot.sv_ok h4 (hS.2 a sl h3)
    obtain ⟨v, h5, h6⟩ := symLoad_ok hs h2.2 hg
    refine ⟨v, ?_, h6⟩
    rcases sure_ok h2.1 hg with ⟨b, c, hv⟩ | ⟨f, b, c, hv⟩
    · rw [hv] at h5
      simp only [resSem, hv, asAddr, Sem.run_bind, Sem.run_pure, Result.andThen_ok]
      simpa only [Instr.loadAt, Instr.sureAddr, Sem.run_bind, Sem.run_pure, Result.andThen_ok] using h5
    · exfalso
      rw [hv] at h5
      simp [Instr.loadAt, Instr.sureAddr] at h5

theorem resAll_ok {x : Env} {w0 : World} {M : Nat → Prop} (hs : Sat x w0 M) {S : List Slot} {tmps : Array Value} (hS : Slots x S tmps) : ∀ {rs : List ResultVar} {l : List S1}, resAll x.P x.H S rs = some l →
    ∃ vs : List Value, rs.length = vs.length ∧ l.length = vs.length ∧ (∀ (i : Nat) (r : ResultVar) (v : Value), rs[i]? = some r → vs[i]? = some v → (resSem tmps r).run x.P x.w = .ok v x.w) ∧ ∀ (i : Nat) (s : S1), l[i]? = some s → G1 x s (vs.getD i undef)
  | [], l, h => by cases h; exact ⟨[], rfl, rfl, fun i r v hi => by simp at hi, fun i s hi => by simp at hi⟩
  | r :: rs, l, h => by
    obtain ⟨s, h1, h⟩ := Option.bind_eq_some_iff.1 h
    obtain ⟨l', h2, rfl⟩ := Option.map_eq_some_iff.1 h
    obtain ⟨v, h3, h4⟩ := res1_ok hs hS h1
    obtain ⟨vs, k1, k2, k3, k4⟩ := resAll_ok hs hS h2
    refine ⟨v :: vs, by simp [k1], by simp [k2], fun i r' v' hi hv => ?_, fun i s' hi => ?_⟩
    · cases i with
      | zero => simp only [List.getElem?_cons_zero, Option.some.injEq] at hi hv; subst hi hv; exact h3
      | succ i => exact k3 i r' v' (by simpa using hi) (by simpa using hv)
    · cases i with
      | zero => simp only [List.getElem?_cons_zero, Option.some.injEq] at hi; subst hi; simpa using h4
      | succ i => simpa using k4 i s' (by simpa using hi)

theorem tup_ok {x : Env} {l : List S1} {vs : List Value} (h1 : l.length = vs.length) (h2 : ∀ (i : Nat) (s : S1), l[i]? = some s → G1 x s (vs.getD i undef)) : GS x (tupS l) (tupOf vs) := by
  match l, vs, h1 with
  | [], [], _ => exact ⟨_, rfl, rfl, fun j s hj => by simp at hj⟩
  | [s], [v], _ => exact h2 0 s rfl
  | s :: s' :: l, v :: v' :: vs, h1 => exact ⟨_, rfl, by simpa using h1.symm, fun j t hj => by simpa [List.getD_eq_getElem?_getD] using h2 j t hj⟩

def Sig.lay (s : Sig) : Lay := ⟨[s.outS], s.outH, s.outN⟩

/-- a leaf that leaves the function -/
def outOf (P : Program) (s : Sig) (rs : List ResultVar) (lf : Lf) : Option (Tm (List Ex)) :=
  match lf.1 with
  | .exit _ => none
  | .dead => some (.guard (.blit false) (.leaf []))
  | _ => (resAll P lf.2.H lf.2.S rs).bind fun rl =>
    let st : St := ⟨[tupS rl], lf.2.H, lf.2.n⟩
    let st := freezes (thaws s.lay s.inH.length st) st
    let p := mkFit s.inH.length 0 s.lay st
    if fitSt P s.inH.length 0 s.lay p.1 p.2 st = true then some (.leaf p.1) else none

def resBits : List ResultVar → Nat
  | [] => 0
  | .tmp t :: l => 2 ^ t ||| resBits l
  | .cell a _ :: l => 2 ^ a ||| resBits l

def fnTm (C : Cfg) (s : Sig) (ntmps : Nat) (rs : List ResultVar) (body : Code) : Option (Tm (List Ex)) :=
  if rs.length ≤ 4 ∧ s.inH.all SObj.born = true then
    (exec C s.inH.length body 0 (resBits rs) ⟨s.inS ++ List.replicate (ntmps - s.inS.length) skipSlot, s.inH, s.inN⟩).bind fun t => t.bindO (outOf C.P s rs)
  else none

noncomputable def fnDen (Φ : Nat → List D → Option (List D)) (t : Tm (List Ex)) (as : List D) : Option (List D) := t.den Φ (fun us e => some (dens e us)) (fun _ _ => none) as

theorem impl_of {C : Cfg} {Φ : Nat → List D → Option (List D)} (hsig : SigOk C Φ) (hmix : C.P.follows .mixedOrders = true) {K : FuncId} {fn : Func} {body : Code} (hf : C.P.funcs[K]? = some fn) (hb : fn.body = some body) {s : Sig} {t : Tm (List Ex)}
    (h : fnTm C s fn.ntmps fn.results.toList body = some t) : Impl C.P K s (fnDen Φ t) := by
  intro x args hP hH he hsat hargs hslots r hr
  unfold fnTm at h
  simp only [Option.ite_none_right_eq_some, List.all_eq_true] at h
  obtain ⟨⟨hrl, hborn⟩, h⟩ := h
  obtain ⟨t1, h2, h⟩ := Option.bind_eq_some_iff.1 h
  obtain ⟨res, hrun, hends⟩ := run_of_den t _ _ hr
  have hnl : ∀ (lf : Lf) (t2 : Tm (List Ex)), outOf C.P s fn.results.toList lf = some t2 → Never Φ t2 := by
    intro lf t2 ho
    unfold outOf at ho
    split at ho
    · cases ho
    · cases ho
      intro e u ds hr
      cases hr with
      | guard hc _ => cases hc
    · obtain ⟨q, _, ho⟩ := Option.bind_eq_some_iff.1 ho
      simp only [Option.ite_none_right_eq_some, Option.some.injEq] at ho
      obtain ⟨_, rfl⟩ := ho
      exact never_leaf
  obtain ⟨lf, e1, t2, q1, q2, q3⟩ := run_bind0 hnl (exec_never body _ _ _ _ h2) h hrun
  let g : Gl := ⟨C, Φ, x.w, Mof x, x.I, x.ν, s.inH.length⟩
  obtain ⟨_, _, m1, m2, m3, m4⟩ := exec_ok (g := g) hsig hmix body _ _ _ t1 x.e _ h2 q1 he
  cases m1
  unfold outOf at q2
  have hkind : lf.1 = .normal ∨ lf.1 = .ret := by
    generalize lf.1 = k at q2
    cases k with
    | normal => exact .inl rfl
    | ret => exact .inr rfl
    | exit id => cases q2
    | dead =>
      cases q2
      cases q3 with
      | guard hc _ => cases hc
  have q2' : ((resAll C.P lf.2.H lf.2.S fn.results.toList).bind fun rl =>
      if fitSt C.P s.inH.length 0 s.lay (mkFit s.inH.length 0 s.lay (freezes (thaws s.lay s.inH.length ⟨[tupS rl], lf.2.H, lf.2.n⟩) ⟨[tupS rl], lf.2.H, lf.2.n⟩)).1 (mkFit s.inH.length 0 s.lay (freezes (thaws s.lay s.inH.length ⟨[tupS rl], lf.2.H, lf.2.n⟩) ⟨[tupS rl], lf.2.H, lf.2.n⟩)).2 (freezes (thaws s.lay s.inH.length ⟨[tupS rl], lf.2.H, lf.2.n⟩) ⟨[tupS rl], lf.2.H, lf.2.n⟩) = true then some (Tm.leaf (mkFit s.inH.length 0 s.lay (freezes (thaws s.lay s.inH.length ⟨[tupS rl], lf.2.H, lf.2.n⟩) ⟨[tupS rl], lf.2.H, lf.2.n⟩)).1) else none) = some t2 := by
    rcases hkind with hk | hk <;> rw [hk] at q2 <;> exact q2
  obtain ⟨rl, hsl, q2'⟩ := Option.bind_eq_some_iff.1 q2'
  generalize hsl2 : tupS rl = sl at q2'
  simp only [Option.ite_none_right_eq_some, Option.some.injEq] at q2'
  obtain ⟨hfit, rfl⟩ := q2'
  cases q3
  simp only [Ends, Option.some.injEq] at hends
  have hlen : r.length = s.outN := by rw [← hends]; simpa [dens, Sig.lay] using fitSt_len hfit
  refine ⟨hlen, calls_of_wp hf hb ?_⟩
  have hinit : At g ⟨s.inS ++ List.replicate (fn.ntmps - s.inS.length) skipSlot, s.inH, s.inN⟩ x.e x { tmps := args ++ Array.replicate (fn.ntmps - args.size) undef, defers := [] } := by
    refine ⟨hP, rfl, he, hH, hsat, ⟨by simp [hargs], fun i t hi => ?_⟩, rfl, fun _ h => h, fun _ h => .inl h, fun o ho => ⟨?_, fun _ _ _ _ => rfl⟩⟩
    · rcases Nat.lt_or_ge i s.inS.length with hlt | hge
      · simp only at hi
        rw [List.getElem?_append_left hlt] at hi
        have := hslots i t hi
        have hia : i < args.size := by omega
        simpa [Array.getD_eq_getD_getElem?, Array.getElem?_append_left hia] using this
      · simp only at hi
        rw [List.getElem?_append_right hge] at hi
        have := List.mem_of_getElem? hi
        rw [List.mem_replicate] at this
        rw [this.2]
        trivial
    · have ho' : o < s.inH.length := ho
      have : look s.inH o = s.inH[o] := by simp [look, ho']
      show (look s.inH o).born = true
      rw [this]
      exact hborn _ (List.getElem_mem ho')
  refine m4 x _ _ hinit fun x' a' hat => ?_
  have hsl' := hsl
  rw [← hat.H, ← hat.P] at hsl'
  obtain ⟨vs, v1, v2, v3, v4⟩ := resAll_ok hat.sat hat.slots hsl'
  have hat' : At g ⟨[sl], lf.2.H, lf.2.n⟩ e1 x' { tmps := #[tupOf vs], defers := [] } :=
    ⟨hat.P, hat.env, hat.n, hat.H, hat.sat, ⟨rfl, fun i t hi => by
      cases i with
      | zero => simp only [List.getElem?_cons_zero, Option.some.injEq] at hi; subst hi; rw [← hsl2]; exact tup_ok v2 v4
      | succ i => simp at hi⟩, rfl, hat.I, hat.back, hat.base⟩
  obtain ⟨yf, hyf, hfin⟩ := fits_at hat' hfit
  rw [List.take_zero, List.nil_append, hends] at hfin
  have hgoal : bodyPost C.P fn (fun e w' => ∃ v y, e = .returned v ∧ y.w = w' ∧ y.e = r ∧ Left s x y ∧ GS y s.outS v) .ret a' x'.w := by
    refine ⟨hat.defers, _, (by have := run_results (fn := fn) rfl ⟨v1, v3⟩ hrl; rw [hat.P] at this; exact this), _, yf, rfl, hyf, hfin.env, ⟨?_, hfin.H, hfin.sat, hfin.I, hfin.back, fun o T l fz hl ho => ?_⟩, ?_⟩
    · exact hfin.P.trans hP.symm
    · exact (hfin.base o ho).2 T l fz hl
    · exact hfin.slots.2 0 _ rfl
  rcases hkind with hk | hk <;> rw [hk] <;> exact hgoal

end Glx
