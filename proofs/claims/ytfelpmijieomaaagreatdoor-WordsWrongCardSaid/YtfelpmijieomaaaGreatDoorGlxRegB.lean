/- A region: its operations by text, as a term; what a run of the term tells of any order. -/
import Derived.Test.YtfelpmijieomaaaGreatDoorGlxReg
namespace Glx
open Go

def prune (path : Cd) : Cd → Option Cd
  | [] => some []
  | (x, b) :: l => match tri path x with
    | some b' => if b' = b then prune path l else none
    | none => (prune path l).map ((x, b) :: ·)

theorem prune_some {path : Cd} {e : List D} (hp : Holds e path) : ∀ {l r : Cd}, prune path l = some r → (Holds e r ↔ Holds e l) ∧ ∀ c ∈ r, c ∈ l
  | [], r, h => by cases h; exact ⟨Iff.rfl, fun _ h => h⟩
  | (x, b) :: l, r, h => by
    simp only [prune] at h
    split at h
    · rename_i b' ht
      split at h
      · rename_i hb
        subst hb
        obtain ⟨h1, h2⟩ := prune_some hp h
        refine ⟨h1.trans ⟨fun h3 c hc => ?_, fun h3 c hc => h3 c (List.mem_cons_of_mem _ hc)⟩, fun c hc => List.mem_cons_of_mem _ (h2 c hc)⟩
        rcases List.mem_cons.1 hc with rfl | hc
        · exact tri_ok ht hp
        · exact h3 c hc
      · cases h
    · obtain ⟨r', h1, rfl⟩ := Option.map_eq_some_iff.1 h
      obtain ⟨h2, h3⟩ := prune_some hp h1
      refine ⟨⟨fun h4 c hc => ?_, fun h4 c hc => ?_⟩, fun c hc => ?_⟩
      · rcases List.mem_cons.1 hc with rfl | hc
        · exact h4 _ (List.mem_cons_self ..)
        · exact h2.1 (fun c hc => h4 c (List.mem_cons_of_mem _ hc)) c hc
      · rcases List.mem_cons.1 hc with rfl | hc
        · exact h4 _ (List.mem_cons_self ..)
        · exact h2.2 (fun c hc => h4 c (List.mem_cons_of_mem _ hc)) c hc
      · rcases List.mem_cons.1 hc with rfl | hc
        · exact List.mem_cons_self ..
        · exact List.mem_cons_of_mem _ (h3 c hc)

theorem prune_none {path : Cd} {e : List D} (hp : Holds e path) : ∀ {l : Cd}, prune path l = none → ¬ Holds e l
  | [], h => by cases h
  | (x, b) :: l, h => by
    simp only [prune] at h
    split at h
    · rename_i b' ht
      split at h
      · intro h1
        exact prune_none hp h fun c hc => h1 c (List.mem_cons_of_mem _ hc)
      · rename_i hb
        intro h1
        exact hb ((tri_ok ht hp).symm.trans (h1 (x, b) (List.mem_cons_self ..)))
    · intro h1
      rw [Option.map_eq_none_iff] at h
      exact prune_none hp h fun c hc => h1 c (List.mem_cons_of_mem _ hc)

def imp : Cd → Ex → Ex
  | [], g => g
  | (x, true) :: l, g => mkIteB x (imp l g) (.blit true)
  | (x, false) :: l, g => mkIteB x (.blit true) (imp l g)

theorem imp_ok {e : List D} : ∀ {l : Cd} {g : Ex}, ((imp l g).den e).bool = true → Holds e l → (g.den e).bool = true
  | [], _, h, _ => h
  | (x, true) :: l, g, h, hh => by
    simp only [imp, mkIteB_den] at h
    have h1 := hh _ (List.mem_cons_self ..)
    simp only at h1
    rw [h1, if_pos rfl] at h
    exact imp_ok h fun c hc => hh c (List.mem_cons_of_mem _ hc)
  | (x, false) :: l, g, h, hh => by
    simp only [imp, mkIteB_den] at h
    have h1 := hh _ (List.mem_cons_self ..)
    simp only at h1
    rw [h1] at h
    simp only [Bool.false_eq_true, if_false] at h
    exact imp_ok h fun c hc => hh c (List.mem_cons_of_mem _ hc)

def wrapGs {α : Type} (l : List Ex) (k : Tm α) : Tm α := l.foldr .guard k

theorem run_wrapGs {α : Type} {Φ : Nat → List D → Option (List D)} {k : Tm α} {e : List D} {r : Res α} : ∀ {l : List Ex}, Run Φ none (wrapGs l k) e r → (∀ g ∈ l, (g.den e).bool = true) ∧ Run Φ none k e r
  | [], h => ⟨fun g hg => by (cases hg), h⟩
  | c :: l, h => by
    cases h with
    | guard h1 h2 =>
      obtain ⟨h3, h4⟩ := run_wrapGs (l := l) h2
      refine ⟨fun g hg => ?_, h4⟩
      rcases List.mem_cons.1 hg with rfl | hg
      · exact h1
      · exact h3 g hg

/-! ### The blocks that may be looked at -/
def SV.ments : SV → List Nat
  | .ptr o _ | .own o _ | .oel o _ _ _ => [o]
  | .fn _ a c => (a ++ c).map (·.1)
  | _ => []
def Slot.ments (s : Slot) : List Nat := (slotCells s).flatMap SV.ments
def SObj.ments : SObj → List Nat
  | .cells _ l _ => l.flatMap SV.ments
  | _ => []

def closeIds (H : List SObj) : Nat → List Nat → List Nat → List Nat
  | 0, _, seen => seen
  | _ + 1, [], seen => seen
  | f + 1, p :: l, seen => if seen.contains p then closeIds H f l seen else closeIds H f ((look H p).ments ++ l) (p :: seen)

structure RCfg where
  C : Cfg
  ops : List Oper
  S : List Slot
  N : Nat
  draw : Bool
  befs : List Nat

def befOf (befs : List Nat) (o : Oper) : Nat := o.after.toList.foldl (fun s e => if Region.binds .any e then s ||| 2 ^ e.on ||| befs.getD e.on 0 else s) 0

/-- what comes ahead of each -/
def befsOf : List Oper → List Nat → List Nat
  | [], acc => acc
  | o :: l, acc => befsOf l (acc ++ [befOf acc o])

def rawLk (g : RCfg) (R : List Rec) : Operand → List Nat
  | .tmp t => match ixOf g.ops t 0 with
    | some j => match R[j]? with
      | some r => r.out.dst.ments
      | none => ((g.S[t]?).map Slot.ments).getD []
    | none => ((g.S[t]?).map Slot.ments).getD []
  | _ => []

/-- new blocks that an operation may want -/
def newOf (C : Cfg) : Op → Nat
  | .alloc _ | .box .. | .buildSlice .. => 1
  | .call c => match c.callee with
    | .builtin _ => 1
    | .value (.func f) => ((C.of f).map fun c => ((C.sig c).map Sig.cnt).getD 0).foldl max 0
    | _ => 4
  | _ => 0

def condOf (path : Cd) (R : List Rec) : Option (Nat × Bool) → Option (Option Cd)
  | none => some (some [])
  | some (g, want) => (R[g]?).bind fun rg => if rg.run = true then match rg.out.dst with
      | .v (.one (.bool ex)) => some (prune path ((ex, want) :: rg.cd))
      | _ => none
    else some none

structure RLeaf where
  R : List Rec
  H : List SObj
  n : Nat

def Ef.app (C : Cfg) (H : List SObj) : Ef → List SObj
  | .keep => H
  | .put o s => Glx.put H o s
  | ef => (List.range ((ef.touch C).foldl (fun m p => max m (p + 1)) H.length)).map fun p => (ef.mod C p).getD (look H p)

theorem foldl_max : ∀ (l : List Nat) (a : Nat), a ≤ l.foldl (fun m p => max m (p + 1)) a ∧ ∀ p ∈ l, p < l.foldl (fun m p => max m (p + 1)) a
  | [], a => ⟨Nat.le_refl _, fun p hp => by cases hp⟩
  | q :: l, a => by
    obtain ⟨h1, h2⟩ := foldl_max l (max a (q + 1))
    simp only [List.foldl_cons]
    refine ⟨by omega, fun p hp => ?_⟩
    rcases List.mem_cons.1 hp with rfl | hp
    · omega
    · exact h2 p hp

theorem look_app {C : Cfg} {H : List SObj} {ef : Ef} (p : Nat) : look (ef.app C H) p = (ef.mod C p).getD (look H p) := by
  cases ef with
  | keep => rfl
  | put o s => simp only [Ef.app, look_put, Ef.mod]; split <;> rfl
  | call f hd =>
    simp only [Ef.app]
    obtain ⟨k1, k2⟩ := foldl_max ((Ef.call f hd).touch C) H.length
    generalize ((Ef.call f hd).touch C).foldl (fun m p => max m (p + 1)) H.length = n at k1 k2
    by_cases hp : p < n
    · conv => lhs; unfold look
      rw [List.getD_eq_getElem?_getD, List.getElem?_map, List.getElem?_range hp]
      rfl
    · have h1 : look ((List.range n).map fun p => ((Ef.call f hd).mod C p).getD (look H p)) p = .unborn := by
        unfold look
        rw [List.getD_eq_getElem?_getD, List.getElem?_eq_none (by simp; omega)]
        rfl
      rw [h1]
      have h2 : look H p = .unborn := by
        unfold look
        rw [List.getD_eq_getElem?_getD, List.getElem?_eq_none (by omega)]
        rfl
      cases hq : (Ef.call f hd).mod C p with
      | none => simp [h2]
      | some s => have := k2 p (Ef.touch_ok hq); omega

def guardAt (g : RCfg) (bef : Nat) : Option (Nat × Bool) → Bool
  | none => true
  | some (j, _) => bef.testBit j && (match g.ops[j]? with | some o => o.dst.isSome | none => false)

def dstAt (g : RCfg) (i : Nat) : Option Tmp → Bool
  | none => true
  | some t => ixOf g.ops t 0 == some i && decide (t < g.S.length)

def noFz : Option SObj → Bool
  | some (.cells _ _ true) => false
  | _ => true

def dstSc (n : Nat) : Slot → Bool
  | .v (.one (.bool ex)) => ex.sc n
  | _ => true

def Ef.grow (C : Cfg) : Ef → Nat
  | .call f _ => match C.sig f with | some s => s.outN | none => 0
  | _ => 0

def outAt (g : RCfg) (H : List SObj) (n : Nat) (ids : List Nat) (bits : Nat) (out : Done) : Bool :=
  (ids.all fun p => decide (p < g.N) && (look H p).within bits) && (out.ef.touch g.C).all (fun p => ids.contains p && noFz (out.ef.mod g.C p) && ((out.ef.mod g.C p).map (SObj.within bits)).getD true) && out.dst.within bits && out.gs.all (Ex.sc n) && dstSc (n + out.ef.grow g.C) out.dst

def apartAt (C : Cfg) (ri rj : Rec) : Bool :=
  !ri.run || !rj.run || ((ri.out.ef.touch C).all (fun p => !rj.ids.contains p) && (rj.out.ef.touch C).all (fun p => !ri.ids.contains p))

def apartAll (C : Cfg) (rj : Rec) : List Rec → Nat → Bool
  | [], _ => true
  | ri :: l, i => (rj.bef.testBit i || apartAt C ri rj) && apartAll C rj l (i + 1)

def leafOk (g : RCfg) (R : List Rec) : Bool :=
  if g.draw then ((List.range R.length).all fun j => match R[j]? with | some rj => apartAll g.C rj (R.take j) 0 | none => true)
  else (List.range R.length).all fun j => match R[j]? with | some rj => rj.bef == 2 ^ j - 1 | none => true

/-- the operations from here on, as a term -/
def rwalk (g : RCfg) : Nat → List Oper → Cd → List Rec → List SObj → Nat → Option (Tm RLeaf)
  | 0, _, _, _, _, _ => none
  | _ + 1, [], _, R, H, n => if leafOk g R = true then some (.leaf ⟨R, H, n⟩) else none
  | f + 1, o :: rest, path, R, H, n =>
    let i := R.length
    let bef := g.befs.getD i 0
    if decide (bef < 2 ^ i) && dstAt g i o.dst && guardAt g bef o.guard then
      (condOf path R o.guard).bind fun
      | none => rwalk g f rest path (R ++ [⟨path, [], false, n, 0, 0, [], ⟨[], skipSlot, .keep⟩, H, bef⟩]) H n
      | some cd =>
        let nk := newOf g.C o.op
        let ids := closeIds H 60 ((o.op.operands.toList.flatMap (rawLk g R))) ((List.range nk).map (H.length + ·))
        let bits := bitsOf ids
        (symOp g.C (mask g.N bits (look H)) n (regLk g.ops g.S g.befs R i (cd ++ path)) (fun ex b => regLk g.ops g.S g.befs R i ((ex, b) :: (cd ++ path))) (tri path) H.length n o.op).bind fun out =>
        if cd.all (fun c => c.1.sc n) && outAt g H n ids bits out then
          let k := rwalk g f rest path (R ++ [⟨path, cd, true, n, H.length, n, ids, out, H, bef⟩]) (out.ef.app g.C H)
          match cd, out.ef with
          | _, .keep => (k n).map (wrapGs (out.gs.map (imp cd)))
          | [], .put _ _ => (k n).map (wrapGs out.gs)
          | [], .call fid h => if h.us.all (Ex.sc n) && h.base == n && out.gs.isEmpty then ((g.C.sig fid).bind fun s => k (n + s.outN)).map (Tm.call fid h.us) else none
          | (x, _) :: _, _ => (rwalk g f (o :: rest) (path ++ [(x, true)]) R H n).bind fun a => (rwalk g f (o :: rest) (path ++ [(x, false)]) R H n).map fun b => .ite x a b
        else none
    else none

section
variable {C : Cfg} {Φ : Nat → List D → Option (List D)} {ops : List Oper} {S : List Slot} {befs : List Nat} {H0 : List SObj} {N : Nat} {R : List Rec} {e : List D}

theorem holds_ext {c : Cd} (hs : ∀ p ∈ c, p.1.sc e.length = true) (ds : List D) : Holds (e ++ ds) c ↔ Holds e c := by
  constructor
  · intro h p hp
    rw [← Ex.den_ext e ds p.1 (hs p hp)]; exact h p hp
  · intro h p hp
    rw [Ex.den_ext e ds p.1 (hs p hp)]; exact h p hp

theorem CallFact.ext {f : Nat} {h : Hand} (hc : CallFact Φ C e f h) (ds : List D) : CallFact Φ C (e ++ ds) f h := by
  obtain ⟨hsc, s, rs, h1, h2, h3⟩ := hc
  refine ⟨fun u hu => Ex.sc_mono (by simp) u (hsc u hu), s, rs, h1, ?_, fun i hi => ?_⟩
  · have : dens (e ++ ds) h.us = dens e h.us := List.map_congr_left fun u hu => Ex.den_ext e ds u (hsc u hu)
    rw [this]; exact h2
  · obtain ⟨h4, h5⟩ := h3 i hi
    refine ⟨by simp; omega, ?_⟩
    rw [← h5]
    simp [List.getElem?_append_left h4]

theorem RecOk.ext {i : Nat} {o : Oper} {r : Rec} (h : RecOk C Φ ops S befs H0 N R e i o r) (hi : i < R.length) (R' : List Rec) (ds : List D) : RecOk C Φ ops S befs H0 N (R ++ R') (e ++ ds) i o r := by
  have hsc : ∀ x : Ex, x.sc e.length = true → x.sc (e ++ ds).length = true := fun x hx => Ex.sc_mono (by simp) x hx
  have htake : (R ++ R').take i = R.take i := by rw [List.take_append_of_le_length (by omega)]
  refine ⟨fun c hc => hsc _ (h.scP c hc), fun c hc => hsc _ (h.scC c hc), fun hr g hg => hsc _ (h.scG hr g hg), fun ex hx => hsc _ (h.scD ex hx), (holds_ext h.scP ds).2 h.path, by have := h.n; simp; omega, fun p => by rw [htake]; exact h.heap p, h.befEq, h.befLt, h.dst, h.guard0, fun g want hg => ?_,
    fun hr => by rw [htake]; exact h.sym hr, fun hr hh g hg => ?_, fun hr f hd hf => (h.call hr f hd hf).ext ds, h.eff, h.idsN, h.mods, h.fz, h.win, h.win2, h.win3⟩
  · obtain ⟨h1, rg, og, h2, h3, h4, h5⟩ := h.guard g want hg
    have hgl : g < R.length := (List.getElem?_eq_some_iff.1 h2).1
    refine ⟨h1, rg, og, by rw [List.getElem?_append_left hgl]; exact h2, h3, h4, ?_⟩
    rcases h5 with h5 | ⟨h5, ex, h6, h7, h8, h9⟩
    · exact .inl h5
    · refine .inr ⟨h5, ex, h6, fun c hc => hsc _ (h7 c hc), fun hr => ?_, fun hr => ?_⟩
      · rw [holds_ext h.scC, holds_ext h7]; exact h8 hr
      · rw [holds_ext h7]; exact h9 hr
  · rw [Ex.den_ext e ds g (h.scG hr g hg)]
    exact h.gs hr ((holds_ext h.scC ds).1 hh) g hg

/-- all that came so far is well -/
def Sofar (C : Cfg) (Φ : Nat → List D → Option (List D)) (ops : List Oper) (S : List Slot) (befs : List Nat) (H0 : List SObj) (N : Nat) (R : List Rec) (e : List D) : Prop :=
  ∀ i o, i < R.length → ops[i]? = some o → ∃ r, R[i]? = some r ∧ RecOk C Φ ops S befs H0 N R e i o r

theorem Sofar.ext (h : Sofar C Φ ops S befs H0 N R e) (ds : List D) : Sofar C Φ ops S befs H0 N R (e ++ ds) := fun i o hi ho => by
  obtain ⟨r, h1, h2⟩ := h i o hi ho
  exact ⟨r, h1, by have := h2.ext hi [] ds; rwa [List.append_nil] at this⟩

theorem Sofar.snoc (h : Sofar C Φ ops S befs H0 N R e) {r : Rec} {ds : List D} (hr : ∀ o, ops[R.length]? = some o → RecOk C Φ ops S befs H0 N (R ++ [r]) (e ++ ds) R.length o r) : Sofar C Φ ops S befs H0 N (R ++ [r]) (e ++ ds) := by
  intro i o hi ho
  simp only [List.length_append, List.length_singleton] at hi
  rcases Nat.lt_or_ge i R.length with h1 | h1
  · obtain ⟨r', h2, h3⟩ := h i o h1 ho
    exact ⟨r', by rw [List.getElem?_append_left h1]; exact h2, h3.ext h1 [r] ds⟩
  · have : i = R.length := by omega
    subst this
    exact ⟨r, by simp, hr o ho⟩

theorem obOf_snoc {r : Rec} {p : Nat} {acc : SObj} : obOf C (fun _ => true) p (R ++ [r]) 0 acc = if r.run = true then (r.out.ef.mod C p).getD (obOf C (fun _ => true) p R 0 acc) else obOf C (fun _ => true) p R 0 acc := by
  rw [obOf_append]
  simp [obOf]

theorem condOf_ok {g : RCfg} {path : Cd} {bef : Nat} {gd : Option (Nat × Bool)} {c : Option Cd} (h : condOf path R gd = some c) (hp : Holds e path) (hsc : ∀ (i : Nat) (r : Rec), R[i]? = some r → (∀ c ∈ r.cd, c.1.sc e.length = true) ∧ ∀ ex, r.out.dst = .v (.one (.bool ex)) → ex.sc e.length = true) (hat : guardAt g bef gd = true) :
    (gd = none → c = some []) ∧ ∀ j want, gd = some (j, want) → bef.testBit j = true ∧ ∃ rg og, R[j]? = some rg ∧ g.ops[j]? = some og ∧ og.dst.isSome = true ∧
      ((rg.run = false ∧ c = none) ∨ (rg.run = true ∧ ∃ ex, rg.out.dst = .v (.one (.bool ex)) ∧ (∀ c ∈ (ex, want) :: rg.cd, c.1.sc e.length = true) ∧
        (∀ cd, c = some cd → (Holds e cd ↔ Holds e ((ex, want) :: rg.cd))) ∧ (c = none → ¬ Holds e ((ex, want) :: rg.cd)))) := by
  cases gd with
  | none =>
    simp only [condOf, Option.some.injEq] at h
    exact ⟨fun _ => h.symm, fun j want hj => by cases hj⟩
  | some jw =>
    obtain ⟨j, want⟩ := jw
    refine ⟨fun hn => by (cases hn), fun j' want' hj => ?_⟩
    cases hj
    simp only [condOf] at h
    obtain ⟨rg, h1, h2⟩ := Option.bind_eq_some_iff.1 h
    simp only [guardAt, Bool.and_eq_true] at hat
    obtain ⟨ha, hb⟩ := hat
    split at hb
    · rename_i og hog
      refine ⟨ha, rg, og, h1, hog, hb, ?_⟩
      split at h2
      · rename_i hrun
        right
        refine ⟨hrun, ?_⟩
        split at h2
        · rename_i ex hex
          simp only [Option.some.injEq] at h2
          refine ⟨ex, hex, fun c hc => ?_, fun cd hcd => ?_, fun hcd => ?_⟩
          · rcases List.mem_cons.1 hc with rfl | hc
            · exact (hsc j rg h1).2 ex hex
            · exact (hsc j rg h1).1 c hc
          · subst hcd
            exact (prune_some hp h2).1
          · subst hcd
            exact prune_none hp h2
        · cases h2
      · rename_i hrun
        left
        cases h2
        exact ⟨by simpa using hrun, rfl⟩
    · cases hb

theorem outAt_ok {g : RCfg} {H : List SObj} {n : Nat} {ids : List Nat} {bits : Nat} {out : Done} (h : outAt g H n ids bits out = true) :
    (∀ p ∈ ids, p < g.N) ∧ (∀ p ∈ ids, (look H p).within bits = true) ∧ (∀ p ∈ out.ef.touch g.C, p ∈ ids) ∧ (∀ p T l, out.ef.mod g.C p ≠ some (.cells T l true)) ∧
    (∀ p s, out.ef.mod g.C p = some s → s.within bits = true) ∧ out.dst.within bits = true ∧ (∀ c ∈ out.gs, c.sc n = true) ∧ (∀ ex, out.dst = .v (.one (.bool ex)) → ex.sc (n + out.ef.grow g.C) = true) := by
  simp only [outAt, Bool.and_eq_true, List.all_eq_true, decide_eq_true_eq, List.contains_eq_mem] at h
  obtain ⟨⟨⟨⟨h1, h2⟩, h3⟩, h4⟩, h5⟩ := h
  refine ⟨fun p hp => (h1 p hp).1, fun p hp => (h1 p hp).2, fun p hp => (h2 p hp).1.1, fun p T l hq => ?_, fun p s hq => ?_, h3, h4, fun ex hx => by rw [hx] at h5; exact h5⟩
  · have := (h2 p (Ef.touch_ok hq)).1.2
    rw [hq] at this
    cases this
  · have := (h2 p (Ef.touch_ok hq)).2
    rw [hq] at this
    simpa using this

/-- what a run of the term tells -/
theorem rwalk_ok {g : RCfg} (hsig : SigOk g.C Φ) : ∀ (f : Nat) (rest : List Oper) (path : Cd) (R : List Rec) (H : List SObj) (n : Nat) (t : Tm RLeaf) (e : List D) (res : Res RLeaf),
    rwalk g f rest path R H n = some t → Run Φ none t e res → e.length = n → Holds e path → (∀ c ∈ path, c.1.sc n = true) → Sofar g.C Φ g.ops g.S g.befs H0 g.N R e → rest = g.ops.drop R.length → R.length ≤ g.ops.length →
    (∀ p, look H p = obOf g.C (fun _ => true) p R 0 (look H0 p)) → ∃ lf ds, res = .leaf lf (e ++ ds) ∧ lf.n = (e ++ ds).length ∧ lf.R.length = g.ops.length ∧ Sofar g.C Φ g.ops g.S g.befs H0 g.N lf.R (e ++ ds) ∧
      (∀ p, look lf.H p = obOf g.C (fun _ => true) p lf.R 0 (look H0 p)) ∧ leafOk g lf.R = true
  | 0, _, _, _, _, _, _, _, _, h, _, _, _, _, _, _, _, _ => by cases h
  | _ + 1, [], path, R, H, n, t, e, res, h, hr, hn, hp, hsc, hso, hrest, hle, hH => by
    simp only [rwalk, Option.ite_none_right_eq_some, Option.some.injEq] at h
    obtain ⟨hlf, rfl⟩ := h
    cases hr
    refine ⟨_, [], by rw [List.append_nil], by rw [List.append_nil]; exact hn.symm, ?_, by rw [List.append_nil]; exact hso, hH, hlf⟩
    have := congrArg List.length hrest
    simp only [List.length_nil, List.length_drop] at this
    show R.length = _
    omega
  | f + 1, o :: rest, path, R, H, n, t, e, res, h, hr, hn, hp, hsc, hso, hrest, hle, hH => by
    have hio : g.ops[R.length]? = some o := by
      have : (g.ops.drop R.length)[0]? = some o := by rw [← hrest]; rfl
      simpa [List.getElem?_drop] using this
    have hil : R.length < g.ops.length := (List.getElem?_eq_some_iff.1 hio).1
    have hrest' : rest = g.ops.drop (R.length + 1) := by
      rw [← List.drop_drop, ← hrest]; rfl
    have hscs : ∀ (i : Nat) (r : Rec), R[i]? = some r → (∀ c ∈ r.cd, c.1.sc e.length = true) ∧ ∀ ex, r.out.dst = .v (.one (.bool ex)) → ex.sc e.length = true := by
      intro i r hi
      have hlt := (List.getElem?_eq_some_iff.1 hi).1
      obtain ⟨r', h1, h2⟩ := hso i g.ops[i] hlt (List.getElem?_eq_getElem (by omega))
      rw [hi] at h1
      cases h1
      exact ⟨h2.scC, h2.scD⟩
    simp only [rwalk] at h
    generalize hbf : g.befs.getD R.length 0 = bef at h
    split at h
    · rename_i hat
      simp only [Bool.and_eq_true, decide_eq_true_eq] at hat
      obtain ⟨⟨hblt, hdst⟩, hgat⟩ := hat
      have hbl : ∀ j, bef.testBit j = true → j < R.length := fun j hj => by
        rcases Nat.lt_or_ge j R.length with h1 | h1
        · exact h1
        · have := Nat.testBit_lt_two_pow (Nat.lt_of_lt_of_le hblt (Nat.pow_le_pow_right (by omega) h1))
          rw [this] at hj; cases hj
      have hd : ∀ t, o.dst = some t → ixOf g.ops t 0 = some R.length ∧ t < g.S.length := fun t ht => by
        rw [ht] at hdst
        simp only [dstAt, Bool.and_eq_true, beq_iff_eq, decide_eq_true_eq] at hdst
        exact hdst
      obtain ⟨c, hc, h⟩ := Option.bind_eq_some_iff.1 h
      obtain ⟨hg0, hg1⟩ := condOf_ok hc hp hscs hgat
      have hsame : ∀ (r : Rec), (R ++ [r]).take R.length = R := fun r => by rw [List.take_append_of_le_length (Nat.le_refl _), List.take_length]
      have hgetg : ∀ (r : Rec) (j : Nat) (rg : Rec), R[j]? = some rg → (R ++ [r])[j]? = some rg := fun r j rg hj => by rw [List.getElem?_append_left (List.getElem?_eq_some_iff.1 hj).1]; exact hj
      cases c with
      | none =>
        simp only at h
        refine rwalk_ok hsig f rest path _ H n t e res h hr hn hp hsc ?_ (by simpa using hrest') (by simp; omega) (fun p => by rw [obOf_snoc]; simpa using hH p)
        have := hso.snoc (r := ⟨path, [], false, n, 0, 0, [], ⟨[], skipSlot, .keep⟩, H, bef⟩) (ds := []) fun o' ho' => ?_
        · rwa [List.append_nil] at this
        · rw [hio] at ho'
          cases ho'
          rw [List.append_nil]
          refine ⟨fun c hc => by rw [hn]; exact hsc c hc, fun c hc => (by cases hc), fun h => (by cases h), fun ex hx => by simp [skipSlot] at hx, hp, by show n ≤ e.length; omega, fun p => by rw [hsame]; exact hH p, hbf.symm, hbl, hd, fun hn => ?_, fun j want hj => ?_, fun h => (by cases h), fun h => (by cases h), fun h => (by cases h), fun h => (by cases h), fun p hp => (by cases hp), fun h => (by cases h), fun h => (by cases h), fun p hp => (by cases hp), fun h => (by cases h), fun h => (by cases h)⟩
          · have := hg0 hn; cases this
          · obtain ⟨k1, rg, og, k2, k3, k4, k5⟩ := hg1 j want hj
            refine ⟨k1, rg, og, hgetg _ j rg k2, k3, k4, ?_⟩
            rcases k5 with ⟨k5, _⟩ | ⟨k5, ex, k6, k7, _, k9⟩
            · exact .inl ⟨k5, rfl⟩
            · exact .inr ⟨k5, ex, k6, k7, fun h => (by cases h), fun _ => k9 rfl⟩
      | some cd =>
        simp only at h
        generalize hids : closeIds H 60 (o.op.operands.toList.flatMap (rawLk g R)) ((List.range (newOf g.C o.op)).map (H.length + ·)) = ids at h
        obtain ⟨out, hout, h⟩ := Option.bind_eq_some_iff.1 h
        split at h
        · rename_i hat2
          simp only [Bool.and_eq_true, List.all_eq_true] at hat2
          obtain ⟨hcsc, hoat⟩ := hat2
          obtain ⟨o1, o2, o3, o4, o5, o6, o7, o8⟩ := outAt_ok hoat
          -- what is written down of it
          generalize hrr : (⟨path, cd, true, n, H.length, n, ids, out, H, bef⟩ : Rec) = r at h
          have hrec : ∀ ds : List D, out.ef.grow g.C ≤ ds.length → (Holds e cd → ∀ g ∈ out.gs, (g.den e).bool = true) → (∀ f h, out.ef = .call f h → CallFact Φ g.C (e ++ ds) f h) → (cd = [] ∨ out.ef = .keep) →
              Sofar g.C Φ g.ops g.S g.befs H0 g.N (R ++ [r]) (e ++ ds) := by
            intro ds f0 f1 f2 f3
            refine hso.snoc fun o' ho' => ?_
            rw [hio] at ho'
            cases ho'
            have hmono : ∀ x : Ex, x.sc n = true → x.sc (e ++ ds).length = true := fun x hx => Ex.sc_mono (by simp; omega) x hx
            have hce : ∀ c ∈ cd, c.1.sc e.length = true := fun c hc => by rw [hn]; exact hcsc c hc
            have hpe : ∀ c ∈ path, c.1.sc e.length = true := fun c hc => by rw [hn]; exact hsc c hc
            subst hrr
            refine ⟨fun c hc => hmono _ (hsc c hc), fun c hc => hmono _ (hcsc c hc), fun _ c hc => hmono _ (o7 c hc), fun ex hx => Ex.sc_mono (by simp; omega) _ (o8 ex hx), (holds_ext hpe ds).2 hp, by show n ≤ _; simp; omega, fun p => by rw [hsame]; exact hH p, hbf.symm, hbl, hd, fun hn => ?_, fun j want hj => ?_, fun _ => by rw [hsame]; exact hout,
              fun _ hh c hc => ?_, fun _ f h hf => f2 f h hf, fun _ => f3, o1, fun _ => o3, fun _ => o4, o2, fun _ => o5, fun _ => o6⟩
            · exact ⟨rfl, by have := hg0 hn; injection this⟩
            · obtain ⟨k1, rg, og, k2, k3, k4, k5⟩ := hg1 j want hj
              refine ⟨k1, rg, og, hgetg _ j rg k2, k3, k4, ?_⟩
              rcases k5 with ⟨_, k5⟩ | ⟨k5, ex, k6, k7, k8, _⟩
              · cases k5
              · refine .inr ⟨k5, ex, k6, fun c hc => Ex.sc_mono (by simp) _ (k7 c hc), fun _ => ?_, fun h => (by cases h)⟩
                rw [holds_ext hce, holds_ext k7]
                exact k8 cd rfl
            · have hcc : c.sc e.length = true := by rw [hn]; exact o7 c hc
              rw [Ex.den_ext e ds c hcc]
              exact f1 ((holds_ext hce ds).1 hh) c hc
          have hH' : ∀ p, look (out.ef.app g.C H) p = obOf g.C (fun _ => true) p (R ++ [r]) 0 (look H0 p) := by
            intro p
            rw [look_app, obOf_snoc, ← hrr, if_pos rfl, hH p]
          have hrl : rest = g.ops.drop (R ++ [r]).length := by simpa using hrest'
          have hll : (R ++ [r]).length ≤ g.ops.length := by simp; omega
          have hsplit : ∀ (x : Ex) (b : Bool) (l : Cd), cd = (x, b) :: l → ((rwalk g f (o :: rest) (path ++ [(x, true)]) R H n).bind fun a => (rwalk g f (o :: rest) (path ++ [(x, false)]) R H n).map fun b => Tm.ite x a b) = some t →
              ∃ lf ds, res = .leaf lf (e ++ ds) ∧ lf.n = (e ++ ds).length ∧ lf.R.length = g.ops.length ∧ Sofar g.C Φ g.ops g.S g.befs H0 g.N lf.R (e ++ ds) ∧ (∀ p, look lf.H p = obOf g.C (fun _ => true) p lf.R 0 (look H0 p)) ∧ leafOk g lf.R = true := by
            intro x b l hcd h
            obtain ⟨ta, h1, h⟩ := Option.bind_eq_some_iff.1 h
            obtain ⟨tb, h2, rfl⟩ := Option.map_eq_some_iff.1 h
            have hx : x.sc n = true := hcsc (x, b) (by rw [hcd]; exact List.mem_cons_self ..)
            have hsc' : ∀ b, ∀ c ∈ path ++ [(x, b)], c.1.sc n = true := by
              intro b c hc
              rcases List.mem_append.1 hc with hc | hc
              · exact hsc c hc
              · rw [List.mem_singleton] at hc; rw [hc]; exact hx
            have hp' : ∀ b, (x.den e).bool = b → Holds e (path ++ [(x, b)]) := by
              intro b hb c hc
              rcases List.mem_append.1 hc with hc | hc
              · exact hp c hc
              · rw [List.mem_singleton] at hc; rw [hc]; exact hb
            cases hr with
            | iteT q1 q2 => exact rwalk_ok hsig f (o :: rest) _ R H n ta e res h1 q2 hn (hp' true q1) (hsc' true) hso hrest hle hH
            | iteF q1 q2 => exact rwalk_ok hsig f (o :: rest) _ R H n tb e res h2 q2 hn (hp' false q1) (hsc' false) hso hrest hle hH
          cases hef : out.ef with
          | keep =>
            simp only [hef] at h hH'
            obtain ⟨t', ht', rfl⟩ := Option.map_eq_some_iff.1 h
            obtain ⟨q1, q2⟩ := run_wrapGs hr
            have hs1 := hrec [] (by rw [hef]; exact Nat.zero_le _) (fun hh c hc => imp_ok (q1 _ (List.mem_map_of_mem hc)) hh) (fun f h hf => by rw [hef] at hf; cases hf) (.inr hef)
            rw [List.append_nil] at hs1
            exact rwalk_ok hsig f rest path _ _ n t' e res ht' q2 hn hp hsc hs1 hrl hll hH'
          | put o' s' =>
            simp only [hef] at h hH'
            cases cd with
            | nil =>
              obtain ⟨t', ht', rfl⟩ := Option.map_eq_some_iff.1 h
              obtain ⟨q1, q2⟩ := run_wrapGs hr
              have hs1 := hrec [] (by rw [hef]; exact Nat.zero_le _) (fun _ c hc => q1 c hc) (fun f h hf => by rw [hef] at hf; cases hf) (.inl rfl)
              rw [List.append_nil] at hs1
              exact rwalk_ok hsig f rest path _ _ n t' e res ht' q2 hn hp hsc hs1 hrl hll hH'
            | cons xb l => exact hsplit xb.1 xb.2 l rfl h
          | call fid hd' =>
            simp only [hef] at h hH'
            cases cd with
            | nil =>
              simp only at h
              split at h
              · rename_i hck
                simp only [Bool.and_eq_true, List.all_eq_true, beq_iff_eq, List.isEmpty_iff] at hck
                obtain ⟨⟨hus, hba⟩, hgse⟩ := hck
                obtain ⟨t', ht', rfl⟩ := Option.map_eq_some_iff.1 h
                obtain ⟨sg, hsg, ht'⟩ := Option.bind_eq_some_iff.1 ht'
                cases hr with
                | call hc1 hc2 =>
                  rename_i ds
                  have hdl := hsig.len _ _ hsg _ _ hc1
                  have hs1 := hrec ds (by rw [hef]; simp only [Ef.grow, hsg]; omega) (fun _ c hc => by rw [hgse] at hc; cases hc) (fun f h hf => by
                    rw [hef] at hf
                    cases hf
                    refine ⟨fun u hu => Ex.sc_mono (by simp; omega) u (hus u hu), sg, ds, hsg, ?_, fun i hi => ?_⟩
                    · have : dens (e ++ ds) hd'.us = dens e hd'.us := List.map_congr_left fun u hu => Ex.den_ext e ds u (by rw [hn]; exact hus u hu)
                      rw [this]; exact hc1
                    · rw [hba, ← hn]
                      refine ⟨by simp; omega, ?_⟩
                      simp [List.getElem?_append_right]) (.inl rfl)
                  obtain ⟨lf, ds', z1, z2, z3, z4, z5⟩ := rwalk_ok hsig f rest path _ _ (n + sg.outN) t' (e ++ ds) res ht' hc2 (by simp; omega) ((holds_ext (fun c hc => by rw [hn]; exact hsc c hc) ds).2 hp) (fun c hc => Ex.sc_mono (by omega) _ (hsc c hc)) hs1 hrl hll hH'
                  exact ⟨lf, ds ++ ds', by rw [← List.append_assoc]; exact z1, by rw [← List.append_assoc]; exact z2, z3, by rw [← List.append_assoc]; exact z4, z5⟩
              · cases h
            | cons xb l => exact hsplit xb.1 xb.2 l rfl h
        · cases h
    · cases h

end
end Glx
