/- A region's operations, in whichever order they are drawn. -/
import Derived.Test.YtfelpmijieomaaaGreatDoorGlxMask
import Derived.Test.YtfelpmijieomaaaGreatDoorGlxSymOpB
import Derived.Orders
namespace Glx
open Go

/-- conditions, each with the truth that is wanted of it -/
abbrev Cd := List (Ex × Bool)
def Holds (e : List D) (c : Cd) : Prop := ∀ p ∈ c, (p.1.den e).bool = p.2

/-- is a condition's truth known? -/
def tri (path : Cd) (x : Ex) : Option Bool := match x with
  | .blit b => some b
  | x => (path.find? fun c => c.1 == x).map (·.2)

theorem tri_ok {path : Cd} {x : Ex} {b : Bool} {e : List D} (h : tri path x = some b) (hp : Holds e path) : (x.den e).bool = b := by
  have key : ∀ x, (path.find? fun c => c.1 == x).map (·.2) = some b → (x.den e).bool = b := by
    intro x h
    obtain ⟨c, h1, rfl⟩ := Option.map_eq_some_iff.1 h
    have h2 := List.find?_some h1
    have h3 := List.mem_of_find?_eq_some h1
    simp only [beq_iff_eq] at h2
    rw [← h2]
    exact hp c h3
  unfold tri at h
  split at h
  · cases h; rfl
  · exact key _ h

def bitsOf : List Nat → Nat
  | [] => 0
  | p :: l => 2 ^ p ||| bitsOf l

theorem bitsOf_spec : ∀ (l : List Nat) (p : Nat), (bitsOf l).testBit p = true ↔ p ∈ l
  | [], p => by simp [bitsOf]
  | q :: l, p => by
    simp only [bitsOf, Nat.testBit_or, Bool.or_eq_true, List.mem_cons, bitsOf_spec l p, Nat.testBit_two_pow, decide_eq_true_eq]
    constructor
    · rintro (h | h)
      · exact .inl h.symm
      · exact .inr h
    · rintro (h | h)
      · exact .inl h.symm
      · exact .inr h

/-- what is written down of one operation -/
structure Rec where
  path : Cd
  cd : Cd
  run : Bool
  n : Nat
  k : Nat
  base : Nat
  ids : List Nat
  out : Done
  H : List SObj
  bef : Nat

def ixOf : List Oper → Nat → Nat → Option Nat
  | [], _, _ => none
  | o :: l, t, j => if o.dst = some t then some j else ixOf l t (j + 1)

/-- what an operation may know of its operands -/
def regLk (ops : List Oper) (S : List Slot) (befs : List Nat) (R : List Rec) (i : Nat) (cd : Cd) : Lk
  | .tmp t => match ixOf ops t 0 with
    | some j => if (befs.getD i 0).testBit j = true then (R[j]?).bind fun r => if (r.run && r.cd.all fun c => cd.contains c) = true then some r.out.dst else none
      else if j = i ∨ (befs.getD j 0).testBit i = true then opd S (.tmp t) else none
    | none => opd S (.tmp t)
  | p => opd S p

def Ef.touch (C : Cfg) : Ef → List Nat
  | .keep => []
  | .put o _ => [o]
  | .call f h => match C.sig f with
    | some s => (List.range s.cnt).map (h.k0 + ·) ++ srcs h.σ s.inH
    | none => []

theorem Ef.touch_ok {C : Cfg} {ef : Ef} {p : Nat} {s : SObj} (h : ef.mod C p = some s) : p ∈ ef.touch C := by
  cases ef with
  | keep => cases h
  | put o s' =>
    simp only [Ef.mod] at h
    split at h
    · rename_i hp; subst hp; simp [Ef.touch]
    · cases h
  | call f hd =>
    simp only [Ef.mod] at h
    split at h
    · rename_i sg hsg
      split at h
      · rename_i k hk
        simp only [Ef.touch, hsg]
        unfold Hand.corr at hk
        split at hk
        · rename_i h1
          exact List.mem_append_left _ (List.mem_map.2 ⟨p - hd.k0, List.mem_range.2 (by omega), by omega⟩)
        · have h2 := List.find?_some hk
          simp only [Bool.and_eq_true, beq_iff_eq] at h2
          exact List.mem_append_right _ (mem_srcs h2.1 h2.2)
      · cases h
    · cases h

/-- the block after so many operations, by text -/
def obOf (C : Cfg) (L : Nat → Bool) (p : Nat) : List Rec → Nat → SObj → SObj
  | [], _, acc => acc
  | r :: l, i, acc => obOf C L p l (i + 1) (if L i && r.run then (r.out.ef.mod C p).getD acc else acc)

theorem obOf_append {C : Cfg} {L : Nat → Bool} {p : Nat} : ∀ (l m : List Rec) (i : Nat) (acc : SObj), obOf C L p (l ++ m) i acc = obOf C L p m (i + l.length) (obOf C L p l i acc)
  | [], m, i, acc => rfl
  | r :: l, m, i, acc => by
    simp only [List.cons_append, obOf, List.length_cons]
    rw [obOf_append l m, Nat.add_right_comm, Nat.add_assoc]

theorem obOf_congr {C : Cfg} {L L' : Nat → Bool} {p : Nat} : ∀ (l : List Rec) (i : Nat) (acc : SObj), (∀ j r, l[j]? = some r → r.run = true → r.out.ef.mod C p ≠ none → L (i + j) = L' (i + j)) → obOf C L p l i acc = obOf C L' p l i acc
  | [], _, _, _ => rfl
  | r :: l, i, acc, h => by
    have ih := fun acc => obOf_congr (L := L) (L' := L') l (i + 1) acc fun j r' hj h1 h2 => by have := h (j + 1) r' (by simpa using hj) h1 h2; rw [Nat.add_right_comm i 1 j]; exact this
    simp only [obOf]
    rw [ih]
    congr 1
    cases hm : r.out.ef.mod C p with
    | none => simp
    | some s =>
      cases hr : r.run with
      | false => simp
      | true =>
        have := h 0 r rfl hr (by simp [hm])
        simp only [Nat.add_zero] at this
        rw [this]

theorem obOf_none {C : Cfg} {L : Nat → Bool} {p : Nat} : ∀ (l : List Rec) (i : Nat) (acc : SObj), (∀ j r, l[j]? = some r → r.run = true → r.out.ef.mod C p ≠ none → L (i + j) = false) → obOf C L p l i acc = acc
  | [], _, _, _ => rfl
  | r :: l, i, acc, h => by
    simp only [obOf]
    rw [obOf_none l (i + 1) _ fun j r' hj h1 h2 => by have := h (j + 1) r' (by simpa using hj) h1 h2; rw [Nat.add_right_comm i 1 j]; exact this]
    cases hm : r.out.ef.mod C p with
    | none => simp
    | some s =>
      cases hr : r.run with
      | false => simp
      | true =>
        have := h 0 r rfl hr (by simp [hm])
        simp only [Nat.add_zero] at this
        simp [this]

theorem ixOf_spec : ∀ {ops : List Oper} {t j k : Nat}, ixOf ops t k = some j → k ≤ j ∧ ∃ o, ops[j - k]? = some o ∧ o.dst = some t
  | [], _, _, _, h => by cases h
  | o :: l, t, j, k, h => by
    simp only [ixOf] at h
    split at h
    · rename_i h1
      cases h
      exact ⟨Nat.le_refl _, o, by simp, h1⟩
    · obtain ⟨h1, o', h2, h3⟩ := ixOf_spec h
      refine ⟨by omega, o', ?_, h3⟩
      rw [show j - k = (j - (k + 1)) + 1 by omega]
      simpa using h2

/-- what is known of one operation -/
structure RecOk (C : Cfg) (Φ : Nat → List D → Option (List D)) (ops : List Oper) (S : List Slot) (befs : List Nat) (H0 : List SObj) (N : Nat) (R : List Rec) (e : List D) (i : Nat) (o : Oper) (r : Rec) : Prop where
  scP : ∀ c ∈ r.path, c.1.sc e.length = true
  scC : ∀ c ∈ r.cd, c.1.sc e.length = true
  scG : r.run = true → ∀ g ∈ r.out.gs, g.sc e.length = true
  scD : ∀ ex, r.out.dst = .v (.one (.bool ex)) → ex.sc e.length = true
  path : Holds e r.path
  n : r.n ≤ e.length
  heap : ∀ p, look r.H p = obOf C (fun _ => true) p (R.take i) 0 (look H0 p)
  befEq : r.bef = befs.getD i 0
  befLt : ∀ j, r.bef.testBit j = true → j < i
  dst : ∀ t, o.dst = some t → ixOf ops t 0 = some i ∧ t < S.length
  guard0 : o.guard = none → r.run = true ∧ r.cd = []
  guard : ∀ g want, o.guard = some (g, want) → r.bef.testBit g = true ∧ ∃ rg og, R[g]? = some rg ∧ ops[g]? = some og ∧ og.dst.isSome = true ∧
    ((rg.run = false ∧ r.run = false) ∨ (rg.run = true ∧ ∃ ex, rg.out.dst = .v (.one (.bool ex)) ∧ (∀ c ∈ (ex, want) :: rg.cd, c.1.sc e.length = true) ∧ (r.run = true → (Holds e r.cd ↔ Holds e ((ex, want) :: rg.cd))) ∧ (r.run = false → ¬ Holds e ((ex, want) :: rg.cd))))
  sym : r.run = true → symOp C (mask N (bitsOf r.ids) (look r.H)) r.n (regLk ops S befs (R.take i) i (r.cd ++ r.path)) (fun ex b => regLk ops S befs (R.take i) i ((ex, b) :: (r.cd ++ r.path))) (tri r.path) r.k r.base o.op = some r.out
  gs : r.run = true → Holds e r.cd → ∀ g ∈ r.out.gs, (g.den e).bool = true
  call : r.run = true → ∀ f h, r.out.ef = .call f h → CallFact Φ C e f h
  eff : r.run = true → r.cd = [] ∨ r.out.ef = .keep
  idsN : ∀ p ∈ r.ids, p < N
  mods : r.run = true → ∀ p ∈ r.out.ef.touch C, p ∈ r.ids
  fz : r.run = true → ∀ p T l, r.out.ef.mod C p ≠ some (.cells T l true)
  win : ∀ p ∈ r.ids, (look r.H p).within (bitsOf r.ids) = true
  win2 : r.run = true → ∀ p s, r.out.ef.mod C p = some s → s.within (bitsOf r.ids) = true
  win3 : r.run = true → r.out.dst.within (bitsOf r.ids) = true

structure RegOk (C : Cfg) (Φ : Nat → List D → Option (List D)) (ops : List Oper) (S : List Slot) (befs : List Nat) (H0 : List SObj) (N : Nat) (R : List Rec) (e : List D) : Prop where
  all : ∀ i o, ops[i]? = some o → ∃ r, R[i]? = some r ∧ RecOk C Φ ops S befs H0 N R e i o r
  len : R.length = ops.length
  start : ∀ p, N ≤ p → look H0 p = .unborn
  bnd : ∀ j, ops.length ≤ j → befs.getD j 0 = 0
  conf : ∀ (i j : Nat) (ri rj : Rec), i < j → R[i]? = some ri → R[j]? = some rj → ri.run = true → rj.run = true → rj.bef.testBit i = true ∨ ((∀ p ∈ ri.out.ef.touch C, p ∉ rj.ids) ∧ (∀ p ∈ rj.out.ef.touch C, p ∉ ri.ids))

/-- so many operations are done -/
structure Inv (C : Cfg) (ops : List Oper) (S : List Slot) (H0 : List SObj) (R : List Rec) (x0 : Env) (w0 : World) (M : Nat → Prop) (ds : List Deferred) (L : Nat → Bool) (a : Act) (x : Env) : Prop where
  P : x.P = C.P
  e : x.e = x0.e
  sat : Sat x w0 M
  ext : Ext x0 x
  heap : ∀ p, look x.H p = obOf C L p R 0 (look H0 p)
  back : ∀ b, x.I b → x0.I b ∨ w0.heap.size ≤ b ∨ M b
  defers : a.defers = ds
  size : a.tmps.size = S.length
  old : ∀ t s, (∀ i, ixOf ops t 0 = some i → L i = false) → S[t]? = some s → GS x s (a.tmps.getD t undef)
  new : ∀ t i, ixOf ops t 0 = some i → L i = true → ∃ r, R[i]? = some r ∧ (r.run = true ∧ Holds x0.e r.cd → GS x r.out.dst (a.tmps.getD t undef)) ∧ (¬ (r.run = true ∧ Holds x0.e r.cd) → a.tmps.getD t undef = undef)

section
variable {C : Cfg} {Φ : Nat → List D → Option (List D)} {ops : List Oper} {S : List Slot} {befs : List Nat} {H0 : List SObj} {N : Nat} {R : List Rec} {x0 x : Env} {w0 : World} {M : Nat → Prop} {ds : List Deferred} {L : Nat → Bool} {a : Act}

theorem put_tmps {a : Act} {dst : Option Tmp} {v : Value} {t : Nat} : (a.put dst v).tmps.getD t undef = if dst = some t ∧ t < a.tmps.size then v else a.tmps.getD t undef := by
  cases dst with
  | none => simp [Act.put]
  | some d =>
    simp only [Act.put, Option.some.injEq]
    by_cases hd : d = t
    · subst hd
      by_cases hl : d < a.tmps.size <;> simp [hl]
    · simp [hd, Array.getD_eq_getD_getElem?, Array.getElem?_setIfInBounds_ne hd]

theorem put_size {a : Act} {dst : Option Tmp} {v : Value} : (a.put dst v).tmps.size = a.tmps.size := by
  cases dst <;> simp [Act.put]
theorem put_defers' {a : Act} {dst : Option Tmp} {v : Value} : (a.put dst v).defers = a.defers := by
  cases dst <;> simp [Act.put]

theorem opd_const {p : Operand} {s : Slot} (hp : ∀ t, p ≠ .tmp t) (h : opd S p = some s) (a : Act) : GS x s (a.eval p) := by
  cases p with
  | tmp t => exact absurd rfl (hp t)
  | const v =>
    simp only [opd] at h
    obtain ⟨s', h1, rfl⟩ := Option.map_eq_some_iff.1 h
    exact constS1_ok h1
  | func f =>
    simp only [opd, Option.some.injEq] at h
    subst h
    exact ⟨#[], #[], rfl, ⟨rfl, by simp⟩, ⟨rfl, by simp⟩⟩
  | global g => simp [opd] at h

theorem regLk_ok {i : Nat} {cd : Cd} (hinv : Inv C ops S H0 R x0 w0 M ds L a x) (hL : L i = false) (hbef : ∀ j, (befs.getD i 0).testBit j = true → L j = true ∧ j < i) (hlate : ∀ j, (befs.getD j 0).testBit i = true → L j = false) (hcd : Holds x0.e cd) :
    LkOk x (regLk ops S befs (R.take i) i cd) a.eval := by
  intro p s h
  cases p with
  | tmp t =>
    simp only [regLk] at h
    split at h
    · rename_i j hj
      split at h
      · rename_i hb
        obtain ⟨h1, h2⟩ := hbef j hb
        obtain ⟨r, h3, h4⟩ := Option.bind_eq_some_iff.1 h
        simp only [Option.ite_none_right_eq_some, Bool.and_eq_true, List.all_eq_true, List.contains_eq_mem, decide_eq_true_eq, Option.some.injEq] at h4
        obtain ⟨⟨h5, h6⟩, rfl⟩ := h4
        obtain ⟨r', g1, g2, _⟩ := hinv.new t j hj h1
        rw [List.getElem?_take_of_lt h2, g1] at h3
        cases h3
        exact g2 ⟨h5, fun c hc => hcd c (h6 c hc)⟩
      · split at h
        · rename_i hji
          simp only [opd] at h
          split at h
          · cases h
          · refine hinv.old t s (fun k hk => ?_) h
            rw [hj] at hk
            cases hk
            rcases hji with rfl | hji
            · exact hL
            · exact hlate j hji
        · cases h
    · rename_i hj
      simp only [opd] at h
      split at h
      · cases h
      · exact hinv.old t s (fun k hk => by rw [hj] at hk; cases hk) h
  | const v => exact opd_const (fun t => by simp) (by simpa [regLk] using h) a
  | func f => exact opd_const (fun t => by simp) (by simpa [regLk] using h) a
  | global g => simp [regLk, opd] at h

theorem LkOk.ext {y : Env} {ρ : Lk} {ev : Operand → Value} (he : Ext x y) (h : LkOk x ρ ev) : LkOk y ρ ev := fun p s hp => (h p s hp).ext he

/-- one more -/
theorem reg_step (hsig : SigOk C Φ) (hok : RegOk C Φ ops S befs H0 N R x0.e) (hinv : Inv C ops S H0 R x0 w0 M ds L a x) {i : Nat} {o : Oper} (ho : ops[i]? = some o) (hL : L i = false)
    (hbef : ∀ r, R[i]? = some r → ∀ j, r.bef.testBit j = true → L j = true) (hdown : ∀ j r, R[j]? = some r → L j = true → ∀ m, r.bef.testBit m = true → L m = true)
    {Q : Exit → Act → World → Prop} {K : Act → World → Prop} (hK : ∀ a' x', Inv C ops S H0 R x0 w0 M ds (fun j => j == i || L j) a' x' → K a' x'.w) : wpOp C.P ops.toArray Q i K a x.w := by
  obtain ⟨r, hr, hrec⟩ := hok.all i o ho
  have hb : ∀ j, r.bef.testBit j = true → L j = true ∧ j < i := fun j h => ⟨hbef r hr j h, hrec.befLt j h⟩
  have hb' : ∀ j, (befs.getD i 0).testBit j = true → L j = true ∧ j < i := fun j h => hb j (by rw [hrec.befEq]; exact h)
  have hlate : ∀ j, (befs.getD j 0).testBit i = true → L j = false := by
    intro j h
    cases hq : L j with
    | false => rfl
    | true =>
      rcases Nat.lt_or_ge j ops.length with hjl | hjl
      · obtain ⟨rj, k1, k2⟩ := hok.all j ops[j] (List.getElem?_eq_getElem hjl)
        have := hdown j rj k1 hq i (by rw [k2.befEq]; exact h)
        rw [hL] at this; cases this
      · have := hok.bnd j hjl
        rw [this] at h
        simp at h
  -- who turns a block of those that are looked at, did so already, or will do so later
  have hmod : ∀ p, p ∈ r.ids → r.run = true → ∀ j rj, R[j]? = some rj → rj.run = true → rj.out.ef.mod C p ≠ none → j ≠ i → (L j = true ↔ j < i) := by
    intro p hp hrun j rj hj h1 h2 hne
    have hpt : p ∈ rj.out.ef.touch C := by
      cases hq : rj.out.ef.mod C p with
      | none => exact absurd hq h2
      | some s => exact Ef.touch_ok hq
    rcases Nat.lt_or_gt_of_ne hne with h3 | h3
    · refine ⟨fun _ => h3, fun _ => ?_⟩
      rcases hok.conf j i rj r h3 hj hr h1 hrun with h4 | ⟨h4, _⟩
      · exact (hb j h4).1
      · exact absurd hp (h4 p hpt)
    · refine ⟨fun h5 => ?_, fun h5 => by omega⟩
      rcases hok.conf i j r rj h3 hr hj hrun h1 with h4 | ⟨_, h4⟩
      · have := hdown j rj hj h5 i h4
        rw [hL] at this; cases this
      · exact absurd hp (h4 p hpt)
  have hlen : i < R.length := (List.getElem?_eq_some_iff.1 hr).1
  have hsplit : R = R.take i ++ r :: R.drop (i + 1) := by
    have := List.getElem?_eq_some_iff.1 hr
    obtain ⟨h1, h2⟩ := this
    rw [← h2, ← List.drop_eq_getElem_cons h1, List.take_append_drop]
  have htl : (R.take i).length = i := by rw [List.length_take]; omega
  have hview : r.run = true → ∀ p, p ∈ r.ids → look x.H p = look r.H p := by
    intro hrun p hp
    rw [hinv.heap, hrec.heap]
    conv => lhs; rw [hsplit]
    rw [obOf_append, htl, Nat.zero_add]
    rw [obOf_none]
    · refine obOf_congr _ _ _ fun j rj hj h1 h2 => ?_
      have hjl : j < i := by have := (List.getElem?_eq_some_iff.1 hj).1; rw [htl] at this; exact this
      rw [List.getElem?_take_of_lt hjl] at hj
      rw [Nat.zero_add]
      exact (hmod p hp hrun j rj hj h1 h2 (by omega)).2 hjl
    · intro j rj hj h1 h2
      cases j with
      | zero => rw [Nat.add_zero]; exact hL
      | succ j =>
        simp only [List.getElem?_cons_succ, List.getElem?_drop] at hj
        have := (hmod p hp hrun _ rj hj h1 h2 (by omega))
        rw [show i + (j + 1) = i + 1 + j by omega]
        cases hq : L (i + 1 + j) with
        | false => rfl
        | true => have := this.1 hq; omega
  have hafter : ∀ p, obOf C (fun j => j == i || L j) p R 0 (look H0 p) = if r.run = true then (r.out.ef.mod C p).getD (look x.H p) else look x.H p := by
    intro p
    have hsame : (r.run = true → r.out.ef.mod C p = none) → obOf C (fun j => j == i || L j) p R 0 (look H0 p) = look x.H p := by
      intro h
      rw [hinv.heap]
      refine obOf_congr _ _ _ fun j rj hj h1 h2 => ?_
      by_cases hji : j = i
      · subst hji
        rw [hr] at hj
        cases hj
        exact absurd (h h1) h2
      · simp [hji]
    cases hrun : r.run with
    | false => exact (hsame (by simp [hrun])).trans (by simp)
    | true =>
      rw [if_pos rfl]
      cases hm : r.out.ef.mod C p with
      | none => exact hsame fun _ => hm
      | some s =>
        have hp : p ∈ r.ids := hrec.mods hrun p (Ef.touch_ok hm)
        conv => lhs; rw [hsplit]
        rw [obOf_append, htl, Nat.zero_add]
        simp only [obOf, hrun, Bool.and_true, BEq.rfl, Bool.true_or, if_true, hm, Option.getD_some]
        refine obOf_none _ _ _ fun j rj hj h1 h2 => ?_
        simp only [List.getElem?_drop] at hj
        have := hmod p hp hrun _ rj hj h1 h2 (by omega)
        have hne : (i + 1 + j == i) = false := by simp; omega
        rw [hne, Bool.false_or]
        cases hq : L (i + 1 + j) with
        | false => rfl
        | true => have := this.1 hq; omega
  -- is it wanted?
  have hwant : Region.wanted o (yielded ops.toArray a.tmps) = true ↔ (r.run = true ∧ Holds x0.e r.cd) := by
    cases hg : o.guard with
    | none =>
      obtain ⟨h1, h2⟩ := hrec.guard0 hg
      simp [Region.wanted, hg, h1, h2, Holds]
    | some gw =>
      obtain ⟨g, want⟩ := gw
      obtain ⟨h1, rg, og, h2, h3, h4, h5⟩ := hrec.guard g want hg
      obtain ⟨d, hd⟩ := Option.isSome_iff_exists.1 h4
      obtain ⟨rg', q1, qrec⟩ := hok.all g og h3
      rw [h2] at q1
      cases q1
      obtain ⟨hix, hdl⟩ := qrec.dst d hd
      obtain ⟨rg', q1, q2, q3⟩ := hinv.new d g hix (hb g h1).1
      rw [h2] at q1
      cases q1
      have hdl' : d < a.tmps.size := by rw [hinv.size]; exact hdl
      have hy : yielded ops.toArray a.tmps g = match a.tmps.getD d undef with | .bool b => some b | _ => none := by
        simp only [yielded, List.getElem?_toArray, h3, Option.bind_some, hd, Array.getElem?_eq_getElem hdl', Array.getD_eq_getD_getElem?, Option.getD_some]
        cases a.tmps[d] <;> rfl
      simp only [Region.wanted, hg, hy, beq_iff_eq]
      rcases h5 with ⟨h6, h7⟩ | ⟨h6, ex, h7, _, h8, h9⟩
      · have hu := q3 (by simp [h6])
        rw [hu]
        simp [h7, undef]
      · by_cases hh : Holds x0.e rg.cd
        · have hgs := q2 ⟨h6, hh⟩
          rw [h7] at hgs
          obtain ⟨_, hv⟩ := hgs
          rw [hinv.e] at hv
          rw [hv]
          simp only [Option.some.injEq]
          have hiff : Holds x0.e ((ex, want) :: rg.cd) ↔ (ex.den x0.e).bool = want := by
            constructor
            · intro h; exact h _ (List.mem_cons_self ..)
            · intro h c hc
              rcases List.mem_cons.1 hc with rfl | hc
              · exact h
              · exact hh c hc
          cases hrun : r.run with
          | true => rw [← hiff, ← h8 hrun]; simp
          | false =>
            have := h9 hrun
            rw [hiff] at this
            simp [this]
        · have hu := q3 (fun h => hh h.2)
          rw [hu]
          have hno : ¬ (r.run = true ∧ Holds x0.e r.cd) := by
            rintro ⟨k1, k2⟩
            exact hh fun c hc => (h8 k1).1 k2 c (List.mem_cons_of_mem _ hc)
          simp [undef, hno]
  have hofa : ops.toArray[i]? = some o := by simpa using ho
  -- the slots behind it
  have hput : ∀ (v : Value) (y : Env), y.P = C.P → y.e = x0.e → Sat y w0 M → Ext x y → (∀ p, look y.H p = obOf C (fun j => j == i || L j) p R 0 (look H0 p)) →
      (r.run = true ∧ Holds x0.e r.cd → GS y r.out.dst v) → (¬ (r.run = true ∧ Holds x0.e r.cd) → v = undef) → (∀ b, y.I b → x.I b ∨ x.w.heap.size ≤ b ∨ Mof x b) → Inv C ops S H0 R x0 w0 M ds (fun j => j == i || L j) (a.put o.dst v) y := by
    intro v y e1 e2 e3 e4 e5 e6 e7 e8
    refine ⟨e1, e2, e3, hinv.ext.trans e4, e5, fun b hb => ?_, by rw [put_defers', hinv.defers], by rw [put_size, hinv.size], fun t s h1 h2 => ?_, fun t j h1 h2 => ?_⟩
    · rcases e8 b hb with h | h | ⟨o, h1, h2⟩
      · exact hinv.back b h
      · exact .inr (.inl (Nat.le_trans hinv.sat.frame.size h))
      · rcases hinv.sat.mine o b h1 h2 with h | h
        · exact .inr (.inr h)
        · exact .inr (.inl h)
    · rw [put_tmps, if_neg]
      · refine (hinv.old t s (fun k hk => ?_) h2).ext e4
        have := h1 k hk
        simp only [Bool.or_eq_false_iff] at this
        exact this.2
      · rintro ⟨h3, _⟩
        have := h1 i (hrec.dst t h3).1
        simp at this
    · rw [put_tmps]
      by_cases hd : o.dst = some t
      · obtain ⟨h3, h4⟩ := hrec.dst t hd
        rw [h1] at h3
        cases h3
        rw [if_pos ⟨hd, by rw [hinv.size]; exact h4⟩]
        exact ⟨r, hr, e6, e7⟩
      · rw [if_neg (fun h => hd h.1)]
        have hji : j ≠ i := by
          intro h
          subst h
          obtain ⟨_, o', h3, h4⟩ := ixOf_spec h1
          rw [Nat.sub_zero, ho] at h3
          cases h3
          exact hd h4
        obtain ⟨r', k1, k2, k3⟩ := hinv.new t j h1 (by simpa [hji] using h2)
        exact ⟨r', k1, fun h => (k2 h).ext e4, k3⟩
  unfold wpOp
  simp only [hofa]
  by_cases hw : Region.wanted o (yielded ops.toArray a.tmps) = true
  · rw [if_pos hw]
    left
    obtain ⟨hrun, hcd⟩ := hwant.1 hw
    have hxN : ∀ p, N ≤ p → look x.H p = .unborn := by
      intro p hp
      rw [hinv.heap, ← hok.start p hp]
      refine obOf_none _ _ _ fun j rj hj h1 h2 => ?_
      exfalso
      cases hq : rj.out.ef.mod C p with
      | none => exact h2 hq
      | some s =>
        have hjl : j < ops.length := by rw [← hok.len]; exact (List.getElem?_eq_some_iff.1 hj).1
        obtain ⟨rj', k1, k2⟩ := hok.all j ops[j] (List.getElem?_eq_getElem hjl)
        rw [hj] at k1
        cases k1
        have := k2.idsN p (k2.mods h1 p (Ef.touch_ok hq))
        omega
    have hmaskH : (x.mask N (bitsOf r.ids)).H = mask N (bitsOf r.ids) (look r.H) := mask_congr fun p _ h => hview hrun p ((bitsOf_spec _ _).1 h)
    have hme := mask_ext (ids := bitsOf r.ids) hxN
    have hpath : Holds x0.e (r.cd ++ r.path) := by
      intro c hc
      rcases List.mem_append.1 hc with h | h
      · exact hcd c h
      · exact hrec.path c h
    refine op_ok (x := x.mask N (bitsOf r.ids)) (d := r.out) hsig hinv.P (mask_sat hinv.sat hxN) (n := r.n) (ρ := regLk ops S befs (R.take i) i (r.cd ++ r.path)) (ρc := fun ex b => regLk ops S befs (R.take i) i ((ex, b) :: (r.cd ++ r.path))) (kn := tri r.path) (k := r.k) (base := r.base)
      (by show r.n ≤ x.e.length; rw [hinv.e]; exact hrec.n) (by rw [hmaskH]; exact hrec.sym hrun) (LkOk.ext hme (regLk_ok hinv hL hb' hlate hpath)) (fun ex t ht => LkOk.ext hme (regLk_ok hinv hL hb' hlate (fun c hc => ?_))) (fun ex b hk => by show (ex.den x.e).bool = b; rw [hinv.e]; exact tri_ok hk hrec.path) (fun c hc => ?_) (fun f h hf => ?_) (fun v w' hf => ?_)
    · rcases List.mem_cons.1 hc with rfl | hc
      · have ht' : (ex.den x.e).bool = t := ht
        rw [hinv.e] at ht'
        exact ht'
      · exact hpath c hc
    · show (c.den x.e).bool = true
      rw [hinv.e]
      exact hrec.gs hrun hcd c hc
    · show CallFact Φ C x.e f h
      rw [hinv.e]
      exact hrec.call hrun f h hf
    · obtain ⟨y', f1, f2, f3, f4, f5, f6, f7, f8⟩ := hf
      have hidsN : ∀ p, (bitsOf r.ids).testBit p = true → p < N := fun p h => hrec.idsN p ((bitsOf_spec _ _).1 h)
      have hmlk : ∀ p, (bitsOf r.ids).testBit p = true → look (x.mask N (bitsOf r.ids)).H p = look x.H p := fun p h => by
        show look (mask N (bitsOf r.ids) (look x.H)) p = _
        rw [look_mask, if_pos (hidsN p h), if_pos h]
      obtain ⟨g1, g2, g3, g4, g5⟩ := unmask hinv.sat hxN hidsN f6 f7 f5 (fun p T l hp h => by
          rw [f4] at h ⊢
          cases hq : r.out.ef.mod C p with
          | none => rw [Option.getD_none, hmlk p hp]
          | some s => rw [hq, Option.getD_some] at h; subst h; exact absurd hq (hrec.fz hrun p T l)) (fun p hp => by
          rw [f4]
          cases hq : r.out.ef.mod C p with
          | none =>
            rw [Option.getD_none, hmlk p hp, hview hrun p ((bitsOf_spec _ _).1 hp)]
            exact hrec.win p ((bitsOf_spec _ _).1 hp)
          | some s => exact hrec.win2 hrun p s hq)
      have hyw : (x.unmask y' N (bitsOf r.ids)).w = w' := f1
      rw [← hyw]
      refine hK _ _ (hput v _ ?_ ?_ g1 g2 (fun p => ?_) (fun _ => g4 _ _ (hrec.win3 hrun) f8) (fun h => absurd ⟨hrun, hcd⟩ h) g5)
      · show y'.P = C.P; rw [f3]; exact hinv.P
      · show y'.e = x0.e; rw [f2]; exact hinv.e
      · rw [g3, hafter, if_pos hrun]
        split
        · rename_i hp
          rw [f4, hmlk p hp]
        · rename_i hp
          cases hq : r.out.ef.mod C p with
          | none => rfl
          | some s => exact absurd ((bitsOf_spec _ _).2 (hrec.mods hrun p (Ef.touch_ok hq))) hp
  · rw [if_neg hw]
    have hno : ¬ (r.run = true ∧ Holds x0.e r.cd) := fun h => hw (hwant.2 h)
    refine hK _ _ (hput undef x hinv.P hinv.e hinv.sat (Ext.refl x) (fun p => ?_) (fun h => absurd h hno) (fun _ => rfl) (fun b => .inl))
    rw [hafter]
    split
    · rename_i hrun
      rcases hrec.eff hrun with h1 | h1
      · exact absurd ⟨hrun, by rw [h1]; intro c hc; cases hc⟩ hno
      · rw [h1]; rfl
    · rfl

end
end Glx
