/- What a call does to the picture. -/
import Derived.Test.YtfelpmijieomaaaGreatDoorGlxCall
namespace Glx
open Go

/-- what a call is handed, and where what it leaves goes -/
structure Hand where
  us : List Ex
  σ : Src
  bor : List Nat
  k0 : Nat
  base : Nat

def Sig.cnt (s : Sig) : Nat := s.outH.length - s.inH.length
/-- the block of the callee's that is one of the caller's -/
def Hand.corr (h : Hand) (s : Sig) (p : Nat) : Option Nat :=
  if h.k0 ≤ p ∧ p < h.k0 + s.cnt then some (s.inH.length + (p - h.k0)) else (List.range s.inH.length).find? fun k => (look s.inH k).live && (src h.σ k == some (some p))
def Hand.tau (h : Hand) (s : Sig) (k : Nat) : Nat := if k < s.inH.length then ((src h.σ k).join).getD 0 else h.k0 + (k - s.inH.length)

def renE (base : Nat) : Ex → Option Ex
  | .var i => some (.var (base + i))
  | _ => none

def Hand.ren (h : Hand) (s : Sig) : SV → SV
  | .int k e => match renE h.base e with | some e => .int k e | none => .top
  | .bool e => match renE h.base e with | some e => .bool e | none => .top
  | .str e => match renE h.base e with | some e => .str e | none => .top
  | .sl T e => match renE h.base e with | some e => .sl T e | none => .top
  | .ptr o off => if isCells (look s.outH o) then .ptr (h.tau s o) off else .top
  | .own o u => if curVer s.outH o u then .own (h.tau s o) u else .top
  | .nils => .nils
  | .nilp => .nilp
  | .nilf => .nilf
  | .ifc e => match renE h.base e with | some e => .ifc e | none => .top
  | _ => .top

def Hand.renObj (h : Hand) (s : Sig) : SObj → SObj
  | .cells T l false => .cells T (l.map (h.ren s)) false
  | .row T e u => match renE h.base e with | some e => .row T e u | none => .dead
  | _ => .dead

theorem Hand.renObj_born (h : Hand) (s : Sig) (o : SObj) : (h.renObj s o).born = true := by
  cases o with
  | cells T l fz => cases fz <;> rfl
  | row T e u =>
    simp only [Hand.renObj]
    cases renE h.base e <;> rfl
  | _ => rfl

def Hand.ren1 (h : Hand) (s : Sig) : S1 → S1
  | .one v => .one (h.ren s v)
  | .agg l => .agg (l.map (h.ren s))

def Hand.renS (h : Hand) (s : Sig) : Slot → Slot
  | .v t => .v (h.ren1 s t)
  | .tup l => .tup (l.map (h.ren1 s))

def Hand.after (h : Hand) (s : Sig) (H : List SObj) : List SObj :=
  (List.range (max H.length (h.k0 + s.cnt))).map fun p => match h.corr s p with
    | some k => h.renObj s (look s.outH k)
    | none => look H p

def plainSV : SV → Bool
  | .int .. | .bool _ | .str _ | .ptr .. | .nilp | .nilf | .ifc _ | .top => true
  | _ => false
def plain1 : S1 → Bool
  | .one s => plainSV s
  | .agg l => l.all plainSV
def plainS : Slot → Bool
  | .v s => plain1 s
  | .tup l => l.all plain1
def plainObj : SObj → Bool
  | .cells _ l _ => l.all plainSV
  | .row .. => false
  | _ => true
def Sig.plain (s : Sig) : Bool := plainS s.outS && s.outH.all plainObj

def sameT : SObj → SObj → Bool
  | .cells T _ _, .cells T' _ _ => T == T'
  | _, _ => false

theorem sameT_spec {a b : SObj} (h : sameT a b = true) : ∃ T l fz l' fz', a = .cells T l fz ∧ b = .cells T l' fz' := by
  unfold sameT at h
  split at h
  · simp only [beq_iff_eq] at h; subst h; exact ⟨_, _, _, _, _, rfl, rfl⟩
  · cases h

def fitArg (h : Hand) (s : Sig) (H : List SObj) (t a : Slot) : Bool :=
  fitS 0 h.us h.σ s.inH H t a ||
  (match t, a with
    | .v (.one (.sl T t)), .v (.one (.own o ver)) => match borrow H (.own o ver) with
      | some (T', e) => T == T' && fitE 0 h.us t e && h.bor.contains o
      | none => false
    | _, _ => false)

def fitArgs (h : Hand) (s : Sig) (H : List SObj) : List Slot → List Slot → Bool
  | [], [] => true
  | t :: ts, a :: as => fitArg h s H t a && fitArgs h s H ts as
  | _, _ => false

def callOk (P : Program) (h : Hand) (s : Sig) (H : List SObj) (As : List Slot) : Bool :=
  (h.us.length == s.inN) && fitArgs h s H s.inS As && fitAll P 0 h.us h.σ s.inH H &&
  (h.bor.all fun o => (match look H o with | .row .. => true | _ => false) && !(srcs h.σ s.inH).contains o) && (h.bor.isEmpty || s.plain) &&
  ((List.range s.inH.length).all fun k => !(look s.outH k).live || (sameT (look s.outH k) (look s.inH k) && ((src h.σ k).join).isSome)) &&
  (List.range (s.cnt)).all fun j => !(look H (h.k0 + j)).born

section
variable {z : Env} {h : Hand} {s : Sig} {w0 : World} {M : Nat → Prop}

def Hand.lent (h : Hand) (z : Env) (b : Nat) : Prop := ∃ o ∈ h.bor, blkOf (z.ν o) = some b

theorem fitArgs_ok (hs : Sat z w0 M) : ∀ {ts As : List Slot} {args : List Value}, fitArgs h s z.H ts As = true → (args.length = As.length ∧ ∀ i t, As[i]? = some t → GS z t (args.getD i undef)) →
    (args.length = ts.length ∧ ∀ i t, ts[i]? = some t → GS (z.fit 0 h.us h.σ s.inH (h.lent z)) t (args.getD i undef))
  | [], [], args, _, hg => ⟨hg.1, fun i t hi => by simp at hi⟩
  | t :: ts, a :: As, args, hf, hg => by
    simp only [fitArgs, Bool.and_eq_true] at hf
    cases args with
    | nil => have := hg.1; simp at this
    | cons v args =>
      have ih := fitArgs_ok hs hf.2 (args := args) ⟨by have := hg.1; simpa using this, fun i t hi => by simpa using hg.2 (i + 1) t (by simpa using hi)⟩
      have hv : GS z a v := hg.2 0 a rfl
      have hv' : GS (z.fit 0 h.us h.σ s.inH (h.lent z)) t v := by
        have h1 := hf.1
        unfold fitArg at h1
        rw [Bool.or_eq_true] at h1
        rcases h1 with h1 | h1
        · exact fitS_ok h1 (Nat.zero_le _) hv
        · split at h1
          · rename_i T t o ver
            split at h1
            · rename_i T' e hb
              simp only [Bool.and_eq_true, beq_iff_eq, List.contains_eq_mem, decide_eq_true_eq] at h1
              obtain ⟨⟨rfl, h2⟩, h3⟩ := h1
              obtain ⟨b1, b2⟩ := borrow_ok hs hb hv
              obtain ⟨a1, a2⟩ := fitE_ok (x := z) h2 (Nat.zero_le _)
              refine ⟨a1, ?_⟩
              simp only [Env.fit]
              rw [a2]
              have hvo : v = z.ν o := by
                simp only [borrow] at hb
                split at hb
                · rename_i T2 e2 u hl
                  simp only [Option.ite_none_right_eq_some] at hb
                  exact (hv.2 T2 e2 u hl).2 hb.1
                · cases hb
              refine b2.mono (fun b hb' => ?_) fun _ _ => rfl
              rcases hb' with hb' | hb'
              · exact .inl hb'
              · exact .inr ⟨o, h3, by rw [← hvo]; exact hb'⟩
            · cases h1
          · cases h1
      refine ⟨by simp [ih.1], fun i r hi => ?_⟩
      cases i with
      | zero => simp only [List.getElem?_cons_zero, Option.some.injEq] at hi; subst hi; exact hv'
      | succ i => simpa using ih.2 i r (by simpa using hi)
  | [], _ :: _, _, hf, _ => by simp [fitArgs] at hf
  | _ :: _, [], _, hf, _ => by simp [fitArgs] at hf

theorem look_after (hf : ∀ k o, (look s.inH k).live = true → src h.σ k = some (some o) → (look z.H o).live = true) (p : Nat) :
    look (h.after s z.H) p = match h.corr s p with | some k => h.renObj s (look s.outH k) | none => look z.H p := by
  unfold look Hand.after
  by_cases hp : p < max z.H.length (h.k0 + s.cnt)
  · simp [List.getD_eq_getElem?_getD, hp, look]
  · have h1 : ¬ p < z.H.length := by omega
    have h2 : ¬ p < h.k0 + s.cnt := by omega
    have hc : h.corr s p = none := by
      unfold Hand.corr
      rw [if_neg (by omega), List.find?_eq_none]
      intro k _ hk
      simp only [Bool.and_eq_true, beq_iff_eq] at hk
      have := hf k p hk.1 hk.2
      exact h1 (look_lt (by cases hq : look z.H p <;> rw [hq] at this <;> first | rfl | cases this))
    rw [hc]
    simp [List.getD_eq_getElem?_getD, List.getElem?_eq_none (show z.H.length ≤ p by omega), List.getElem?_eq_none (show ((List.range (max z.H.length (h.k0 + s.cnt))).map fun p => match h.corr s p with | some k => h.renObj s (look s.outH k) | none => look z.H p).length ≤ p by simp; omega)]

/-- the caller's picture behind a call -/
def Hand.behind (h : Hand) (s : Sig) (z y : Env) : Env :=
  { P := z.P, I := fun b => if h.bor.isEmpty then y.I b else z.I b, ν := fun p => match h.corr s p with | some k => y.ν k | none => z.ν p, H := h.after s z.H, e := z.e, w := y.w }

theorem call_ok (hs : Sat z w0 M) {As : List Slot} (hk : callOk z.P h s z.H As = true) {K : FuncId} {f : List D → Option (List D)} (himpl : Impl z.P K s f) {args : Array Value}
    (hargs : args.size = As.length ∧ ∀ i t, As[i]? = some t → GS z t (args.getD i undef)) {r : List D} (hr : f (dens z.e h.us) = some r)
    (hbase : ∀ i, i < r.length → h.base + i < z.e.length ∧ z.e.getD (h.base + i) default = r.getD i default) :
    r.length = s.outN ∧ Calls z.P K args z.w fun e w' => ∃ v z', e = .returned v ∧ z'.w = w' ∧ z'.e = z.e ∧ z'.P = z.P ∧ (∀ p, look z'.H p = match h.corr s p with | some k => h.renObj s (look s.outH k) | none => look z.H p) ∧
      (∀ b, z'.I b → z.I b ∨ z.w.heap.size ≤ b ∨ Mof z b) ∧ Sat z' w0 M ∧ Ext z z' ∧ GS z' (h.renS s s.outS) v := by
  simp only [callOk, Bool.and_eq_true, beq_iff_eq, List.all_eq_true, List.mem_range, Bool.or_eq_true, Bool.not_eq_true'] at hk
  obtain ⟨⟨⟨⟨⟨⟨hus, hfa⟩, hfit⟩, hbor⟩, hplain⟩, hcell⟩, hfresh⟩ := hk
  have hborlive : ∀ o ∈ h.bor, (look z.H o).live = true ∧ (look z.H o).loose = true := by
    intro o ho
    have := (hbor o ho).1
    cases hl : look z.H o <;> rw [hl] at this <;> first | exact ⟨rfl, rfl⟩ | cases this
  have hborsrc : ∀ k o, (look s.inH k).live = true → src h.σ k = some (some o) → o ∉ h.bor := by
    intro k o h1 h2 h3
    have := (hbor o h3).2
    simp only [List.contains_eq_mem, decide_eq_false_iff_not] at this
    exact this (mem_srcs h1 h2)
  have hinj : nodup (srcs h.σ s.inH) = true := by
    unfold fitAll at hfit
    simp only [Bool.and_eq_true] at hfit
    exact hfit.1
  have hob : ∀ k, fitObj z.P 0 h.us h.σ s.inH z.H k (look s.inH k) = true := by
    intro k
    unfold fitAll at hfit
    simp only [Bool.and_eq_true, List.all_eq_true, List.mem_range] at hfit
    rcases Nat.lt_or_ge k s.inH.length with h1 | h1
    · exact hfit.2 k h1
    · simp [look, List.getD_eq_getElem?_getD, List.getElem?_eq_none h1, fitObj]
  have hlive : ∀ k o, (look s.inH k).live = true → src h.σ k = some (some o) → (look z.H o).live = true ∧ ((look s.inH k).loose = true → (look z.H o).loose = true) := by
    intro k o h1 h2
    rcases fitObj_src (hob k) h1 with h3 | ⟨o', h3, h4, h5⟩
    · rw [h2] at h3; cases h3
    · rw [h2] at h3; cases h3; exact ⟨h4, h5⟩
  have live_born : ∀ p, (look z.H p).live = true → (look z.H p).born = true := by
    intro p hp
    cases hq : look z.H p <;> rw [hq] at hp <;> first | rfl | cases hp
  -- the callee's picture
  generalize hx : z.fit 0 h.us h.σ s.inH (h.lent z) = x
  have hxe : x.e = dens z.e h.us := by rw [← hx]; simp [Env.fit]
  have hxH : x.H = s.inH := by rw [← hx]; rfl
  have hxw : x.w = z.w := by rw [← hx]; rfl
  have hxP : x.P = z.P := by rw [← hx]; rfl
  have hxI : ∀ b, x.I b ↔ z.I b ∨ h.lent z b := by intro b; rw [← hx]; rfl
  have hxν : ∀ k, x.ν k = nuOf z h.σ k := by intro k; rw [← hx]; rfl
  have hsatx : Sat x x.w (Mof x) := by
    have := fit_sat (bor := h.lent z) (w1 := z.w) (M1 := Mof x) hs hfit (Nat.zero_le _) (fun b ⟨o, ho, hb⟩ => live_blk_lt hs (hborlive o ho).1 hb) (fun k o b h1 h2 h3 _ ⟨o2, h5, h6⟩ => by
      have hne : o ≠ o2 := fun e => hborsrc k o h1 h2 (e ▸ h5)
      exact hs.apart o o2 b hne (hlive k o h1 h2).1 (hborlive o2 h5).1 h3 h6) (Fr.refl z.w _) (fun k b h1 h2 => .inl ⟨k, by rw [hxH]; exact h1, by rw [hxν]; exact h2⟩)
    rw [hx] at this
    rw [hxw]
    exact this
  have hargs' := fitArgs_ok (h := h) (s := s) hs hfa (args := args.toList) ⟨by simpa using hargs.1, fun i t hi => by simpa using hargs.2 i t hi⟩
  rw [hx] at hargs'
  obtain ⟨hrl, hcalls⟩ := himpl x args hxP hxH (by rw [hxe]; simp [dens, hus]) hsatx (by simpa using hargs'.1) (fun i t hi => by simpa using hargs'.2 i t hi) r (by rw [hxe]; exact hr)
  refine ⟨hrl, ?_⟩
  rw [hxw] at hcalls
  refine hcalls.mono ?_
  rintro e w' ⟨v, y, rfl, hyw, hye, hleft, hgv⟩
  -- blocks that the callee may have turned are of those that it was handed
  have hMof : ∀ b, Mof x b → ∃ k o, (look s.inH k).live = true ∧ src h.σ k = some (some o) ∧ (look z.H o).live = true ∧ (look z.H o).loose = true ∧ blkOf (z.ν o) = some b := by
    rintro b ⟨k, h1, h2⟩
    rw [hxH] at h1
    rw [hxν] at h2
    have h1l : (look s.inH k).live = true := by cases hq : look s.inH k <;> rw [hq] at h1 <;> first | rfl | cases h1
    rcases fitObj_src (hob k) h1l with h3 | ⟨o, h3, h4, h5⟩
    · rw [nuOf_none h3] at h2; cases h2
    · rw [nuOf_some h3] at h2
      exact ⟨k, o, h1l, h3, h4, h5 h1, h2⟩
  have hlook := look_after (h := h) (s := s) (z := z) (fun k o h1 h2 => (hlive k o h1 h2).1)
  -- the callee's block of one of the caller's
  have hcorr : ∀ p k, h.corr s p = some k → (s.inH.length ≤ k ∧ k < s.outH.length ∧ (look z.H p).born = false) ∨ (k < s.inH.length ∧ (look s.inH k).live = true ∧ src h.σ k = some (some p)) := by
    intro p k hc
    unfold Hand.corr at hc
    split at hc
    · rename_i h1
      cases hc
      left
      have h2 := hfresh (p - h.k0) (by omega)
      rw [show h.k0 + (p - h.k0) = p by omega] at h2
      refine ⟨by omega, ?_, h2⟩
      have := h1.2
      unfold Sig.cnt at this
      omega
    · right
      have h1 := List.find?_some hc
      have h2 := List.mem_of_find?_eq_some hc
      simp only [Bool.and_eq_true, beq_iff_eq] at h1
      exact ⟨List.mem_range.1 h2, h1⟩
  have hcorr_none : ∀ p, h.corr s p = none → ∀ k, (look s.inH k).live = true → src h.σ k ≠ some (some p) := by
    intro p hc k h1 h2
    unfold Hand.corr at hc
    split at hc
    · cases hc
    · rw [List.find?_eq_none] at hc
      have hk : k < s.inH.length := look_lt (by cases hq : look s.inH k <;> rw [hq] at h1 <;> first | rfl | cases h1)
      exact hc k (List.mem_range.2 hk) (by simp [h1, h2])
  have hcorr_inj : ∀ p p' k, h.corr s p = some k → h.corr s p' = some k → p = p' := by
    intro p p' k h1 h2
    rcases hcorr p k h1 with ⟨a1, a2, a3⟩ | ⟨a1, a2, a3⟩ <;> rcases hcorr p' k h2 with ⟨b1, b2, b3⟩ | ⟨b1, b2, b3⟩
    · unfold Hand.corr at h1 h2
      split at h1
      · split at h2
        · rename_i q1 q2
          simp only [Option.some.injEq] at h1 h2
          omega
        · have := List.mem_of_find?_eq_some h2
          simp at this
          omega
      · have := List.mem_of_find?_eq_some h1
        simp at this
        omega
    · omega
    · omega
    · rw [a3] at b3; simpa using b3
  -- a block of what is left, and where it goes
  have htau : ∀ k, (look s.outH k).live = true → h.corr s (h.tau s k) = some k := by
    intro k hl
    have hko : k < s.outH.length := look_lt (by cases hq : look s.outH k <;> rw [hq] at hl <;> first | rfl | cases hl)
    unfold Hand.tau
    split
    · rename_i hki
      have := hcell k hki
      rw [hl] at this
      simp only [Bool.true_eq_false, false_or] at this
      obtain ⟨h2, h3⟩ := this
      obtain ⟨o, h3⟩ := Option.isSome_iff_exists.1 h3
      have h4 : src h.σ k = some (some o) := by
        cases hq : src h.σ k with
        | none => rw [hq] at h3; cases h3
        | some q => rw [hq] at h3; simp at h3; rw [h3]
      rw [h3, Option.getD_some]
      have hil : (look s.inH k).live = true := by obtain ⟨T, l, fz, l', fz', _, hq⟩ := sameT_spec h2; rw [hq]; rfl
      have holive := (hlive k o hil h4).1
      have hob' := live_born o holive
      unfold Hand.corr
      rw [if_neg]
      · cases hf : (List.range s.inH.length).find? fun k => (look s.inH k).live && (src h.σ k == some (some o)) with
        | none =>
          rw [List.find?_eq_none] at hf
          exact absurd (by simp [hil, h4]) (hf k (List.mem_range.2 hki))
        | some k' =>
          have a1 := List.find?_some hf
          simp only [Bool.and_eq_true, beq_iff_eq] at a1
          rw [srcs_inj hinj k' k o a1.1 hil a1.2 h4]
      · rintro ⟨h5, h6⟩
        have := hfresh (o - h.k0) (by omega)
        rw [show h.k0 + (o - h.k0) = o by omega, hob'] at this
        cases this
    · unfold Hand.corr
      rw [if_pos (by unfold Sig.cnt; omega)]
      congr 1
      omega
  -- the picture behind the call
  have hPy : y.P = z.P := hleft.P.trans hxP
  have hzI : ∀ b, z.I b → y.I b := fun b hb => hleft.I b ((hxI b).2 (.inl hb))
  have hheap : ∀ b, b < z.w.heap.size → ¬ Mof x b → y.w.heap[b]? = z.w.heap[b]? := fun b h1 h2 => by
    have := hleft.sat.frame.block b (by rw [hxw]; exact h1) h2
    rwa [hxw] at this
  have hIM : ∀ b, z.I b → ¬ Mof x b := by
    intro b hb hm
    obtain ⟨k, o, _, _, _, h4, h5⟩ := hMof b hm
    exact loose_not_I hs h4 h5 hb
  have hbehind_e : (h.behind s z y).e = z.e := rfl
  have he : Ext z (h.behind s z y) := by
    refine ⟨rfl, fun b hb => ?_, ⟨[], by simp [hbehind_e]⟩, fun b hb => hheap b (hs.ibound b hb) (hIM b hb), fun p hp => ?_, fun p T l fz hp hl => ?_, fun p T e' u hp hl => ?_⟩
    · simp only [Hand.behind]
      split
      · exact hzI b hb
      · exact hb
    · show (look (h.after s z.H) p).born = true
      rw [hlook]
      split
      · exact h.renObj_born s _
      · exact hp
    · have hl' : look (h.after s z.H) p = .cells T l fz := hl
      rw [hlook] at hl'
      cases hc : h.corr s p with
      | none =>
        rw [hc] at hl'
        exact ⟨⟨l, fz, hl'⟩, by simp [Hand.behind, hc]⟩
      | some k =>
        rw [hc] at hl'
        rcases hcorr p k hc with ⟨_, _, h3⟩ | ⟨h1, h2, h3⟩
        · rw [h3] at hp; cases hp
        · simp only at hl'
          have hcl : ∃ T' l', look s.outH k = .cells T' l' false := by
            unfold Hand.renObj at hl'
            split at hl'
            · rename_i hq; exact ⟨_, _, hq⟩
            · split at hl' <;> cases hl'
            · cases hl'
          obtain ⟨T', l', hq⟩ := hcl
          have hsame := hleft.same k T' l' false hq h1
          have hcl2 := hcell k h1
          rw [hq] at hcl2
          simp only [SObj.live, Bool.true_eq_false, false_or] at hcl2
          obtain ⟨h4, _⟩ := hcl2
          obtain ⟨T2, l3, fz3, l2, fz2, h5, h4⟩ := sameT_spec h4
          simp only [SObj.cells.injEq] at h5
          obtain ⟨rfl, rfl, rfl⟩ := h5
          have hfo := hob k
          rw [h4] at hfo
          simp only [fitObj, h3] at hfo
          refine ⟨?_, by simp only [Hand.behind, hc]; rw [hsame, hxν, nuOf_some h3]⟩
          split at hfo
          · rename_i T3 l3 fz3 hlk
            simp only [Bool.and_eq_true, beq_iff_eq] at hfo
            rw [hq] at hl'
            simp only [Hand.renObj, SObj.cells.injEq] at hl'
            exact ⟨l3, fz3, by rw [hlk, ← hfo.1.1, hl'.1]⟩
          · cases hfo
    · have hl' : look (h.after s z.H) p = .row T e' u := hl
      rw [hlook] at hl'
      cases hc : h.corr s p with
      | none =>
        rw [hc] at hl'
        exact ⟨e', u, hl', Nat.le_refl _, fun _ => by simp [Hand.behind, hc]⟩
      | some k =>
        rw [hc] at hl'
        rcases hcorr p k hc with ⟨_, _, h3⟩ | ⟨h1, h2, h3⟩
        · rw [h3] at hp; cases hp
        · exfalso
          simp only at hl'
          have hlv : (look s.outH k).live = true := by
            unfold Hand.renObj at hl'
            split at hl' <;> rename_i hq
            · cases hl'
            · rw [hq]; rfl
            · cases hl'
          have := hcell k h1
          rw [hlv] at this
          simp only [Bool.true_eq_false, false_or] at this
          obtain ⟨h4, _⟩ := this
          obtain ⟨T2, l2, fz2, _, _, h4, _⟩ := sameT_spec h4
          rw [h4] at hl'
          unfold Hand.renObj at hl'
          split at hl' <;> rename_i hq
          · cases hl'
          · cases hq
          · cases hl'
  -- the parts of what is left, renamed
  have hnuk : ∀ p k, h.corr s p = some k → (h.behind s z y).ν p = y.ν k := fun p k hc => by simp [Hand.behind, hc]
  have hHb : ∀ p, look (h.behind s z y).H p = match h.corr s p with | some k => h.renObj s (look s.outH k) | none => look z.H p := fun p => hlook p
  have hrenE : ∀ e e', renE h.base e = some e' → e.sc y.e.length = true → e'.sc (h.behind s z y).e.length = true ∧ e'.den (h.behind s z y).e = e.den y.e := by
    intro e e' h1 h2
    unfold renE at h1
    split at h1
    · rename_i i
      cases h1
      have hi : i < y.e.length := by simpa [Ex.sc] using h2
      rw [hye] at hi
      obtain ⟨b1, b2⟩ := hbase i hi
      refine ⟨by simpa [Ex.sc, hbehind_e] using b1, ?_⟩
      simp only [Ex.den, hbehind_e, hye]
      exact b2
    · cases h1
  have hIz : ∀ (t : LTy) (v : Value) (d : D), (h.bor.isEmpty = true ∨ ∀ T, t ≠ .sl T) → Rd z.P y.I y.w.heap t v d → Rd z.P (h.behind s z y).I (h.behind s z y).w.heap t v d := by
    intro t v d h1 h2
    rcases h1 with h1 | h1
    · refine h2.mono (fun b hb => ?_) fun _ _ => rfl
      simp [Hand.behind, h1, hb]
    · cases h2 with
      | int => exact .int
      | bool => exact .bool
      | str => exact .str
      | nil _ => exact absurd rfl (h1 _)
      | row => exact absurd rfl (h1 _)
  have hren : ∀ t v, (h.bor.isEmpty = true ∨ plainSV t = true) → G y t v → G (h.behind s z y) (h.ren s t) v := by
    intro t v hpl hg
    cases t with
    | int k e =>
      simp only [Hand.ren]
      split
      · rename_i e' h1
        obtain ⟨a1, a2⟩ := hrenE e e' h1 hg.1
        exact ⟨a1, by rw [a2]; exact hg.2⟩
      · trivial
    | bool e =>
      simp only [Hand.ren]
      split
      · rename_i e' h1
        obtain ⟨a1, a2⟩ := hrenE e e' h1 hg.1
        exact ⟨a1, by rw [a2]; exact hg.2⟩
      · trivial
    | str e =>
      simp only [Hand.ren]
      split
      · rename_i e' h1
        obtain ⟨a1, a2⟩ := hrenE e e' h1 hg.1
        exact ⟨a1, by rw [a2]; exact hg.2⟩
      · trivial
    | sl T e =>
      simp only [Hand.ren]
      split
      · rename_i e' h1
        obtain ⟨a1, a2⟩ := hrenE e e' h1 hg.1
        refine ⟨a1, ?_⟩
        rw [a2]
        refine hIz _ _ _ (.inl (hpl.resolve_right (by simp [plainSV]))) ?_
        have := hg.2
        rwa [hPy] at this
      · trivial
    | nils => exact hg
    | nilp => exact hg
    | nilf => exact hg
    | ifc e =>
      simp only [Hand.ren]
      split
      · rename_i e' h1
        obtain ⟨a1, a2⟩ := hrenE e e' h1 hg.1
        exact ⟨a1, by rw [a2]; exact hg.2⟩
      · trivial
    | ptr o off =>
      simp only [Hand.ren]
      split
      · rename_i h1
        obtain ⟨T, l, fz, hq⟩ := isCells_spec h1
        obtain ⟨b, b1, b2⟩ := hg.2 T l fz (by rw [hleft.H]; exact hq)
        have hc := htau o (by rw [hq]; rfl)
        refine ⟨?_, fun _ _ _ _ => ⟨b, by rw [hnuk _ _ hc]; exact b1, b2⟩⟩
        rw [hHb, hc]
        exact h.renObj_born s _
      · trivial
    | own o u =>
      simp only [Hand.ren]
      split
      · rename_i h1
        unfold curVer at h1
        split at h1
        · rename_i T e u' hq
          have hu : u' = u := by simpa using h1
          have hv := (hg.2 T e u' (by rw [hleft.H]; exact hq)).2 hu
          have hc := htau o (by rw [hq]; rfl)
          refine ⟨?_, fun T2 e2 u2 h2 => ?_⟩
          · rw [hHb, hc]
            exact h.renObj_born s _
          · rw [hHb, hc] at h2
            simp only [hq, Hand.renObj] at h2
            split at h2
            · simp only [SObj.row.injEq] at h2
              exact ⟨by omega, fun _ => by rw [hnuk _ _ hc]; exact hv⟩
            · cases h2
        · cases h1
      · trivial
    | _ => trivial
  have hrenL : ∀ (l : List SV) (c : Array Value), (h.bor.isEmpty = true ∨ l.all plainSV = true) → GL y l c → GL (h.behind s z y) (l.map (h.ren s)) c := by
    intro l c hpl hg
    refine ⟨by rw [List.length_map]; exact hg.1, fun j t hj => ?_⟩
    simp only [List.getElem?_map, Option.map_eq_some_iff] at hj
    obtain ⟨t', h1, rfl⟩ := hj
    refine hren t' _ (hpl.imp id fun h2 => ?_) (hg.2 j t' h1)
    rw [List.all_eq_true] at h2
    exact h2 t' (List.mem_of_getElem? h1)
  have hplainObj : ∀ k, h.bor.isEmpty = true ∨ plainObj (look s.outH k) = true := by
    intro k
    refine hplain.imp id fun h1 => ?_
    unfold Sig.plain at h1
    simp only [Bool.and_eq_true, List.all_eq_true] at h1
    rcases Nat.lt_or_ge k s.outH.length with h2 | h2
    · have : look s.outH k = s.outH[k] := by simp [look, h2]
      rw [this]
      exact h1.2 _ (List.getElem_mem h2)
    · simp [look, List.getD_eq_getElem?_getD, List.getElem?_eq_none h2, plainObj]
  -- what a renamed block that lives says
  have hlive2 : ∀ k, (h.renObj s (look s.outH k)).live = true → (look s.outH k).live = true ∧ (look s.outH k).loose = true := by
    intro k hl
    unfold Hand.renObj at hl
    split at hl <;> rename_i hq
    · rw [hq]; exact ⟨rfl, rfl⟩
    · rw [hq]; exact ⟨rfl, rfl⟩
    · cases hl
  have hblk2 : ∀ k b, (look s.outH k).loose = true → blkOf (y.ν k) = some b → Mof x b ∨ z.w.heap.size ≤ b := by
    intro k b h1 h2
    have := hleft.sat.mine k b (by rw [hleft.H]; exact h1) h2
    rwa [hxw] at this
  have hMofp : ∀ p b, h.corr s p = none → (look z.H p).live = true → blkOf (z.ν p) = some b → ¬ Mof x b := by
    intro p b hc hl hb hm
    obtain ⟨k, o, h1, h2, h3, h4, h5⟩ := hMof b hm
    have hne : p ≠ o := fun e => hcorr_none p hc k h1 (e ▸ h2)
    exact hs.apart p o b hne hl h3 hb h5
  have hsat : Sat (h.behind s z y) w0 M := by
    refine Sat.step hs he (fun p => ∃ k, h.corr s p = some k) (fun p hp => ?_) (fun p b hp hl hb => ?_) (fun p ⟨k, hc⟩ => ?_) (fun p p' b ⟨k, hc⟩ hne h1 h2 h3 => ?_) (fun b hb => ?_) (fun p b ⟨k, hc⟩ h1 h2 => ?_) ?_
    · have hc : h.corr s p = none := by
        cases hq : h.corr s p with
        | none => rfl
        | some k => exact absurd ⟨k, hq⟩ hp
      exact ⟨by rw [hHb, hc], by simp [Hand.behind, hc]⟩
    · have hc : h.corr s p = none := by
        cases hq : h.corr s p with
        | none => rfl
        | some k => exact absurd ⟨k, hq⟩ hp
      have hnm := hMofp p b hc hl hb
      have hlt := live_blk_lt hs hl hb
      refine ⟨hheap b hlt hnm, ?_⟩
      simp only [Hand.behind]
      split
      · rename_i hbe
        refine ⟨fun hy => ?_, hzI b⟩
        rcases hleft.back b hy with h4 | h4 | h4
        · rcases (hxI b).1 h4 with h5 | ⟨o, ho, _⟩
          · exact h5
          · rw [List.isEmpty_iff] at hbe; rw [hbe] at ho; cases ho
        · rw [hxw] at h4; omega
        · exact absurd h4 hnm
      · exact Iff.rfl
    · rw [hHb, hc]
      show ObjOk _ p (h.renObj s (look s.outH k))
      have hy := hleft.sat.objs k
      rw [hleft.H] at hy
      cases hq : look s.outH k with
      | unborn => exact trivial
      | dead => exact trivial
      | cells T l fz =>
        cases fz with
        | true => exact trivial
        | false =>
          rw [hq] at hy
          obtain ⟨b, c, y1, y2, y3, y4, y5⟩ := hy
          refine ⟨b, c, by rw [hnuk p k hc]; exact y1, y2, hrenL l c ((hplainObj k).imp id fun h6 => by rw [hq] at h6; exact h6) y3, (fun h6 => by cases h6), fun _ hi => ?_⟩
          simp only [Hand.behind] at hi
          split at hi
          · exact y5 rfl hi
          · exact y5 rfl (hzI b hi)
      | row T e u =>
        rw [hq] at hy
        simp only [Hand.renObj]
        split
        · rename_i e' hre
          obtain ⟨hsc, ts, n, xs, y1, y2, y3, y4, y5⟩ := hy
          obtain ⟨a1, a2⟩ := hrenE e e' hre hsc
          have hbe : h.bor.isEmpty = true := (hplainObj k).resolve_right (by rw [hq]; simp [plainObj])
          refine ⟨a1, ts, n, xs, by rw [hPy] at y1; exact y1, by rw [hnuk p k hc]; exact y2, by rw [a2]; exact y3, ?_, fun b hb hi => ?_⟩
          · rw [a2]
            refine ⟨y4.1, fun i j t hi ht => ?_⟩
            have := y4.2 i j t hi ht
            rw [hPy] at this
            exact hIz _ _ _ (.inl hbe) this
          · rw [hnuk p k hc] at hb
            simp only [Hand.behind, hbe, if_true] at hi
            exact y5 b hb hi
        · trivial
    · rw [hHb, hc] at h1
      obtain ⟨l1, l2⟩ := hlive2 k h1
      rw [hnuk p k hc] at h3
      cases hc' : h.corr s p' with
      | some k' =>
        rw [hHb, hc'] at h2
        obtain ⟨l3, l4⟩ := hlive2 k' h2
        rw [hnuk p' k' hc']
        have hkk : k ≠ k' := fun e => hne (hcorr_inj p p' k hc (e ▸ hc'))
        exact hleft.sat.apart k k' b hkk (by rw [hleft.H]; exact l1) (by rw [hleft.H]; exact l3) h3
      | none =>
        rw [hHb, hc'] at h2
        have hν : (h.behind s z y).ν p' = z.ν p' := by simp [Hand.behind, hc']
        rw [hν]
        intro h4
        rcases hblk2 k b l2 h3 with h5 | h5
        · exact hMofp p' b hc' h2 h4 h5
        · have := live_blk_lt hs h2 h4
          omega
    · simp only [Hand.behind] at hb
      split at hb
      · exact hleft.sat.ibound b hb
      · have h1 := hs.ibound b hb
        have h2 := hleft.sat.frame.size
        rw [hxw] at h2
        exact Nat.lt_of_lt_of_le h1 h2
    · rw [hHb, hc] at h1
      change (h.renObj s (look s.outH k)).loose = true at h1
      rw [hnuk p k hc] at h2
      have hl : (h.renObj s (look s.outH k)).live = true := by cases hq : h.renObj s (look s.outH k) <;> rw [hq] at h1 <;> first | rfl | cases h1
      rcases hblk2 k b (hlive2 k hl).2 h2 with h5 | h5
      · obtain ⟨_, o, _, _, _, h6, h7⟩ := hMof b h5
        exact hs.mine o b h6 h7
      · exact .inr (Nat.le_trans hs.frame.size h5)
    · have hf := hleft.sat.frame
      rw [hxw] at hf
      refine ⟨hf.os.trans hs.frame.os, hf.tape.trans hs.frame.tape, hf.output.trans hs.frame.output, Nat.le_trans hs.frame.size hf.size, fun b hb hm => ?_⟩
      have hbz := Nat.lt_of_lt_of_le hb hs.frame.size
      refine (hheap b hbz fun hmx => ?_).trans (hs.frame.block b hb hm)
      obtain ⟨_, o, _, _, _, h6, h7⟩ := hMof b hmx
      rcases hs.mine o b h6 h7 with h8 | h8
      · exact hm h8
      · omega
  have hplainS : h.bor.isEmpty = true ∨ plainS s.outS = true := hplain.imp id fun h1 => by
    unfold Sig.plain at h1
    simp only [Bool.and_eq_true] at h1
    exact h1.1
  have hren1 : ∀ t v, (h.bor.isEmpty = true ∨ plain1 t = true) → G1 y t v → G1 (h.behind s z y) (h.ren1 s t) v := by
    intro t v hpl hg
    cases t with
    | one t => exact hren t v hpl hg
    | agg l => obtain ⟨c, hv, hl⟩ := hg; exact ⟨c, hv, hrenL l c hpl hl⟩
  have hback : ∀ b, (h.behind s z y).I b → z.I b ∨ z.w.heap.size ≤ b ∨ Mof z b := by
    intro b hb
    simp only [Hand.behind] at hb
    split at hb
    · rename_i hbe
      rcases hleft.back b hb with h4 | h4 | h4
      · rcases (hxI b).1 h4 with h5 | ⟨o, ho, _⟩
        · exact .inl h5
        · rw [List.isEmpty_iff] at hbe; rw [hbe] at ho; cases ho
      · rw [hxw] at h4; exact .inr (.inl h4)
      · obtain ⟨_, o, _, _, _, h6, h7⟩ := hMof b h4
        exact .inr (.inr ⟨o, h6, h7⟩)
    · exact .inl hb
  refine ⟨v, h.behind s z y, rfl, hyw, hbehind_e, rfl, hHb, hback, hsat, he, ?_⟩
  generalize s.outS = os at hgv hplainS
  cases os with
  | v t => exact hren1 t v hplainS hgv
  | tup l =>
    obtain ⟨c, hv, h1, h2⟩ := hgv
    refine ⟨c, hv, by rw [List.length_map]; exact h1, fun j t hj => ?_⟩
    simp only [List.getElem?_map, Option.map_eq_some_iff] at hj
    obtain ⟨t', h3, rfl⟩ := hj
    refine hren1 t' _ (hplainS.imp id fun h4 => ?_) (h2 j t' h3)
    simp only [plainS, List.all_eq_true] at h4
    exact h4 t' (List.mem_of_getElem? h3)

end
end Glx
