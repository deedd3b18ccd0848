/- Where paths meet: a picture that fits all of them (a guess; that it fits is looked at). -/
import Derived.Test.YtfelpmijieomaaaGreatDoorGlxRegC
import Derived.Test.YtfelpmijieomaaaGreatDoorGlxTm
namespace Glx
open Go

inductive Kind where
  | normal
  | exit (id : Nat)
  | ret
  | dead
  deriving DecidableEq

structure St where
  S : List Slot
  H : List SObj
  n : Nat

abbrev Lf := Kind × St

structure Lay where
  S : List Slot
  H : List SObj
  m : Nat

/-! ### One picture for several -/
structure LS where
  vars : List (List Ex)
  objs : List (List (Option Nat))

def findIx {α : Type} [BEq α] (x : α) : List α → Nat → Option Nat
  | [], _ => none
  | y :: l, i => if y == x then some i else findIx x l (i + 1)

def LS.ex (nb : Nat) (ls : LS) (es : List Ex) : LS × Ex :=
  match es with
  | [] => (ls, .ilit 0)
  | e :: r => if r.all (· == e) && e.sc nb then (ls, e) else match findIx es ls.vars 0 with
    | some i => (ls, .var (nb + i))
    | none => ({ ls with vars := ls.vars ++ [es] }, .var (nb + ls.vars.length))

def LS.obj (ls : LS) (os : List (Option Nat)) : LS × Nat :=
  match findIx os ls.objs 0 with
  | some i => (ls, i)
  | none => ({ ls with objs := ls.objs ++ [os] }, ls.objs.length)

def auPtrs (ls : LS) : List (List (Nat × Nat)) → Nat → LS × List (Nat × Nat)
  | ll, n => (List.range n).foldl (fun (p : LS × List (Nat × Nat)) i =>
      let c := ll.map fun l => l.getD i (0, 0)
      let (ls, o) := p.1.obj (c.map fun q => some q.1)
      (ls, p.2 ++ [(o, (c.headD (0, 0)).2)])) (ls, [])

def auSV (nb : Nat) (Hs : List (List SObj)) (ls : LS) (l : List SV) : LS × SV :=
  match l with
  | [] => (ls, .top)
  | .int k e :: r => match r.mapM (fun | .int k' e => if k' = k then some e else none | _ => none) with
    | some es => let (ls, x) := ls.ex nb (e :: es); (ls, .int k x)
    | none => (ls, .top)
  | .bool e :: r => match r.mapM (fun | .bool e => some e | _ => none) with
    | some es => let (ls, x) := ls.ex nb (e :: es); (ls, .bool x)
    | none => (ls, .top)
  | .str e :: r => match r.mapM (fun | .str e => some e | _ => none) with
    | some es => let (ls, x) := ls.ex nb (e :: es); (ls, .str x)
    | none => (ls, .top)
  | .ifc e :: r => match r.mapM (fun | .ifc e => some e | _ => none) with
    | some es => let (ls, x) := ls.ex nb (e :: es); (ls, .ifc x)
    | none => (ls, .top)
  | .nilp :: r => (ls, if r.all (fun s => decide (s = .nilp)) then .nilp else .top)
  | .nilf :: r => (ls, if r.all (fun s => decide (s = .nilf)) then .nilf else .top)
  | .ptr o off :: r => match r.mapM (fun | .ptr o' off' => if off' = off then some (some o') else none | _ => none) with
    | some os => let (ls, o) := ls.obj (some o :: os); (ls, .ptr o off)
    | none => (ls, .top)
  | .fn f a c :: r => match r.mapM (fun | .fn f' a' c' => if f' = f && a'.length == a.length && c'.length == c.length then some (a', c') else none | _ => none) with
    | some ps =>
      let (ls, a1) := auPtrs ls (a :: ps.map (·.1)) a.length
      let (ls, c1) := auPtrs ls (c :: ps.map (·.2)) c.length
      (ls, .fn f a1 c1)
    | none => (ls, .top)
  | .pel .. :: _ => (ls, .top)
  | .oel .. :: _ => (ls, .top)
  | .top :: _ => (ls, .top)
  | l =>
    if l.all (fun s => decide (s = .nils)) then (ls, .nils)
    else match l.find? (fun | .sl _ _ => true | _ => false) with
      | some (.sl T _) => match (l.zip Hs).mapM (fun | (.sl T' e, _) => if T' = T then some e else none | (.nils, _) => some .nil | (.own o v, H) => (match borrow H (.own o v) with | some (T', e) => if T' = T then some e else none | none => none) | _ => none) with
        | some es => let (ls, x) := ls.ex nb es; (ls, .sl T x)
        | none => (ls, .top)
      | _ => match (l.zip Hs).mapM (fun | (.own o v, H) => if curVer H o v then some (some o) else none | (.nils, _) => some none | _ => none) with
        | some os => let (ls, o) := ls.obj os; (ls, .own o 0)
        | none => (ls, .top)

def auL (nb : Nat) (Hs : List (List SObj)) (ls : LS) (ll : List (List SV)) (n : Nat) : LS × List SV :=
  (List.range n).foldl (fun (p : LS × List SV) i => let (ls, s) := auSV nb Hs p.1 (ll.map fun l => l.getD i .top); (ls, p.2 ++ [s])) (ls, [])

def au1 (nb : Nat) (Hs : List (List SObj)) (ls : LS) (l : List S1) : LS × S1 :=
  match l with
  | .one s :: r => match r.mapM (fun | .one s => some s | _ => none) with
    | some ss => let (ls, x) := auSV nb Hs ls (s :: ss); (ls, .one x)
    | none => (ls, .one .top)
  | .agg a :: r => match r.mapM (fun | .agg b => if b.length == a.length then some b else none | _ => none) with
    | some ss => let (ls, x) := auL nb Hs ls (a :: ss) a.length; (ls, .agg x)
    | none => (ls, .one .top)
  | [] => (ls, .one .top)

def auS (nb : Nat) (Hs : List (List SObj)) (ls : LS) (l : List Slot) : LS × Slot :=
  match l with
  | .v s :: r => match r.mapM (fun | .v s => some s | _ => none) with
    | some ss => let (ls, x) := au1 nb Hs ls (s :: ss); (ls, .v x)
    | none => (ls, skipSlot)
  | .tup a :: r => match r.mapM (fun | .tup b => if b.length == a.length then some b else none | _ => none) with
    | some ss =>
      let (ls, x) := (List.range a.length).foldl (fun (p : LS × List S1) i => let (ls, s) := au1 nb Hs p.1 ((a :: ss).map fun l => l.getD i (.one .top)); (ls, p.2 ++ [s])) (ls, [])
      (ls, .tup x)
    | none => (ls, skipSlot)
  | [] => (ls, skipSlot)

def auObj (nb : Nat) (Hs : List (List SObj)) (ls : LS) (src : List (Option Nat)) : LS × SObj :=
  let obs : List (Option SObj) := (src.zip Hs).map fun p => p.1.map (look p.2)
  match obs.find? Option.isSome with
  | some (some (.cells T l fz)) => match obs.mapM (fun | some (.cells T' l' fz') => if T' = T && fz' == fz && l'.length == l.length then some l' else none | _ => none) with
    | some ls' => let (ls, x) := auL nb Hs ls ls' l.length; (ls, .cells T x fz)
    | none => (ls, .dead)
  | some (some (.row T _ _)) => match obs.mapM (fun | some (.row T' e _) => if T' = T then some e else none | none => some .nil | _ => none) with
    | some es => let (ls, x) := ls.ex nb es; (ls, .row T x 0)
    | none => (ls, .dead)
  | _ => (ls, .dead)

def auObjs (nb : Nat) (Hs : List (List SObj)) : Nat → LS → List SObj → LS × List SObj
  | 0, ls, H => (ls, H)
  | f + 1, ls, H => match ls.objs[H.length]? with
    | some src => let (ls, s) := auObj nb Hs ls src; auObjs nb Hs f ls (H ++ [s])
    | none => (ls, H)

def antiUnify (B nb live : Nat) (sts : List St) : Lay :=
  let Hs := sts.map (·.H)
  let ls : LS := ⟨[], (List.range B).map fun o => List.replicate sts.length (some o)⟩
  let (ls, S) := (List.range ((sts.map (·.S.length)).headD 0)).foldl (fun (p : LS × List Slot) i =>
    if live.testBit i then let (ls, s) := auS nb Hs p.1 (sts.map fun st => st.S.getD i skipSlot); (ls, p.2 ++ [s]) else (p.1, p.2 ++ [skipSlot])) (ls, [])
  let (ls, H) := auObjs nb Hs 200 ls []
  ⟨S, H, ls.vars.length⟩

/-! ### How one fits -/
def HS.setN (nb : Nat) (h : HS) (t e : Ex) : HS := match t with
  | .var i => if nb ≤ i then { h with us := h.us.set (i - nb) (some e) } else h
  | _ => h

def matchSV (nb : Nat) (H' H : List SObj) : Nat → HS → SV × SV → HS
  | 0, h, _ => h
  | n + 1, h, (t, a) => match t, a with
    | .int _ t, .int _ e => h.setN nb t e
    | .bool t, .bool e => h.setN nb t e
    | .ifc t, .ifc e => h.setN nb t e
    | .str t, .str e => h.setN nb t e
    | .sl _ t, .sl _ e => h.setN nb t e
    | .sl _ t, .nils => h.setN nb t .nil
    | .own o' _, .nils => match look H' o' with
      | .row _ t _ => { h.setN nb t .nil with σ := h.σ.set o' (some none) }
      | _ => h
    | .own o' _, .own o _ => match look H' o', look H o with
      | .row _ t _, .row _ e _ => { h.setN nb t e with σ := h.σ.set o' (some (some o)) }
      | _, _ => h
    | .ptr o' _, .ptr o _ => if (src h.σ o').isSome then h else match look H' o', look H o with
      | .cells _ l _, .cells _ m _ => (l.zip m).foldl (matchSV nb H' H n) { h with σ := h.σ.set o' (some (some o)) }
      | _, _ => h
    | .fn _ a c, .fn _ a' c' => (((a ++ c).zip (a' ++ c')).map fun p => (SV.ptr p.1.1 p.1.2, SV.ptr p.2.1 p.2.2)).foldl (matchSV nb H' H n) h
    | _, _ => h

def mkFit (B nb : Nat) (L : Lay) (st : St) : List Ex × Src :=
  let h : HS := ⟨List.replicate L.m none, List.replicate L.H.length none, []⟩
  let h := (List.range B).foldl (fun h o => match look L.H o with
    | .cells .. => matchSV nb L.H st.H 20 h (.ptr o 0, .ptr o 0)
    | .row .. => matchSV nb L.H st.H 20 h (.own o 0, .own o 0)
    | _ => h) h
  let h := ((L.S.zip st.S).flatMap fun p => (slotCells p.1).zip (slotCells p.2)).foldl (matchSV nb L.H st.H 20) h
  (h.us.map (·.getD (.ilit 0)), h.σ)

def baseOk (B : Nat) (σ : Src) (H' : List SObj) : Bool := (List.range B).all fun o => match look H' o with
  | .unborn => false
  | .cells .. => src σ o == some (some o)
  | _ => true

def fitSlots (nb : Nat) (us : List Ex) (σ : Src) (H' H : List SObj) : List Slot → List Slot → Bool
  | [], [] => true
  | t :: ts, s :: ss => fitS nb us σ H' H t s && fitSlots nb us σ H' H ts ss
  | _, _ => false

def fitSt (P : Program) (B nb : Nat) (L : Lay) (us : List Ex) (σ : Src) (st : St) : Bool :=
  us.length == L.m && decide (nb ≤ st.n) && fitSlots nb us σ L.H st.H L.S st.S && fitAll P nb us σ L.H st.H && baseOk B σ L.H

def Lay.st (L : Lay) (nb : Nat) : St := ⟨L.S, L.H, nb + L.m⟩

/-! ### What a text reads, what it sets -/
def opBits : Operand → Nat
  | .tmp t => 2 ^ t
  | _ => 0

def usesOf : Code → Nat
  | .region _ ops _ => ops.toList.foldl (fun b o => o.op.operands.toList.foldl (fun b p => b ||| opBits p) b) 0
  | .seq a b => usesOf a ||| usesOf b
  | .cond c a b => opBits c ||| usesOf a ||| usesOf b
  | .block _ a => usesOf a
  | .loop a => usesOf a
  | _ => 0

def setsOf : Code → Nat
  | .region _ ops _ => ops.toList.foldl (fun b o => match o.dst with | some t => b ||| 2 ^ t | none => b) 0
  | .seq a b => setsOf a ||| setsOf b
  | .cond _ a b => setsOf a ||| setsOf b
  | .block _ a => setsOf a
  | .loop a => setsOf a
  | _ => 0

def normals : Tm Lf → List St
  | .leaf (.normal, st) => [st]
  | .leaf _ | .jump _ _ => []
  | .guard _ k | .letx _ k | .call _ _ k => normals k
  | .ite _ a b => normals a ++ normals b
  | .join _ m k => normals m ++ normals k
  | .loop _ _ b => normals b

/-! ### A loop's picture: all that its text may turn is open -/
def openE (p : Nat × Nat) : Ex × (Nat × Nat) := (.var (p.1 + p.2), (p.1, p.2 + 1))

def openSV (p : Nat × Nat) : SV → SV × (Nat × Nat)
  | .int k _ => let (x, p) := openE p; (.int k x, p)
  | .bool _ => let (x, p) := openE p; (.bool x, p)
  | .ifc _ => let (x, p) := openE p; (.ifc x, p)
  | .str _ => let (x, p) := openE p; (.str x, p)
  | .sl T _ => let (x, p) := openE p; (.sl T x, p)
  | s => (s, p)

def openL (p : Nat × Nat) : List SV → List SV × (Nat × Nat)
  | [] => ([], p)
  | s :: l => let (s, p) := openSV p s; let (l, p) := openL p l; (s :: l, p)

def openS (p : Nat × Nat) : Slot → Slot × (Nat × Nat)
  | .v (.one s) => let (s, p) := openSV p s; (.v (.one s), p)
  | .v (.agg l) => let (l, p) := openL p l; (.v (.agg l), p)
  | s => (s, p)

def openSlots (sets : Nat) (p : Nat × Nat) : List Slot → Nat → List Slot × (Nat × Nat)
  | [], _ => ([], p)
  | s :: l, i => let (s, p) := if sets.testBit i then openS p s else (s, p); let (l, p) := openSlots sets p l (i + 1); (s :: l, p)

def openObjs (p : Nat × Nat) : List SObj → List SObj × (Nat × Nat)
  | [] => ([], p)
  | .cells T l false :: r => let (l, p) := openL p l; let (r, p) := openObjs p r; (.cells T l false :: r, p)
  | .row T _ u :: r => let (x, p) := openE p; let (r, p) := openObjs p r; (.row T x u :: r, p)
  | o :: r => let (r, p) := openObjs p r; (o :: r, p)

/-- the first guess -/
def openLay (B live sets : Nat) (st : St) : Lay :=
  let L := antiUnify B st.n live [st]
  let (S, p) := openSlots sets (st.n, 0) L.S 0
  let (H, p) := openObjs p L.H
  ⟨S, H, p.2⟩

/-- a picture without the variables that stand -/
def closeE (nb : Nat) (fix : List (Option Ex)) : Ex → Ex
  | .var i => if i < nb then .var i else match fix[i - nb]? with
    | some (some e) => e
    | some none => .var (nb + ((fix.take (i - nb)).filter Option.isNone).length)
    | none => .var i
  | e => e
def closeSV (nb : Nat) (fix : List (Option Ex)) : SV → SV
  | .int k e => .int k (closeE nb fix e)
  | .bool e => .bool (closeE nb fix e)
  | .ifc e => .ifc (closeE nb fix e)
  | .str e => .str (closeE nb fix e)
  | .sl T e => .sl T (closeE nb fix e)
  | s => s
def close1 (nb : Nat) (fix : List (Option Ex)) : S1 → S1
  | .one s => .one (closeSV nb fix s)
  | .agg l => .agg (l.map (closeSV nb fix))
def closeS (nb : Nat) (fix : List (Option Ex)) : Slot → Slot
  | .v s => .v (close1 nb fix s)
  | .tup l => .tup (l.map (close1 nb fix))
def closeO (nb : Nat) (fix : List (Option Ex)) : SObj → SObj
  | .cells T l fz => .cells T (l.map (closeSV nb fix)) fz
  | .row T e u => .row T (closeE nb fix e) u
  | o => o

end Glx
