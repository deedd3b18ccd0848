/- A row of the walk's own that is turned no more: from here on it is plain data. -/
import Derived.Test.YtfelpmijieomaaaGreatDoorGlxLay
namespace Glx
open Go

def frSV (o : Nat) (T : TypeId) (e : Ex) (u : Nat) : SV → SV
  | .own o' v => if o' = o then (if v = u then .sl T e else .top) else .own o' v
  | s => s
def fr1 (o : Nat) (T : TypeId) (e : Ex) (u : Nat) : S1 → S1
  | .one s => .one (frSV o T e u s)
  | .agg l => .agg (l.map (frSV o T e u))
def frS (o : Nat) (T : TypeId) (e : Ex) (u : Nat) : Slot → Slot
  | .v s => .v (fr1 o T e u s)
  | .tup l => .tup (l.map (fr1 o T e u))
def frO (o : Nat) (T : TypeId) (e : Ex) (u : Nat) : SObj → SObj
  | .cells T' l fz => .cells T' (l.map (frSV o T e u)) fz
  | s => s

def freeze (o : Nat) (st : St) : St :=
  match look st.H o with
  | .row T e u => ⟨st.S.map (frS o T e u), (st.H.map (frO o T e u)).set o .dead, st.n⟩
  | _ => st

def freezes : List Nat → St → St
  | [], st => st
  | o :: l, st => freezes l (freeze o st)

theorem freeze_n (o : Nat) (st : St) : (freeze o st).n = st.n := by
  unfold freeze
  split <;> rfl

theorem freezes_n : ∀ (l : List Nat) (st : St), (freezes l st).n = st.n
  | [], _ => rfl
  | o :: l, st => by simp only [freezes]; rw [freezes_n l, freeze_n]

/-- all rows -/
def rowsOf (H : List SObj) : List Nat := (List.range H.length).filter fun o => match look H o with | .row .. => true | _ => false

/-- what a picture wants as plain data -/
def thaw1 (p : SV × SV) : Option Nat := match p.1, p.2 with
  | .sl _ _, .own o _ => some o
  | _, _ => none
def thaws (L : Lay) (B : Nat) (st : St) : List Nat :=
  ((L.S.zip st.S).flatMap fun p => (slotCells p.1).zip (slotCells p.2)).filterMap thaw1 ++
  (let σ := (mkFit B 0 L st).2
  (List.range L.H.length).flatMap fun k => match src σ k with
    | some (some o) => (match look L.H k, look st.H o with
      | .cells _ l _, .cells _ m _ => (l.zip m).filterMap thaw1
      | _, _ => [])
    | _ => [])

/-- the search: the picture, and the body's term with it -/
def search (P : Program) (B live : Nat) (st : St) (body : St → Option (Tm Lf)) : Nat → Lay → Option (Lay × Tm Lf)
  | 0, _ => none
  | f + 1, L =>
    let s := L.st st.n
    (body s).bind fun t =>
      let ns := normals t
      let fits := ns.map fun n => let n := freezes (thaws L B n) n; (mkFit B st.n L n, n)
      if fits.all fun p => fitSt P B st.n L p.1.1 p.1.2 p.2 then
        let us0 := (mkFit B st.n L (freezes (thaws L B st) st)).1
        let fix := (List.range L.m).map fun j => if fits.all fun p => p.1.1[j]? == some (.var (st.n + j)) then us0[j]? else none
        if fix.all Option.isNone then some (L, t)
        else search P B live st body f ⟨L.S.map (closeS st.n fix), L.H.map (closeO st.n fix), (fix.filter Option.isNone).length⟩
      else search P B live st body f (antiUnify B st.n live (s :: ns))

end Glx
