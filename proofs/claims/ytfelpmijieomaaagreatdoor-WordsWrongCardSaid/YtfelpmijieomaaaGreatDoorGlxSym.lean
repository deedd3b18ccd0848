/- What one operation does to a walk's picture: the words, and a function that says it (or that it can't be said). -/
import Derived.Test.YtfelpmijieomaaaGreatDoorGlxMem
namespace Glx
open Go

def allSome {α : Type} : List (Option α) → Option (List α)
  | [] => some []
  | none :: _ => none
  | some a :: l => (allSome l).map (a :: ·)

theorem allSome_spec {α : Type} : ∀ {l : List (Option α)} {r : List α}, allSome l = some r → l = r.map some
  | [], r, h => by simp only [allSome, Option.some.injEq] at h; subst h; rfl
  | none :: _, _, h => by simp [allSome] at h
  | some a :: l, r, h => by
    simp only [allSome, Option.map_eq_some_iff] at h
    obtain ⟨r', h1, rfl⟩ := h
    simp [allSome_spec h1]

/-- cells of constants -/
def constSV : Value → Option SV
  | .int k n => some (.int k (.ilit n))
  | .bool b => some (.bool (.blit b))
  | .string s => some (.str (.slit s.data.toList))
  | .slice none 0 0 => some .nils
  | .pointer none => some .nilp
  | .nilFunc => some .nilf
  | .nilIface => some (.ifc (.blit true))
  | _ => none

def constS1 : Value → Option S1
  | .agg cs => (allSome (cs.toList.map constSV)).map .agg
  | v => (constSV v).map .one

def opd (S : List Slot) : Operand → Option Slot
  | .tmp t => match S[t]? with
    | some (.v (.one .top)) => none
    | r => r
  | .const v => (constS1 v).map .v
  | .func f => some (.v (.one (.fn f [] [])))
  | .global _ => none

def Slot.sv : Slot → Option SV
  | .v (.one s) => some s
  | _ => none
def Slot.s1 : Slot → Option S1
  | .v s => some s
  | _ => none
def S1.cells : S1 → List SV
  | .one s => [s]
  | .agg l => l

/-- a binder that an operation wants ahead of it -/
inductive Bd where
  | guard (c : Ex)
  | call (f : Nat) (args : List Ex) (n : Nat)

structure Out where
  bds : List Bd
  dst : Slot
  news : List SObj
  mods : List (Nat × SObj)

def Out.val (s : Slot) : Out := ⟨[], s, [], []⟩
def Out.sv (s : SV) : Out := ⟨[], .v (.one s), [], []⟩
def Out.g (gs : List Ex) (s : SV) : Out := ⟨gs.map .guard, .v (.one s), [], []⟩
def skipSlot : Slot := .v (.one .top)

/-! ### Expressions, folded where they are plain -/
def mkNo : Ex → Ex
  | .blit b => .blit (!b)
  | x => .no x
def mkIteB (c x y : Ex) : Ex :=
  if y = .blit false then .both c x
  else if x = .blit true then .one c y
  else if y = .blit true then .one (mkNo c) x
  else if x = .blit false then .both (mkNo c) y
  else .ite c x y
def mkCmp (op : BinOp) : Ex → Ex → Ex
  | .ilit a, .ilit b => .blit (compare op a b)
  | x, y => .cmp op x y
def mkBin (op : BinOp) (k : IntKind) : Ex → Ex → Ex
  | .ilit a, .ilit b => if op = .add ∨ op = .sub ∨ op = .mul then .ilit (arith op k a b) else .bin op k (.ilit a) (.ilit b)
  | x, y => .bin op k x y
/-- how many rows, where they are written out -/
def litLen : Ex → Option Nat
  | .nil => some 0
  | .row _ => some 1
  | .app a b => (litLen a).bind fun m => (litLen b).map (m + ·)
  | _ => none
def mkLen (x : Ex) : Ex := match litLen x with
  | some n => .ilit n
  | none => .len x
/-- guards that are not plainly met -/
def gds (l : List Ex) : List Ex := l.filter fun c => !(c == .blit true)

theorem mkNo_den (e : List D) (x : Ex) : ((mkNo x).den e).bool = !(x.den e).bool := by cases x <;> rfl
theorem mkNo_sc (n : Nat) (x : Ex) : (mkNo x).sc n = x.sc n := by cases x <;> rfl
theorem mkIteB_den (e : List D) (c x y : Ex) : ((mkIteB c x y).den e).bool = if (c.den e).bool then (x.den e).bool else (y.den e).bool := by
  unfold mkIteB
  split
  · rename_i h; subst h; simp only [Ex.den, D.bool_b]; cases (c.den e).bool <;> simp
  · split
    · rename_i h; subst h; simp only [Ex.den, D.bool_b]; cases (c.den e).bool <;> simp
    · split
      · rename_i h; subst h; simp only [Ex.den, D.bool_b, mkNo_den]; cases (c.den e).bool <;> simp
      · split
        · rename_i h; subst h; simp only [Ex.den, D.bool_b, mkNo_den]; cases (c.den e).bool <;> simp
        · simp only [Ex.den]; split <;> rfl
theorem mkIteB_sc {n : Nat} {c x y : Ex} (hc : c.sc n = true) (hx : x.sc n = true) (hy : y.sc n = true) : (mkIteB c x y).sc n = true := by
  unfold mkIteB
  repeat' split
  all_goals simp [Ex.sc, mkNo_sc, hc, hx, hy]
theorem mkCmp_den (e : List D) (op : BinOp) (x y : Ex) : ((mkCmp op x y).den e).bool = compare op (x.den e).int (y.den e).int := by
  unfold mkCmp
  split <;> rfl
theorem mkCmp_sc {n : Nat} {op : BinOp} {x y : Ex} (hx : x.sc n = true) (hy : y.sc n = true) : (mkCmp op x y).sc n = true := by
  unfold mkCmp
  split
  · rfl
  · simp [Ex.sc, hx, hy]
theorem mkBin_den (e : List D) (op : BinOp) (k : IntKind) (x y : Ex) : ((mkBin op k x y).den e).int = arith op k (x.den e).int (y.den e).int := by
  unfold mkBin
  split
  · split <;> rfl
  · rfl
theorem mkBin_sc {n : Nat} {op : BinOp} {k : IntKind} {x y : Ex} (hx : x.sc n = true) (hy : y.sc n = true) : (mkBin op k x y).sc n = true := by
  unfold mkBin
  split
  · split <;> rfl
  · simp [Ex.sc, hx, hy]
theorem litLen_den (e : List D) : ∀ (x : Ex) (n : Nat), litLen x = some n → (x.den e).rows.length = n := by
  intro x
  induction x <;> intro n h <;> simp only [litLen, reduceCtorEq, Option.some.injEq] at h
  case nil => subst h; rfl
  case row => subst h; rfl
  case app a b iha ihb =>
    obtain ⟨m, h1, h2⟩ := Option.bind_eq_some_iff.1 h
    obtain ⟨q, h3, rfl⟩ := Option.map_eq_some_iff.1 h2
    simp [Ex.den, iha m h1, ihb q h3]
theorem mkLen_den (e : List D) (x : Ex) : ((mkLen x).den e).int = ((x.den e).rows.length : Int) := by
  unfold mkLen
  split
  · rename_i n h; rw [litLen_den e x n h]; rfl
  · rfl
theorem mkLen_sc {n : Nat} {x : Ex} (hx : x.sc n = true) : (mkLen x).sc n = true := by
  unfold mkLen
  split
  · rfl
  · exact hx
theorem gds_ok {e : List D} {l : List Ex} (h : ∀ c ∈ gds l, (c.den e).bool = true) : ∀ c ∈ l, (c.den e).bool = true := by
  intro c hc
  by_cases hb : c = .blit true
  · subst hb; rfl
  · exact h c (by simp [gds, hc, hb])

/-! ### Cells and data -/
def dataSV : LTy → Ex → SV
  | .int k, e => .int k e
  | .bool, e => .bool e
  | .str, e => .str e
  | .sl T, e => .sl T e

def toData : LTy → SV → Option Ex
  | .int k, .int k' e => if k = k' then some e else none
  | .bool, .bool e => some e
  | .str, .str e => some e
  | .sl T, .sl T' e => if T = T' then some e else none
  | .sl _, .nils => some .nil
  | _, _ => none

def toDatas : List LTy → List SV → Option (List Ex)
  | [], [] => some []
  | t :: ts, s :: ss => (toData t s).bind fun e => (toDatas ts ss).map (e :: ·)
  | _, _ => none

def rowEx : List Ex → Ex
  | [] => .rnil
  | e :: l => .rcons e (rowEx l)

def rowD : TypeDesc → Bool
  | .struct _ | .array _ _ => true
  | _ => false
def isRow (P : Program) (t : TypeId) : Option Bool := (P.underlying t).map rowD

def mkS1 (agg : Bool) (n : Nat) (l : List SV) : Option S1 :=
  if l.length = n then (if agg then some (.agg l) else match l with | [s] => some (.one s) | _ => none) else none

def cellSVs (ts : List LTy) (l i : Ex) (off : Nat) : List SV := ts.zipIdx.map fun p => dataSV p.1 (.cell l i (off + p.2))

def symLoad (P : Program) (H : List SObj) (t : TypeId) (s : SV) : Option S1 :=
  (P.info? t).bind fun inf => (isRow P t).bind fun agg =>
  match s with
  | .ptr o off => match look H o with
    | .cells _ l _ => mkS1 agg inf.size ((l.drop off).take inf.size)
    | _ => none
  | .pel T l i off => (tys P T).bind fun ts => mkS1 agg inf.size (cellSVs ((ts.drop off).take inf.size) l i off)
  | .oel o ver i off => match look H o with
    | .row T e u => if u = ver then (tys P T).bind fun ts => mkS1 agg inf.size (cellSVs ((ts.drop off).take inf.size) e i off) else none
    | _ => none
  | _ => none

/-- may a cell bear it? -/
def solid (H : List SObj) : SV → Bool
  | .top => false
  | .own o ver => match look H o with | .row _ _ u => u == ver | _ => false
  | .oel o ver _ _ => match look H o with | .row _ _ u => u == ver | _ => false
  | .ptr o _ => match look H o with | .cells .. => true | _ => false
  | _ => true

def updEx (e i : Ex) (off : Nat) : List Ex → Ex
  | [] => e
  | x :: l => updEx (.upd e i off x) i (off + 1) l

def symStore (P : Program) (H : List SObj) (t : TypeId) (s : SV) (x : S1) : Option (Nat × SObj) :=
  (P.info? t).bind fun inf =>
  if x.cells.length = inf.size ∧ x.cells.all (solid H) = true then
    match s with
    | .ptr o off => match look H o with
      | .cells T l false => if off + inf.size ≤ l.length then some (o, .cells T (l.take off ++ x.cells ++ l.drop (off + inf.size)) false) else none
      | _ => none
    | .oel o ver i off => match look H o with
      | .row T e u => if u = ver then (tys P T).bind fun ts => if off + inf.size ≤ ts.length then (toDatas ((ts.drop off).take inf.size) x.cells).map fun ds => (o, .row T (updEx e i off ds) u) else none else none
      | _ => none
    | _ => none
  else none

def fieldOf (P : Program) (t : TypeId) (f : Nat) : Option (Nat × TypeId × Nat) :=
  match P.underlying t with
  | some (.struct fs) => (fs[f]?).bind fun x => (P.info? x.type).bind fun inf => if inf.size = 0 then none else some (x.offset, x.type, inf.size)
  | _ => none

def symFieldAddr (P : Program) (t : TypeId) (f : Nat) (s : SV) : Option SV :=
  (fieldOf P t f).bind fun (off, _, _) => match s with
  | .ptr o a => some (.ptr o (a + off))
  | .pel T l i a => some (.pel T l i (a + off))
  | .oel o v i a => some (.oel o v i (a + off))
  | _ => none

def symField (P : Program) (t : TypeId) (f : Nat) (s : S1) : Option S1 :=
  (fieldOf P t f).bind fun (off, ft, n) => match s with
  | .agg l => (isRow P ft).bind fun agg => if off + n ≤ l.length then mkS1 agg n ((l.drop off).take n) else none
  | _ => none

def inBounds (i n : Ex) : List Ex := gds [mkCmp .leq (.ilit 0) i, mkCmp .lss i n]

def symIndexAddr (P : Program) (H : List SObj) (t : TypeId) (s ix : SV) : Option (List Ex × SV) :=
  match ix with
  | .int _ i =>
    match P.underlying t with
    | some (.slice T) => match s with
      | .sl T' l => if T = T' then (tys P T).map fun _ => (inBounds i (mkLen l), .pel T l i 0) else none
      | .own o ver => match look H o with
        | .row T' e u => if u = ver ∧ T = T' then some (inBounds i (mkLen e), .oel o ver i 0) else none
        | _ => none
      | _ => none
    | some (.array n T) => match s, i with
      | .ptr o off, .ilit j => if 0 ≤ j ∧ j < n then (P.info? T).map fun inf => ([], .ptr o (off + j.toNat * inf.size)) else none
      | _, _ => none
    | _ => none
  | _ => none

def symIndex (P : Program) (t : TypeId) (s : S1) (ix : SV) : Option (List Ex × S1) :=
  match ix with
  | .int _ i =>
    match P.underlying t, s with
    | some .string, .one (.str e) => some (gds [mkCmp .leq (.ilit 0) i, mkCmp .lss i (.slen e)], .one (.int .u8 (.byte e i)))
    | some (.array n T), .agg l => match i with
      | .ilit j => if 0 ≤ j ∧ j < n then (P.info? T).bind fun inf => (isRow P T).bind fun agg =>
          if j.toNat * inf.size + inf.size ≤ l.length then (mkS1 agg inf.size ((l.drop (j.toNat * inf.size)).take inf.size)).map fun r => ([], r) else none
        else none
      | _ => none
    | _, _ => none
  | _ => none

def sliceOf (P : Program) (t : TypeId) : Option TypeId := match P.underlying t with
  | some (.slice T) => some T
  | _ => none
def isStr (P : Program) (t : TypeId) : Bool := match P.underlying t with
  | some .string => true
  | _ => false

theorem sliceOf_spec {P : Program} {t T : TypeId} (h : sliceOf P t = some T) : P.underlying t = some (.slice T) := by
  unfold sliceOf at h
  split at h
  · rename_i h1; cases h; exact h1
  · cases h
theorem isStr_spec {P : Program} {t : TypeId} (h : isStr P t = true) : P.underlying t = some .string := by
  unfold isStr at h
  split at h
  · assumption
  · cases h

def bound (d : Ex) : Option SV → Option Ex
  | none => some d
  | some (.int _ i) => some i
  | _ => none

def symSlice (P : Program) (H : List SObj) (t : TypeId) (s : SV) (lo hi : Option SV) : Option (List Ex × SV) :=
  match s with
  | .str e => if isStr P t then (bound (.ilit 0) lo).bind fun l => (bound (.slen e) hi).map fun h =>
      (gds [mkCmp .leq (.ilit 0) l, mkCmp .leq l h, mkCmp .leq h (.slen e)], .str (.ssub e l h)) else none
  | .sl T e => if sliceOf P t = some T then (tys P T).bind fun _ =>
      match lo, hi with
      | none, none => some ([], .sl T e)
      | _, _ => (bound (.ilit 0) lo).bind fun l => (bound (mkLen e) hi).map fun h =>
        (gds [mkCmp .leq (.ilit 0) l, mkCmp .leq l h, mkCmp .leq h (mkLen e)], .sl T (.sub e l h)) else none
  | .ptr o off => match lo, hi, P.underlying t, look H o with
    | none, none, some (.array n T), .cells _ l true => (tys P T).bind fun ts => match ts with
      | [ty] => if off + n ≤ l.length then (toDatas (List.replicate n ty) ((l.drop off).take n)).map fun ds => ([], .sl T (ds.foldl (fun a d => .app a (.row (.rcons d .rnil))) .nil)) else none
      | _ => none
    | _, _, _, _ => none
  | _ => none

def symBin (op : BinOp) : SV → SV → Option (List Ex × SV)
  | .int k x, .int k' y =>
    match op with
    | .shl | .shr => some (gds [mkCmp .leq (.ilit 0) y], .int k (mkBin op k x y))
    | .quo | .rem => if k = k' then some (gds [mkCmp .neq y (.ilit 0)], .int k (mkBin op k x y)) else none
    | .add | .sub | .mul | .and | .or | .xor | .andNot => if k = k' then some ([], .int k (mkBin op k x y)) else none
    | _ => if k = k' then some ([], .bool (mkCmp op x y)) else none
  | .str x, .str y =>
    match op with
    | .add => some ([.cmp .leq (.slen x) (.ilit 1152921504606846976), .cmp .leq (.slen y) (.ilit 1152921504606846976)], .str (.scat x y))
    | .eql | .neq | .lss | .leq | .gtr | .geq => some ([], .bool (.scmp op x y))
    | _ => none
  | _, _ => none

end Glx
