/- How plain data lie in the model's memory: what a value reads as; what a walk's picture of a frame and of its own blocks says of them; what of it stays as memory grows. -/
import Derived.Test.YtfelpmijieomaaaGreatDoorGlxCore
import Derived.Below
import Derived.Laws.AppendOwn
import Derived.Laws.OwnMore
namespace Glx
open Go

/-- the type of one cell -/
inductive LTy where
  | int (k : IntKind)
  | bool
  | str
  | sl (T : TypeId)
  deriving DecidableEq

mutual
/-- the cells of a variable of a type -/
def flat (P : Program) : Nat → TypeId → Option (List LTy)
  | 0, _ => none
  | n + 1, t =>
    match P.underlying t with
    | some (.int k) => some [.int k]
    | some .bool => some [.bool]
    | some .string => some [.str]
    | some (.slice e) => some [.sl e]
    | some (.struct fs) => flats P n fs.toList
    | some (.array m e) => (flat P n e).map fun l => (List.replicate m l).flatten
    | _ => none
def flats (P : Program) : Nat → List Field → Option (List LTy)
  | 0, _ => none
  | _ + 1, [] => some []
  | n + 1, f :: fs => (flat P n f.type).bind fun a => (flats P n fs).map (a ++ ·)
end

/-- an element's cells, if their number is the model's own, and none is missing -/
def tys (P : Program) (T : TypeId) : Option (List LTy) :=
  (flat P 60 T).bind fun ts => if decide ((P.info? T).map (·.size) = some ts.length) && !ts.isEmpty then some ts else none

theorem tys_size {P : Program} {T : TypeId} {ts : List LTy} (h : tys P T = some ts) : ∃ i, P.info? T = some i ∧ i.size = ts.length ∧ ts ≠ [] := by
  unfold tys at h
  obtain ⟨l, _, h⟩ := Option.bind_eq_some_iff.1 h
  split at h
  · rename_i hc
    obtain rfl := Option.some.inj h
    simp only [Bool.and_eq_true, decide_eq_true_eq, Bool.not_eq_true', List.isEmpty_eq_false_iff] at hc
    cases hi : P.info? T with
    | none => simp [hi] at hc
    | some i => exact ⟨i, rfl, by simpa [hi] using hc.1, hc.2⟩
  · cases h

/-- what a value reads as; what it points to lies in blocks of which I speaks -/
inductive Rd (P : Program) (I : Nat → Prop) (h : Array Obj) : LTy → Value → D → Prop where
  | int {k : IntKind} {d : D} : Rd P I h (.int k) (.int k d.int) d
  | bool {d : D} : Rd P I h .bool (.bool d.bool) d
  | str {d : D} : Rd P I h .str (.string d.str) d
  | nil {T : TypeId} {d : D} : d.rows = [] → Rd P I h (.sl T) (.slice none 0 0) d
  | row {T : TypeId} {d : D} {ts : List LTy} {b off n cap : Nat} {c : Array Value} {E : TypeId} {fz : Nat × Nat} : tys P T = some ts → I b → h[b]? = some (.cells c E fz) →
      d.rows.length = n → n ≤ cap → off + n * ts.length ≤ c.size → (∀ r ∈ d.rows, r.length = ts.length) →
      (∀ (i j : Nat) (t : LTy), i < n → ts[j]? = some t → Rd P I h t (c.getD (off + i * ts.length + j) undef) ((d.rows.getD i []).getD j default)) →
      Rd P I h (.sl T) (.slice (some ⟨b, off, none⟩) n cap) d

theorem Rd.mono {P : Program} {I I' : Nat → Prop} {h h' : Array Obj} (hI : ∀ b, I b → I' b) (hh : ∀ b, I b → h'[b]? = h[b]?) {t : LTy} {v : Value} {d : D}
    (hr : Rd P I h t v d) : Rd P I' h' t v d := by
  induction hr with
  | int => exact .int
  | bool => exact .bool
  | str => exact .str
  | nil h0 => exact .nil h0
  | row h1 h2 h3 h4 h5 h6 h7 _ ih => exact .row h1 (hI _ h2) (by rw [hh _ h2]; exact h3) h4 h5 h6 h7 ih

/-- cells that read as rows -/
def RdRows (P : Program) (I : Nat → Prop) (h : Array Obj) (ts : List LTy) (xs : List Value) (rows : List (List D)) : Prop :=
  (∀ r ∈ rows, r.length = ts.length) ∧
  ∀ (i j : Nat) (t : LTy), i < rows.length → ts[j]? = some t → Rd P I h t (xs.getD (i * ts.length + j) undef) ((rows.getD i []).getD j default)

theorem RdRows.mono {P : Program} {I I' : Nat → Prop} {h h' : Array Obj} (hI : ∀ b, I b → I' b) (hh : ∀ b, I b → h'[b]? = h[b]?) {ts : List LTy} {xs : List Value} {rows : List (List D)}
    (hr : RdRows P I h ts xs rows) : RdRows P I' h' ts xs rows := ⟨hr.1, fun i j t hi ht => (hr.2 i j t hi ht).mono hI hh⟩

/-- one cell in a walk's picture -/
inductive SV where
  | int (k : IntKind) (e : Ex)
  | bool (e : Ex)
  | str (e : Ex)
  | sl (T : TypeId) (e : Ex)
  | nils
  | nilp
  | nilf
  | ifc (e : Ex)
  | ptr (o off : Nat)
  | own (o ver : Nat)
  | oel (o ver : Nat) (i : Ex) (off : Nat)
  | pel (T : TypeId) (l i : Ex) (off : Nat)
  | fn (f : Nat) (first caps : List (Nat × Nat))
  | top
  deriving DecidableEq

/-- a value: of one cell, or a struct or array -/
inductive S1 where
  | one (x : SV)
  | agg (l : List SV)
  deriving DecidableEq

inductive Slot where
  | v (x : S1)
  | tup (l : List S1)
  deriving DecidableEq

/-- a block of the walk's own -/
inductive SObj where
  | unborn
  | dead
  | cells (T : TypeId) (l : List SV) (fz : Bool)
  | row (T : TypeId) (e : Ex) (ver : Nat)
  deriving DecidableEq

def look (H : List SObj) (o : Nat) : SObj := H.getD o .unborn

def SObj.live : SObj → Bool | .dead | .unborn => false | _ => true
def SObj.born : SObj → Bool | .unborn => false | _ => true
def SObj.loose : SObj → Bool | .cells _ _ fz => !fz | .row .. => true | .dead | .unborn => false

def blkOf : Value → Option Nat
  | .pointer (some a) => some a.block
  | .slice (some a) _ _ => some a.block
  | _ => none

structure Env where
  P : Program
  I : Nat → Prop
  ν : Nat → Value
  H : List SObj
  e : List D
  w : World

def ptrTo (x : Env) (p : Nat × Nat) (v : Value) : Prop := (look x.H p.1).born = true ∧ ∀ T l fz, look x.H p.1 = .cells T l fz → ∃ b, x.ν p.1 = .pointer (some ⟨b, 0, none⟩) ∧ v = .pointer (some ⟨b, p.2, none⟩)

def ptrsTo (x : Env) (l : List (Nat × Nat)) (c : Array Value) : Prop := c.size = l.length ∧ ∀ j p, l[j]? = some p → ptrTo x p (c.getD j undef)

/-- what the picture says of one cell -/
def G (x : Env) : SV → Value → Prop
  | .int k e, v => e.sc x.e.length = true ∧ v = .int k (e.den x.e).int
  | .bool e, v => e.sc x.e.length = true ∧ v = .bool (e.den x.e).bool
  | .str e, v => e.sc x.e.length = true ∧ v = .string (e.den x.e).str
  | .sl T e, v => e.sc x.e.length = true ∧ Rd x.P x.I x.w.heap (.sl T) v (e.den x.e)
  | .nils, v => v = .slice none 0 0
  | .nilp, v => v = .pointer none
  | .nilf, v => v = .nilFunc
  | .ifc e, v => e.sc x.e.length = true ∧ ((e.den x.e).bool = true → v = .nilIface) ∧ ((e.den x.e).bool = false → ∃ t u, v = .iface t u)
  | .ptr o off, v => ptrTo x (o, off) v
  | .own o ver, v => (look x.H o).born = true ∧ ∀ T e u, look x.H o = .row T e u → ver ≤ u ∧ (u = ver → v = x.ν o)
  | .oel o ver i off, v => i.sc x.e.length = true ∧ (look x.H o).born = true ∧ ∀ T e u, look x.H o = .row T e u → ver ≤ u ∧ (u = ver → ∃ ts b n cap, tys x.P T = some ts ∧ x.ν o = .slice (some ⟨b, 0, none⟩) n cap ∧
      0 ≤ (i.den x.e).int ∧ (i.den x.e).int < n ∧ v = .pointer (some ⟨b, (i.den x.e).int.toNat * ts.length + off, none⟩))
  | .pel T l i off, v => l.sc x.e.length = true ∧ i.sc x.e.length = true ∧ ∃ ts b o n cap, tys x.P T = some ts ∧ Rd x.P x.I x.w.heap (.sl T) (.slice (some ⟨b, o, none⟩) n cap) (l.den x.e) ∧
      0 ≤ (i.den x.e).int ∧ (i.den x.e).int < n ∧ v = .pointer (some ⟨b, o + (i.den x.e).int.toNat * ts.length + off, none⟩)
  | .fn f first caps, v => ∃ a c, v = .func (.func f) a c ∧ ptrsTo x first a ∧ ptrsTo x caps c
  | .top, _ => True

def GL (x : Env) (l : List SV) (c : Array Value) : Prop := c.size = l.length ∧ ∀ j s, l[j]? = some s → G x s (c.getD j undef)

def G1 (x : Env) : S1 → Value → Prop
  | .one s, v => G x s v
  | .agg l, v => ∃ c, v = .agg c ∧ GL x l c

def GS (x : Env) : Slot → Value → Prop
  | .v s, v => G1 x s v
  | .tup l, v => ∃ c, v = .tuple c ∧ c.size = l.length ∧ ∀ j s, l[j]? = some s → G1 x s (c.getD j undef)

/-- what the picture says of one block -/
def ObjOk (x : Env) (o : Nat) : SObj → Prop
  | .dead | .unborn => True
  | .cells T l fz => ∃ b c, x.ν o = .pointer (some ⟨b, 0, none⟩) ∧ x.w.heap[b]? = some (.cells c T (0, 0)) ∧ GL x l c ∧ (fz = true → x.I b) ∧ (fz = false → ¬ x.I b)
  | .row T e _ => e.sc x.e.length = true ∧ ∃ ts n xs, tys x.P T = some ts ∧ x.w.ownsRow 0 T ts.length (x.ν o) n xs ∧ (e.den x.e).rows.length = n ∧
      RdRows x.P x.I x.w.heap ts xs (e.den x.e).rows ∧ ∀ b, (x.ν o).ownBlock = some b → ¬ x.I b

/-- what has become of memory: below the first world's end nothing has turned but blocks of M -/
structure Fr (w0 : World) (M : Nat → Prop) (w : World) : Prop where
  os : w.os = w0.os
  tape : w.tape = w0.tape
  output : w.output = w0.output
  size : w0.heap.size ≤ w.heap.size
  block : ∀ b, b < w0.heap.size → ¬ M b → w.heap[b]? = w0.heap[b]?

theorem Fr.refl (w : World) (M : Nat → Prop) : Fr w M w := ⟨rfl, rfl, rfl, Nat.le_refl _, fun _ _ _ => rfl⟩

/-- globals whose cell is an error, or nil, and that nobody turns -/
def Pinned (P : Program) (g : Nat) : Prop := P.globalNamed "strconv.ErrSyntax" = some g ∨ P.globalNamed "strconv.ErrRange" = some g

def GlobOk (P : Program) (I : Nat → Prop) (h : Array Obj) : Prop := ∀ g, Pinned P g → I g ∧ ∃ ev E fz, h[g]? = some (.cells #[ev] E fz) ∧ (ev = .nilIface ∨ ∃ t u, ev = .iface t u)

theorem GlobOk.mono {P : Program} {I I' : Nat → Prop} {h h' : Array Obj} (hg : GlobOk P I h) (hI : ∀ b, I b → I' b) (hh : ∀ b, I b → h'[b]? = h[b]?) : GlobOk P I' h' := fun g hp => by
  obtain ⟨a, ev, E, fz, b, c⟩ := hg g hp
  exact ⟨hI g a, ev, E, fz, by rw [hh g a]; exact b, c⟩

structure Sat (x : Env) (w0 : World) (M : Nat → Prop) : Prop where
  objs : ∀ o, ObjOk x o (look x.H o)
  apart : ∀ o o' b, o ≠ o' → (look x.H o).live = true → (look x.H o').live = true → blkOf (x.ν o) = some b → blkOf (x.ν o') ≠ some b
  ibound : ∀ b, x.I b → b < x.w.heap.size
  mine : ∀ o b, (look x.H o).loose = true → blkOf (x.ν o) = some b → M b ∨ w0.heap.size ≤ b
  frame : Fr w0 M x.w
  glob : GlobOk x.P x.I x.w.heap

/-- the frame's slots -/
def Slots (x : Env) (S : List Slot) (tmps : Array Value) : Prop := tmps.size = S.length ∧ ∀ i s, S[i]? = some s → GS x s (tmps.getD i undef)

/-! ### What stays as memory grows -/

/-- the picture's words keep their meaning -/
structure Ext (x y : Env) : Prop where
  P : y.P = x.P
  I : ∀ b, x.I b → y.I b
  e : ∃ ds, y.e = x.e ++ ds
  heap : ∀ b, x.I b → y.w.heap[b]? = x.w.heap[b]?
  born : ∀ o, (look x.H o).born = true → (look y.H o).born = true
  cells : ∀ o T l fz, (look x.H o).born = true → look y.H o = .cells T l fz → (∃ l' fz', look x.H o = .cells T l' fz') ∧ y.ν o = x.ν o
  rows : ∀ o T e u, (look x.H o).born = true → look y.H o = .row T e u → ∃ e' u', look x.H o = .row T e' u' ∧ u' ≤ u ∧ (u = u' → y.ν o = x.ν o)

theorem Ext.refl (x : Env) : Ext x x :=
  ⟨rfl, fun _ h => h, ⟨[], by simp⟩, fun _ _ => rfl, fun _ h => h, fun _ _ l fz _ h => ⟨⟨l, fz, h⟩, rfl⟩, fun _ _ e u _ h => ⟨e, u, h, Nat.le_refl _, fun _ => rfl⟩⟩

theorem Ext.trans {x y z : Env} (h : Ext x y) (k : Ext y z) : Ext x z := by
  refine ⟨k.P.trans h.P, fun b hb => k.I b (h.I b hb), ?_, fun b hb => (k.heap b (h.I b hb)).trans (h.heap b hb), fun o ho => k.born o (h.born o ho), ?_, ?_⟩
  · obtain ⟨d1, e1⟩ := h.e
    obtain ⟨d2, e2⟩ := k.e
    exact ⟨d1 ++ d2, by rw [e2, e1, List.append_assoc]⟩
  · intro o T l fz hb hl
    obtain ⟨⟨l1, f1, h1⟩, n1⟩ := k.cells o T l fz (h.born o hb) hl
    obtain ⟨h2, n2⟩ := h.cells o T l1 f1 hb h1
    exact ⟨h2, n1.trans n2⟩
  · intro o T e u hb hl
    obtain ⟨e1, u1, h1, q1, n1⟩ := k.rows o T e u (h.born o hb) hl
    obtain ⟨e2, u2, h2, q2, n2⟩ := h.rows o T e1 u1 hb h1
    refine ⟨e2, u2, h2, Nat.le_trans q2 q1, fun hu => ?_⟩
    have h3 : u = u1 := by omega
    have h4 : u1 = u2 := by omega
    exact (n1 h3).trans (n2 h4)

section
variable {x y : Env}

theorem Ext.sc (h : Ext x y) {e : Ex} (he : e.sc x.e.length = true) : e.sc y.e.length = true := by
  obtain ⟨ds, hd⟩ := h.e
  exact Ex.sc_mono (by rw [hd]; simp) e he

theorem Ext.den (h : Ext x y) {e : Ex} (he : e.sc x.e.length = true) : e.den y.e = e.den x.e := by
  obtain ⟨ds, hd⟩ := h.e
  rw [hd]; exact Ex.den_ext _ _ e he

theorem ptrTo.ext (h : Ext x y) {p : Nat × Nat} {v : Value} (hp : ptrTo x p v) : ptrTo y p v := by
  refine ⟨h.born _ hp.1, fun T l fz hl => ?_⟩
  obtain ⟨⟨l', fz', hl'⟩, hn⟩ := h.cells _ _ _ _ hp.1 hl
  rw [hn]
  exact hp.2 T l' fz' hl'

theorem ptrsTo.ext (h : Ext x y) {l : List (Nat × Nat)} {c : Array Value} (hp : ptrsTo x l c) : ptrsTo y l c := ⟨hp.1, fun j p hj => (hp.2 j p hj).ext h⟩

theorem G.ext (h : Ext x y) {s : SV} {v : Value} (hg : G x s v) : G y s v := by
  cases s with
  | int k e => exact ⟨h.sc hg.1, by rw [h.den hg.1]; exact hg.2⟩
  | bool e => exact ⟨h.sc hg.1, by rw [h.den hg.1]; exact hg.2⟩
  | str e => exact ⟨h.sc hg.1, by rw [h.den hg.1]; exact hg.2⟩
  | sl T e => exact ⟨h.sc hg.1, by rw [h.den hg.1, h.P]; exact hg.2.mono h.I h.heap⟩
  | nils => exact hg
  | nilp => exact hg
  | nilf => exact hg
  | ifc e => exact ⟨h.sc hg.1, by rw [h.den hg.1]; exact hg.2⟩
  | ptr o off => exact ptrTo.ext h hg
  | own o ver =>
    refine ⟨h.born _ hg.1, fun T e u hl => ?_⟩
    obtain ⟨e', u', h4, h5, h6⟩ := h.rows o T e u hg.1 hl
    obtain ⟨h2, h3⟩ := hg.2 T e' u' h4
    refine ⟨Nat.le_trans h2 h5, fun hu => ?_⟩
    rw [h6 (by omega)]
    exact h3 (by omega)
  | oel o ver i off =>
    obtain ⟨hs, hb, hg⟩ := hg
    refine ⟨h.sc hs, h.born _ hb, fun T e u hl => ?_⟩
    obtain ⟨e', u', h4, h5, h6⟩ := h.rows o T e u hb hl
    obtain ⟨h2, h3⟩ := hg T e' u' h4
    refine ⟨Nat.le_trans h2 h5, fun hu => ?_⟩
    rw [h6 (by omega), h.P, h.den hs]
    exact h3 (by omega)
  | pel T l i off =>
    obtain ⟨hl, hi, ts, b, o, n, cap, h1, h2, h3, h4, h5⟩ := hg
    refine ⟨h.sc hl, h.sc hi, ts, b, o, n, cap, by rw [h.P]; exact h1, ?_, ?_⟩
    · rw [h.P, h.den hl]; exact h2.mono h.I h.heap
    · rw [h.den hi]; exact ⟨h3, h4, h5⟩
  | fn f first caps =>
    obtain ⟨a, c, hv, h1, h2⟩ := hg
    exact ⟨a, c, hv, h1.ext h, h2.ext h⟩
  | top => trivial

theorem GL.ext (h : Ext x y) {l : List SV} {c : Array Value} (hg : GL x l c) : GL y l c := ⟨hg.1, fun j s hj => (hg.2 j s hj).ext h⟩

theorem G1.ext (h : Ext x y) {s : S1} {v : Value} (hg : G1 x s v) : G1 y s v := by
  cases s with
  | one s => exact G.ext h hg
  | agg l => obtain ⟨c, hv, hl⟩ := hg; exact ⟨c, hv, hl.ext h⟩

theorem GS.ext (h : Ext x y) {s : Slot} {v : Value} (hg : GS x s v) : GS y s v := by
  cases s with
  | v s => exact G1.ext h hg
  | tup l => obtain ⟨c, hv, hn, hl⟩ := hg; exact ⟨c, hv, hn, fun j s hj => (hl j s hj).ext h⟩

theorem Slots.ext (h : Ext x y) {S : List Slot} {t : Array Value} (hg : Slots x S t) : Slots y S t := ⟨hg.1, fun i s hi => (hg.2 i s hi).ext h⟩

theorem ownsRow_same {w w' : World} {base : Nat} {T : TypeId} {z n : Nat} {v : Value} {xs : List Value} (h : w.ownsRow base T z v n xs)
    (hb : ∀ b, v.ownBlock = some b → w'.heap[b]? = w.heap[b]?) : w'.ownsRow base T z v n xs := by
  refine ⟨h.1, ?_⟩
  rcases h.2 with h | ⟨g, cap, cur, rfl, h1, h2, h3⟩
  · exact .inl h
  · exact .inr ⟨g, cap, cur, rfl, h1, by rw [hb g rfl]; exact h2, h3⟩

theorem blkOf_own {v : Value} {b : Nat} (h : v.ownBlock = some b) : blkOf v = some b := by
  cases v with
  | slice a n c => cases a <;> simp_all [Value.ownBlock, blkOf]
  | _ => simp_all [Value.ownBlock]

theorem ObjOk.ext (h : Ext x y) {o : Nat} {s : SObj} (hn : s.live = true → y.ν o = x.ν o)
    (hb : ∀ b, s.live = true → blkOf (x.ν o) = some b → y.w.heap[b]? = x.w.heap[b]? ∧ (y.I b ↔ x.I b)) (hg : ObjOk x o s) : ObjOk y o s := by
  cases s with
  | dead => trivial
  | unborn => trivial
  | cells T l fz =>
    obtain ⟨b, c, h1, h2, h3, h4, h5⟩ := hg
    obtain ⟨h6, h7⟩ := hb b rfl (by rw [h1]; rfl)
    exact ⟨b, c, by rw [hn rfl]; exact h1, by rw [h6]; exact h2, h3.ext h, fun e => h7.2 (h4 e), fun e => fun hi => h5 e (h7.1 hi)⟩
  | row T e u =>
    obtain ⟨hs, ts, n, xs, h1, h2, h3, h4, h5⟩ := hg
    refine ⟨h.sc hs, ts, n, xs, by rw [h.P]; exact h1, ?_, by rw [h.den hs]; exact h3, by rw [h.P, h.den hs]; exact h4.mono h.I h.heap, ?_⟩
    · rw [hn rfl]
      exact ownsRow_same h2 fun b hb' => (hb b rfl (blkOf_own hb')).1
    · intro b hb'
      rw [hn rfl] at hb'
      intro hi
      exact h5 b hb' ((hb b rfl (blkOf_own hb')).2.1 hi)

/-- a step of memory: the blocks of W are told anew, all others stand -/
theorem Sat.step {w0 : World} {M : Nat → Prop} (hs : Sat x w0 M) (he : Ext x y) (W : Nat → Prop)
    (hsame : ∀ o, ¬ W o → look y.H o = look x.H o ∧ y.ν o = x.ν o)
    (hblk : ∀ o b, ¬ W o → (look x.H o).live = true → blkOf (x.ν o) = some b → y.w.heap[b]? = x.w.heap[b]? ∧ (y.I b ↔ x.I b))
    (hnew : ∀ o, W o → ObjOk y o (look y.H o))
    (hapart : ∀ o o' b, W o → o ≠ o' → (look y.H o).live = true → (look y.H o').live = true → blkOf (y.ν o) = some b → blkOf (y.ν o') ≠ some b)
    (hib : ∀ b, y.I b → b < y.w.heap.size)
    (hmine : ∀ o b, W o → (look y.H o).loose = true → blkOf (y.ν o) = some b → M b ∨ w0.heap.size ≤ b)
    (hf : Fr w0 M y.w) : Sat y w0 M := by
  refine ⟨fun o => ?_, fun o o' b hne h1 h2 h3 => ?_, hib, fun o b h1 h2 => ?_, hf, by rw [he.P]; exact hs.glob.mono he.I he.heap⟩
  · by_cases hw : W o
    · exact hnew o hw
    · obtain ⟨h1, h2⟩ := hsame o hw
      rw [h1]
      exact (hs.objs o).ext he (fun _ => h2) fun b hl hb => hblk o b hw hl hb
  · by_cases hw : W o
    · exact hapart o o' b hw hne h1 h2 h3
    · by_cases hw' : W o'
      · intro h4
        exact hapart o' o b hw' (Ne.symm hne) h2 h1 h4 h3
      · obtain ⟨a1, a2⟩ := hsame o hw
        obtain ⟨b1, b2⟩ := hsame o' hw'
        rw [a1] at h1; rw [b1] at h2; rw [a2] at h3; rw [b2]
        exact hs.apart o o' b hne h1 h2 h3
  · by_cases hw : W o
    · exact hmine o b hw h1 h2
    · obtain ⟨a1, a2⟩ := hsame o hw
      rw [a1] at h1; rw [a2] at h2
      exact hs.mine o b h1 h2

end
end Glx
