/- One operation, whichever it is: what it does to the picture. -/
import Derived.Test.YtfelpmijieomaaaGreatDoorGlxCallB
namespace Glx
open Go

/-- what an operation does to the walk's blocks -/
inductive Ef where
  | keep
  | put (o : Nat) (s : SObj)
  | call (f : Nat) (h : Hand)

/-- the contracts, each with a number; a function may have several -/
structure Cfg where
  P : Program
  sig : Nat → Option Sig
  of : FuncId → List Nat

/-- what of the blocks is new -/
def Ef.mod (C : Cfg) : Ef → Nat → Option SObj
  | .keep, _ => none
  | .put o s, p => if p = o then some s else none
  | .call f h, p => match C.sig f with
    | some s => match h.corr s p with
      | some k => some (h.renObj s (look s.outH k))
      | none => none
    | none => none

structure Done where
  gs : List Ex
  dst : Slot
  ef : Ef

def Done.val (s : S1) : Done := ⟨[], .v s, .keep⟩

abbrev Lk := Operand → Option Slot
def lk1 (ρ : Lk) (p : Operand) : Option S1 := (ρ p).bind Slot.s1
def lkv (ρ : Lk) (p : Operand) : Option SV := (ρ p).bind Slot.sv
def lko (ρ : Lk) : Option Operand → Option (Option SV)
  | none => some none
  | some p => (lkv ρ p).map some
def lkParts (H : List SObj) (ρ : Lk) : List (Nat × Operand) → Option (List (Nat × S1))
  | [] => some []
  | (i, p) :: l => (lk1 ρ p).bind fun s => if s.cells.all (solid H) = true then (lkParts H ρ l).map ((i, s) :: ·) else none
def lks (ρ : Lk) : List Operand → Option (List Slot)
  | [] => some []
  | p :: l => (ρ p).bind fun s => (lks ρ l).map (s :: ·)

def sure (H : List SObj) : SV → Bool
  | .ptr o _ => isCells (look H o)
  | .oel o v _ _ => curVer H o v
  | .pel .. => true
  | .fn .. => true
  | _ => false

def ptrSlots (l : List (Nat × Nat)) : List Slot := l.map fun p => .v (.one (.ptr p.1 p.2))

/-! ### A hand for a call (a guess, that is looked at) -/
structure HS where
  us : List (Option Ex)
  σ : Src
  bor : List Nat

def HS.setU (h : HS) (t e : Ex) : HS := match t with
  | .var i => { h with us := h.us.set i (some e) }
  | _ => h

def handSV (s : Sig) (H : List SObj) : Nat → HS → SV × SV → HS
  | 0, h, _ => h
  | n + 1, h, (t, a) => match t, a with
    | .int _ t, .int _ e => h.setU t e
    | .bool t, .bool e => h.setU t e
    | .ifc t, .ifc e => h.setU t e
    | .str t, .str e => h.setU t e
    | .sl _ t, .sl _ e => h.setU t e
    | .sl _ t, .nils => h.setU t .nil
    | .sl _ t, .own o ver => match borrow H (.own o ver) with
      | some (_, e) => { h.setU t e with bor := o :: h.bor }
      | none => h
    | .own o' _, .nils => match look s.inH o' with
      | .row _ t _ => { h.setU t .nil with σ := h.σ.set o' (some none) }
      | _ => h
    | .own o' _, .own o _ => match look s.inH o', look H o with
      | .row _ t _, .row _ e _ => { h.setU t e with σ := h.σ.set o' (some (some o)) }
      | _, _ => h
    | .ptr o' _, .ptr o _ => if (src h.σ o').isSome then h else match look s.inH o', look H o with
      | .cells _ l _, .cells _ m _ => (l.zip m).foldl (handSV s H n) { h with σ := h.σ.set o' (some (some o)) }
      | _, _ => h
    | .fn _ a c, .fn _ a' c' => (((a ++ c).zip (a' ++ c')).map fun p => (SV.ptr p.1.1 p.1.2, SV.ptr p.2.1 p.2.2)).foldl (handSV s H n) h
    | _, _ => h

def slotCells : Slot → List SV
  | .v s => s.cells
  | .tup l => l.flatMap S1.cells

def mkHand (s : Sig) (H : List SObj) (As : List Slot) (k base : Nat) : Hand :=
  let h := ((s.inS.zip As).flatMap fun p => (slotCells p.1).zip (slotCells p.2)).foldl (handSV s H 20) ⟨List.replicate s.inN none, List.replicate s.inH.length none, []⟩
  ⟨h.us.map (·.getD (.ilit 0)), h.σ, h.bor, k, base⟩

/-! ### The operations -/
def symPick' (n : Nat) (ρ : Lk) (ρc : Ex → Bool → Lk) (kn : Ex → Option Bool) (c a b : Operand) : Option S1 :=
  (lkv ρ c).bind fun
    | .bool e => match kn e with
      | some true => lk1 ρ a
      | some false => lk1 ρ b
      | none => (lk1 (ρc e true) a).bind fun x => (lk1 (ρc e false) b).bind fun y => merge1 n e x y
    | _ => none

def symBox (H : List SObj) (k : Nat) (T : TypeId) (s : S1) : Option Done :=
  if look H k = .unborn ∧ s.cells.all (solid H) = true then some ⟨[], .v (.one (.ptr k 0)), .put k (.cells T s.cells false)⟩ else none

def symAlloc (P : Program) (H : List SObj) (k : Nat) (T : TypeId) : Option Done :=
  (P.info? T).bind fun inf => inf.zero.bind fun z => (constS1 z).bind fun s => symBox H k T s

def symBuildSlice (P : Program) (H : List SObj) (k : Nat) (t : TypeId) (n : Nat) (ps : List (Nat × S1)) : Option Done :=
  (sliceOf P t).bind fun T => (tys P T).bind fun ts => (litRows ts 0 ps).bind fun rs =>
  if look H k = .unborn ∧ ps.length = n ∧ n ≠ 0 ∧ n * ts.length ≤ 16777216 ∧ ((P.info? T).bind (·.zero)).isSome = true then some ⟨[], .v (.one (.own k 0)), .put k (.row T (rowsEx rs .nil) 0)⟩ else none

def symApp (P : Program) (H : List SObj) (k : Nat) (t0 t1 : TypeId) (s y : SV) : Option Done :=
  (symAppend P H t0 t1 s y).bind fun
    | (gs, some o, ob) => match ob with
      | .row _ _ u => some ⟨gs, .v (.one (.own o u)), .put o ob⟩
      | _ => none
    | (gs, none, ob) => match ob with
      | .row _ _ u => if look H k = .unborn then some ⟨gs, .v (.one (.own k u)), .put k ob⟩ else none
      | _ => none

def symBinOp (P : Program) (op : BinOp) (t : TypeId) (a b : S1) : Option Done :=
  match a, b with
  | .agg l, .agg m => (symEq P op t l m).map fun s => .val (.one s)
  | .one a, .one b => (symBin op a b).map fun (gs, s) => ⟨gs, .v (.one s), .keep⟩
  | _, _ => none

/-- an interface's value against nil -/
def symNil (P : Program) (op : BinOp) (t : TypeId) (y : Operand) (s : S1) : Option Done :=
  match P.underlying t, y, s with
  | some (.interface _), .const .nilIface, .one (.ifc e) => match op with
    | .eql => some (.val (.one (.bool e)))
    | .neq => some (.val (.one (.bool (mkNo e))))
    | _ => none
  | _, _, _ => none

/-- a text's bytes, as a new row that nobody turns -/
def symBytes (P : Program) (src dst : TypeId) (s : SV) : Option Done :=
  match P.underlying src, P.underlying dst, s with
  | some .string, some (.slice E), .str e => if tys P E = some [.int .u8] ∧ (match P.underlying E with | some (.int .u8) => true | _ => false) = true then some (.val (.one (.sl E (.bytes e)))) else none
  | _, _, _ => none

def nonIface (P : Program) (t : TypeId) : Bool := match P.underlying t with
  | some (.interface _) => false
  | some _ => true
  | none => false

def symBuiltin (P : Program) (H : List SObj) (k : Nat) (b : Builtin) (ts : List TypeId) (as : List Slot) : Option Done :=
  match b, ts, as with
  | .len, [t], [.v s] => (symLen P H t s).map fun s => .val (.one s)
  | .append, [t0, t1], [.v (.one s), .v (.one y)] => symApp P H k t0 t1 s y
  | .max, _, [.v (.one s), .v (.one y)] => (symExt true [s, y]).map fun s => .val (.one s)
  | .min, _, [.v (.one s), .v (.one y)] => (symExt false [s, y]).map fun s => .val (.one s)
  | _, _, _ => none

def tryCall (C : Cfg) (H : List SObj) (k base : Nat) (As : List Slot) : List Nat → Option Done
  | [] => none
  | cid :: l => match C.sig cid with
    | some s =>
      let h := mkHand s H As k base
      if callOk C.P h s H As = true then some ⟨[], h.renS s s.outS, .call cid h⟩ else tryCall C H k base As l
    | none => tryCall C H k base As l

def symCall (C : Cfg) (H : List SObj) (k base : Nat) (f : SV) (as : List Slot) : Option Done :=
  match f with
  | .fn fid a cs => tryCall C H k base (ptrSlots a ++ as ++ ptrSlots cs) (C.of fid)
  | _ => none

def symPtrs : List Slot → Option (List (Nat × Nat))
  | [] => some []
  | .v (.one (.ptr o off)) :: l => (symPtrs l).map ((o, off) :: ·)
  | _ => none

def symOp (C : Cfg) (H : List SObj) (n : Nat) (ρ : Lk) (ρc : Ex → Bool → Lk) (kn : Ex → Option Bool) (k base : Nat) : Op → Option Done
  | .move x | .assign x => (ρ x).map fun s => ⟨[], s, .keep⟩
  | .pick c a b => (symPick' n ρ ρc kn c a b).map .val
  | .alloc T => symAlloc C.P H k T
  | .box T v => (lk1 ρ v).bind fun s => symBox H k T s
  | .build t ps => (lkParts H ρ ps.toList).bind fun l => (symBuild C.P t l).map fun r => .val (.agg r)
  | .buildSlice t n ps => (lkParts H ρ ps.toList).bind fun l => symBuildSlice C.P H k t n l
  | .load t a => (lkv ρ a).bind fun s => (symLoad C.P H t s).map .val
  | .store t a v => (lkv ρ a).bind fun s => (lk1 ρ v).bind fun x => (symStore C.P H t s x).map fun (o, ob) => ⟨[], skipSlot, .put o ob⟩
  | .nilCheck x => (lkv ρ x).bind fun s => if sure H s = true then some (.val (.one s)) else none
  | .binOp op t x y _ => (lk1 ρ x).bind fun a => (lk1 ρ y).bind fun b => match symNil C.P op t y a with
    | some d => some d
    | none => symBinOp C.P op t a b
  | .makeInterface t _ => if nonIface C.P t = true then some (.val (.one (.ifc (.blit false)))) else none
  | .unOp op _ x => (lkv ρ x).bind fun s => (symUn op s).map fun r => .val (.one r)
  | .convert src dst x => (lkv ρ x).bind fun s => match symConv C.P H src dst s with
    | some r => some (.val (.one r))
    | none => symBytes C.P src dst s
  | .makeFunc (.func f) first caps => (lks ρ first.toList).bind fun a => (symPtrs a).bind fun a => (lks ρ caps.toList).bind fun c => (symPtrs c).map fun c => .val (.one (.fn f a c))
  | .slice t x lo hi none => (lkv ρ x).bind fun s => (lko ρ lo).bind fun l => (lko ρ hi).bind fun h => (symSlice C.P H t s l h).map fun (gs, r) => ⟨gs, .v (.one r), .keep⟩
  | .fieldAddr t x f => (lkv ρ x).bind fun s => if sure H s = true then (symFieldAddr C.P t f s).map fun r => .val (.one r) else none
  | .field t x f => (lk1 ρ x).bind fun s => (symField C.P t f s).map .val
  | .indexAddr t x i => (lkv ρ x).bind fun s => (lkv ρ i).bind fun j => if (match s with | .ptr .. => sure H s | _ => true) = true then (symIndexAddr C.P H t s j).map fun (gs, r) => ⟨gs, .v (.one r), .keep⟩ else none
  | .index t x i => (lk1 ρ x).bind fun s => (lkv ρ i).bind fun j => (symIndex C.P t s j).map fun (gs, r) => ⟨gs, .v r, .keep⟩
  | .extract t i => (ρ t).bind fun
    | .tup l => (l[i]?).map .val
    | _ => none
  | .call c => match c.callee with
    | .value f => (lkv ρ f).bind fun s => (lks ρ c.args.toList).bind fun as => symCall C H k base s as
    | .builtin b => (lks ρ c.args.toList).bind fun as => symBuiltin C.P H k b c.argTypes.toList as
    | _ => none
  | _ => none

/-! ### They are as the picture has them -/
section
variable {C : Cfg} {x : Env} {w0 : World} {M : Nat → Prop} {ρ : Lk} {ev : Operand → Value}

def LkOk (x : Env) (ρ : Lk) (ev : Operand → Value) : Prop := ∀ p s, ρ p = some s → GS x s (ev p)

theorem lk1_ok (hρ : LkOk x ρ ev) {p : Operand} {s : S1} (h : lk1 ρ p = some s) : G1 x s (ev p) := by
  obtain ⟨t, h1, h2⟩ := Option.bind_eq_some_iff.1 h
  exact Slot.s1_ok h2 (hρ p t h1)

theorem lkv_ok (hρ : LkOk x ρ ev) {p : Operand} {s : SV} (h : lkv ρ p = some s) : G x s (ev p) := by
  obtain ⟨t, h1, h2⟩ := Option.bind_eq_some_iff.1 h
  exact Slot.sv_ok h2 (hρ p t h1)

theorem lko_ok (hρ : LkOk x ρ ev) {p : Option Operand} {s : Option SV} (h : lko ρ p = some s) : OG x s (p.map ev) := by
  cases p with
  | none => cases h; trivial
  | some p =>
    obtain ⟨t, h1, rfl⟩ := Option.map_eq_some_iff.1 h
    exact lkv_ok hρ h1

theorem lkParts_ok (hs : Sat x w0 M) (hρ : LkOk x ρ ev) : ∀ {ps : List (Nat × Operand)} {l : List (Nat × S1)}, lkParts x.H ρ ps = some l → PartsOk x l (ps.map fun p => (p.1, ev p.2))
  | [], l, h => by cases h; trivial
  | (i, p) :: ps, l, h => by
    obtain ⟨s, h1, h2⟩ := Option.bind_eq_some_iff.1 h
    split at h2
    · rename_i hsol
      obtain ⟨l', h3, rfl⟩ := Option.map_eq_some_iff.1 h2
      exact ⟨rfl, (cells_ok hs hsol (lk1_ok hρ h1)).1, lkParts_ok hs hρ h3⟩
    · cases h2

theorem lks_ok (hρ : LkOk x ρ ev) : ∀ {ps : List Operand} {l : List Slot}, lks ρ ps = some l → (ps.map ev).length = l.length ∧ ∀ i t, l[i]? = some t → GS x t ((ps.map ev).getD i undef)
  | [], l, h => by cases h; exact ⟨rfl, fun i t hi => by simp at hi⟩
  | p :: ps, l, h => by
    obtain ⟨s, h1, h2⟩ := Option.bind_eq_some_iff.1 h
    obtain ⟨l', h3, rfl⟩ := Option.map_eq_some_iff.1 h2
    obtain ⟨h4, h5⟩ := lks_ok hρ h3
    refine ⟨by simpa using h4, fun i t hi => ?_⟩
    cases i with
    | zero => simp only [List.getElem?_cons_zero, Option.some.injEq] at hi; subst hi; simpa using hρ p s h1
    | succ i => simpa using h5 i t (by simpa using hi)

theorem sure_ok {s : SV} (h : sure x.H s = true) {v : Value} (hg : G x s v) : (∃ b a, v = .pointer (some ⟨b, a, none⟩)) ∨ ∃ f a c, v = .func (.func f) a c := by
  cases s with
  | ptr o off =>
    obtain ⟨T, l, fz, hl⟩ := isCells_spec h
    obtain ⟨b, _, hv⟩ := hg.2 T l fz hl
    exact .inl ⟨b, off, hv⟩
  | oel o ver i off =>
    simp only [sure, curVer] at h
    split at h
    · rename_i T e u hl
      obtain ⟨ts, b, n, cap, _, _, _, _, hv⟩ := (hg.2.2 T e u hl).2 (by simpa using h)
      exact .inl ⟨_, _, hv⟩
    · cases h
  | pel T l i off =>
    obtain ⟨_, _, ts, b, o, n, cap, _, _, _, _, hv⟩ := hg
    exact .inl ⟨_, _, hv⟩
  | fn f a c =>
    obtain ⟨a', c', hv, _⟩ := hg
    exact .inr ⟨_, _, _, hv⟩
  | _ => cases h

/-- what an operation leaves -/
def Fine (C : Cfg) (x : Env) (w0 : World) (M : Nat → Prop) (d : Done) (v : Value) (w' : World) : Prop :=
  ∃ y : Env, y.w = w' ∧ y.e = x.e ∧ y.P = x.P ∧ (∀ p, look y.H p = (d.ef.mod C p).getD (look x.H p)) ∧ (∀ b, y.I b → x.I b ∨ x.w.heap.size ≤ b ∨ Mof x b) ∧ Sat y w0 M ∧ Ext x y ∧ GS y d.dst v

theorem Fine.val (hs : Sat x w0 M) {gs : List Ex} {s : Slot} {v : Value} (hg : GS x s v) : Fine C x w0 M ⟨gs, s, .keep⟩ v x.w :=
  ⟨x, rfl, rfl, rfl, fun _ => rfl, fun _ => .inl, hs, Ext.refl x, hg⟩

theorem Fine.set {o : Nat} {pv : Value} {ob : SObj} {w' : World} (hs : Sat (x.set o pv ob w') w0 M) (he : Ext x (x.set o pv ob w')) {gs : List Ex} {s : Slot} {v : Value} (hg : GS (x.set o pv ob w') s v) :
    Fine C x w0 M ⟨gs, s, .put o ob⟩ v w' :=
  ⟨x.set o pv ob w', rfl, rfl, rfl, fun p => by simp only [Ef.mod, Env.set, look_put]; split <;> rfl, fun _ => .inl, hs, he, hg⟩

theorem symPick'_ok {n : Nat} {ρc : Ex → Bool → Lk} {kn : Ex → Option Bool} {c a b : Operand} {s : S1} (h : symPick' n ρ ρc kn c a b = some s) (hn : n ≤ x.e.length) (hρ : LkOk x ρ ev)
    (hρc : ∀ e t, (e.den x.e).bool = t → LkOk x (ρc e t) ev) (hkn : ∀ e b, kn e = some b → (e.den x.e).bool = b) : ∃ t, ev c = .bool t ∧ G1 x s (if t then ev a else ev b) := by
  obtain ⟨cs, h1, h2⟩ := Option.bind_eq_some_iff.1 h
  have hc := lkv_ok hρ h1
  split at h2
  · rename_i e
    obtain ⟨h3, hv⟩ := hc
    refine ⟨_, hv, ?_⟩
    split at h2
    · rename_i hk; rw [hkn _ _ hk]; exact lk1_ok hρ h2
    · rename_i hk; rw [hkn _ _ hk]; exact lk1_ok hρ h2
    · obtain ⟨sa, h4, h5⟩ := Option.bind_eq_some_iff.1 h2
      obtain ⟨sb, h6, h7⟩ := Option.bind_eq_some_iff.1 h5
      cases hd : (e.den x.e).bool with
      | true => exact merge1_l h7 hn h3 hd (lk1_ok (hρc e true hd) h4)
      | false => exact merge1_r h7 hn h3 hd (lk1_ok (hρc e false hd) h6)
  · cases h2

theorem symBox_ok (hs : Sat x w0 M) {k : Nat} {T : TypeId} {s : S1} {d : Done} (h : symBox x.H k T s = some d) {v : Value} (hg : G1 x s v) :
    ∃ u w', (Instr.box T v).run x.P x.w = .ok u w' ∧ Fine C x w0 M d u w' := by
  unfold symBox at h
  split at h
  · rename_i hc
    cases h
    obtain ⟨u, w', h1, h2, h3, h4⟩ := box_ok (T := T) hs hc.1 hc.2 hg
    exact ⟨u, w', h1, Fine.set h2 h3 h4⟩
  · cases h

theorem symAlloc_ok (hs : Sat x w0 M) {k : Nat} {T : TypeId} {d : Done} (h : symAlloc x.P x.H k T = some d) :
    ∃ u w', (Instr.alloc T true (.tuple #[])).run x.P x.w = .ok u w' ∧ Fine C x w0 M d u w' := by
  obtain ⟨inf, h1, h⟩ := Option.bind_eq_some_iff.1 h
  obtain ⟨z, h2, h⟩ := Option.bind_eq_some_iff.1 h
  obtain ⟨s, h3, h⟩ := Option.bind_eq_some_iff.1 h
  unfold symBox at h
  split at h
  · rename_i hc
    cases h
    obtain ⟨u, w', g1, g2, g3, g4⟩ := alloc_ok (T := T) hs hc.1 h1 h2 h3 hc.2
    exact ⟨u, w', g1, Fine.set g2 g3 g4⟩
  · cases h

theorem symBuildSlice_ok (hs : Sat x w0 M) {k : Nat} {t : TypeId} {n : Nat} {ps : List (Nat × S1)} {d : Done} (h : symBuildSlice x.P x.H k t n ps = some d) {vs : Array (Nat × Value)} (hp : PartsOk x ps vs.toList) :
    ∃ u w', (Instr.buildSlice t n vs).run x.P x.w = .ok u w' ∧ Fine C x w0 M d u w' := by
  obtain ⟨T, h1, h⟩ := Option.bind_eq_some_iff.1 h
  obtain ⟨ts, h2, h⟩ := Option.bind_eq_some_iff.1 h
  obtain ⟨rs, h3, h⟩ := Option.bind_eq_some_iff.1 h
  split at h
  · rename_i hc
    cases h
    obtain ⟨u, w', g1, g2, g3, g4⟩ := buildSlice_ok hs hc.1 h1 h2 h3 hc.2.1 hc.2.2.1 hc.2.2.2.1 hc.2.2.2.2 hp
    exact ⟨u, w', g1, Fine.set g2 g3 g4⟩
  · cases h

theorem symStore_ok (hs : Sat x w0 M) {t : TypeId} {s : SV} {y : S1} {o : Nat} {ob : SObj} (h : symStore x.P x.H t s y = some (o, ob)) {va v : Value} (ha : G x s va) (hg : G1 x y v) :
    ∃ w', (Instr.storeAt t va v).run x.P x.w = .ok () w' ∧ ∀ u, Fine C x w0 M ⟨[], skipSlot, .put o ob⟩ u w' := by
  obtain ⟨inf, h1, h⟩ := Option.bind_eq_some_iff.1 h
  split at h
  · rename_i hc
    split at h
    · rename_i o' off
      split at h
      · rename_i T l hl
        split at h
        · rename_i hfit
          cases h
          obtain ⟨w', g1, g2, g3⟩ := store_cells_ok hs hl h1 hc.1 hfit hc.2 ha hg
          exact ⟨w', g1, fun _ => Fine.set g2 g3 trivial⟩
        · cases h
      · cases h
    · rename_i o' ver i off
      split at h
      · rename_i T e u hl
        split at h
        · rename_i hu
          subst hu
          obtain ⟨ts, h2, h⟩ := Option.bind_eq_some_iff.1 h
          split at h
          · rename_i hfit
            obtain ⟨ds, h3, h⟩ := Option.map_eq_some_iff.1 h
            cases h
            obtain ⟨w', g1, g2, g3⟩ := store_row_ok hs hl h2 h1 hc.1 hfit hc.2 h3 ha hg
            exact ⟨w', g1, fun _ => Fine.set g2 g3 trivial⟩
          · cases h
        · cases h
      · cases h
    · cases h
  · cases h

theorem symApp_ok (hs : Sat x w0 M) {k : Nat} {t0 t1 ty : TypeId} {s y : SV} {d : Done} (h : symApp x.P x.H k t0 t1 s y = some d) {v vy : Value} (hv : G x s v) (hy : G x y vy)
    (hg : ∀ c ∈ d.gs, (c.den x.e).bool = true) : ∃ u w', (Builtin.append_ #[t0, t1] ty #[v, vy]).run x.P x.w = .ok u w' ∧ Fine C x w0 M d u w' := by
  obtain ⟨⟨gs, oo, ob⟩, h1, h⟩ := Option.bind_eq_some_iff.1 h
  unfold symAppend at h1
  obtain ⟨T, g1, h1⟩ := Option.bind_eq_some_iff.1 h1
  obtain ⟨ts, g2, h1⟩ := Option.bind_eq_some_iff.1 h1
  obtain ⟨inf, g3, h1⟩ := Option.bind_eq_some_iff.1 h1
  obtain ⟨z, g4, h1⟩ := Option.bind_eq_some_iff.1 h1
  split at h1
  · rename_i hc
    obtain ⟨src, g5, h1⟩ := Option.bind_eq_some_iff.1 h1
    have bnd : ∀ b : Ex, (∀ c ∈ gds [mkCmp .leq (mkLen (mkApp b src)) (.ilit (140737488355328 / inf.bytes : Nat))], (c.den x.e).bool = true) → ((mkLen (mkApp b src)).den x.e).int ≤ ((140737488355328 / inf.bytes : Nat) : Int) := by
      intro b hb
      have := gds_ok hb _ (List.mem_singleton.2 rfl)
      rw [mkCmp_den] at this
      exact leq_of this
    cases s with
    | nils =>
      cases h1
      simp only [Option.ite_none_right_eq_some, Option.some.injEq] at h
      obtain ⟨hk, rfl⟩ := h
      obtain rfl := hv
      obtain ⟨v', w', n', xs', q1, q2, q3, q4, q5, q6, q7⟩ := append_run (ty := ty) (base := .nil) hs (sliceOf_spec g1) g2 g3 g4 hc.1 hc.2 g5 hy rfl (World.ownsRow_nil x.w 0 T ts.length) rfl ⟨by simp [Ex.den], fun i j t hi => by simp [Ex.den] at hi⟩ (bnd _ hg)
      obtain ⟨r1, r2, r3⟩ := new_row hs hk g2 q5 q2 q3 (fun b hb => (q4 b hb).resolve_left (by intro h; cases h)) q6 q7
      exact ⟨v', w', q1, Fine.set r1 r2 r3⟩
    | own oid ver =>
      simp only at h1
      split at h1
      · rename_i T' e u hl
        simp only [Option.ite_none_right_eq_some, Option.some.injEq] at h1
        obtain ⟨⟨rfl, rfl⟩, h1⟩ := h1
        cases h1
        cases h
        have hov := (hv.2 _ e u hl).2 rfl
        have ho := hs.objs oid
        rw [hl] at ho
        obtain ⟨hsc, ts', n, xs, k1, k2, k3, k4, _⟩ := ho
        rw [g2] at k1
        cases k1
        rw [← hov] at k2
        obtain ⟨v', w', n', xs', q1, q2, q3, q4, q5, q6, q7⟩ := append_run (ty := ty) hs (sliceOf_spec g1) g2 g3 g4 hc.1 hc.2 g5 hy hsc k2 k3 k4 (bnd _ hg)
        rw [hov] at q3 q4
        obtain ⟨r1, r2, r3⟩ := mod_row hs hl g2 q5 q2 q3 q4 q6 (u := u + 1) (by omega) (fun h => by omega) q7
        exact ⟨v', w', q1, Fine.set r1 r2 r3⟩
      · cases h1
    | _ => cases h1
  · cases h1

end
end Glx
