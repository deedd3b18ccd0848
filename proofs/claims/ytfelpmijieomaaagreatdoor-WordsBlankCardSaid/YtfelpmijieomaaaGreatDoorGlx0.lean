import GoSem.Claim
import Derived.Below
import Derived.Laws.AppendOwn
import Derived.Laws.OwnMore
import Derived.Laws.Rows
import Derived.Deep.MidRow
import Derived.ChangeKeysEq
import Derived.Laws.StructEq
import Derived.Laws.BytesArg
import Derived.Lib.AppendStr
namespace Glx
open Go

/-- plain data: numbers, bools, strings, rows of cells (a slice), one row -/
inductive D where
  | i (n : Int)
  | b (x : Bool)
  | s (x : ByteArray)
  | l (rows : List (List D))
  | r (cells : List D)

instance : Inhabited D := ⟨.i 0⟩

def D.int : D → Int | .i n => n | _ => 0
def D.bool : D → Bool | .b x => x | _ => false
def D.str : D → ByteArray | .s x => x | _ => .empty
def D.rows : D → List (List D) | .l x => x | _ => []
def D.cells : D → List D | .r x => x | _ => []

@[simp] theorem D.int_i (n : Int) : (D.i n).int = n := rfl
@[simp] theorem D.bool_b (x : Bool) : (D.b x).bool = x := rfl
@[simp] theorem D.str_s (x : ByteArray) : (D.s x).str = x := rfl
@[simp] theorem D.rows_l (x : List (List D)) : (D.l x).rows = x := rfl
@[simp] theorem D.cells_r (x : List D) : (D.r x).cells = x := rfl

/-- arithmetic of two whole numbers, as the model has it (the divisor is not 0, the shift's count is not below 0) -/
def arith (op : BinOp) (k : IntKind) (x y : Int) : Int :=
  match op with
  | .add => k.wrap (x + y)
  | .sub => k.wrap (x - y)
  | .mul => k.wrap (x * y)
  | .quo => k.wrap (x.tdiv y)
  | .rem => x.tmod y
  | .and => k.wrap (BitVec.ofInt k.bits x &&& BitVec.ofInt k.bits y).toNat
  | .or => k.wrap (BitVec.ofInt k.bits x ||| BitVec.ofInt k.bits y).toNat
  | .xor => k.wrap (BitVec.ofInt k.bits x ^^^ BitVec.ofInt k.bits y).toNat
  | .andNot => k.wrap (BitVec.ofInt k.bits x &&& ~~~ BitVec.ofInt k.bits y).toNat
  | .shl => k.wrap (x * 2 ^ (min y.toNat k.bits))
  | .shr => x.fdiv (2 ^ (min y.toNat k.bits))
  | _ => 0

def compare (op : BinOp) (x y : Int) : Bool :=
  match op with
  | .eql => x == y
  | .neq => x != y
  | .lss => decide (x < y)
  | .leq => decide (x ≤ y)
  | .gtr => decide (x > y)
  | .geq => decide (x ≥ y)
  | _ => false

theorem leq_of {x y : Int} (h : compare .leq x y = true) : x ≤ y := of_decide_eq_true h
theorem lss_of {x y : Int} (h : compare .lss x y = true) : x < y := of_decide_eq_true h
theorem neq_of {x y : Int} (h : compare .neq x y = true) : x ≠ y := bne_iff_ne.1 h

def sless (x y : ByteArray) : Bool := Op.bytesLess x.toList y.toList
def sequal (x y : ByteArray) : Bool := x.toList == y.toList

def scompare (op : BinOp) (x y : ByteArray) : Bool :=
  match op with
  | .eql => sequal x y
  | .neq => !sequal x y
  | .lss => sless x y
  | .leq => sless x y || sequal x y
  | .gtr => !(sless x y || sequal x y)
  | .geq => !sless x y
  | _ => false

/-- expressions over numbered variables -/
inductive Ex where
  | var (i : Nat)
  | ilit (n : Int)
  | blit (x : Bool)
  | slit (x : List UInt8)
  | bin (op : BinOp) (k : IntKind) (a b : Ex)
  | cmp (op : BinOp) (a b : Ex)
  | scmp (op : BinOp) (a b : Ex)
  | scat (a b : Ex)
  | no (a : Ex)
  | both (a b : Ex)
  | one (a b : Ex)
  | beq (a b : Ex)
  | ite (c a b : Ex)
  | conv (k : IntKind) (a : Ex)
  | len (a : Ex)
  | slen (a : Ex)
  | byte (a i : Ex)
  | ssub (a lo hi : Ex)
  | cell (l i : Ex) (j : Nat)
  | sub (l lo hi : Ex)
  | app (l m : Ex)
  | nil
  | row (r : Ex)
  | rnil
  | rcons (x r : Ex)
  | upd (l i : Ex) (j : Nat) (v : Ex)
  | rep (n r : Ex)
  | bytes (a : Ex)
  | text (a : Ex)
  deriving DecidableEq

def bytesOf (s : ByteArray) : List (List D) := s.data.toList.map fun c => [D.i c.toNat]
def textOf (l : List (List D)) : ByteArray := ⟨(l.map fun r => UInt8.ofNat (r.getD 0 default).int.toNat).toArray⟩
def byteAt (s : ByteArray) (i : Int) : Int := ((s.data.toList.getD i.toNat 0).toNat : Int)
def cellAt (l : List (List D)) (i : Int) (j : Nat) : D := (l.getD i.toNat []).getD j default
def cut (l : List (List D)) (lo hi : Int) : List (List D) := (l.take hi.toNat).drop lo.toNat
def setAt (l : List (List D)) (i : Int) (j : Nat) (v : D) : List (List D) := l.set i.toNat ((l.getD i.toNat []).set j v)
def scut (s : ByteArray) (lo hi : Int) : ByteArray := s.extract lo.toNat hi.toNat

def Ex.den (e : List D) : Ex → D
  | .var i => e.getD i default
  | .ilit n => .i n
  | .blit x => .b x
  | .slit x => .s ⟨x.toArray⟩
  | .bin op k a b => .i (arith op k (a.den e).int (b.den e).int)
  | .cmp op a b => .b (compare op (a.den e).int (b.den e).int)
  | .scmp op a b => .b (scompare op (a.den e).str (b.den e).str)
  | .scat a b => .s ((a.den e).str ++ (b.den e).str)
  | .no a => .b (!(a.den e).bool)
  | .both a b => .b ((a.den e).bool && (b.den e).bool)
  | .one a b => .b ((a.den e).bool || (b.den e).bool)
  | .beq a b => .b ((a.den e).bool == (b.den e).bool)
  | .ite c a b => if (c.den e).bool then a.den e else b.den e
  | .conv k a => .i (k.wrap (a.den e).int)
  | .len a => .i ((a.den e).rows.length : Int)
  | .slen a => .i ((a.den e).str.size : Int)
  | .byte a i => .i (byteAt (a.den e).str (i.den e).int)
  | .ssub a lo hi => .s (scut (a.den e).str (lo.den e).int (hi.den e).int)
  | .cell l i j => cellAt (l.den e).rows (i.den e).int j
  | .sub l lo hi => .l (cut (l.den e).rows (lo.den e).int (hi.den e).int)
  | .app l m => .l ((l.den e).rows ++ (m.den e).rows)
  | .nil => .l []
  | .row r => .l [(r.den e).cells]
  | .rnil => .r []
  | .rcons x r => .r (x.den e :: (r.den e).cells)
  | .upd l i j v => .l (setAt (l.den e).rows (i.den e).int j (v.den e))
  | .rep n r => .l (List.replicate (n.den e).int.toNat (r.den e).cells)
  | .bytes a => .l (bytesOf (a.den e).str)
  | .text a => .s (textOf (a.den e).rows)

/-- only variables below n are named -/
def Ex.sc (n : Nat) : Ex → Bool
  | .var i => decide (i < n)
  | .ilit _ | .blit _ | .slit _ | .nil | .rnil => true
  | .bin _ _ a b | .cmp _ a b | .scmp _ a b | .scat a b | .both a b | .one a b | .beq a b | .byte a b | .app a b | .rcons a b | .rep a b => a.sc n && b.sc n
  | .no a | .conv _ a | .len a | .slen a | .row a | .bytes a | .text a => a.sc n
  | .ite a b c | .ssub a b c | .sub a b c | .upd a b _ c => a.sc n && b.sc n && c.sc n
  | .cell a b _ => a.sc n && b.sc n

theorem Ex.sc_mono {n m : Nat} (h : n ≤ m) : ∀ x : Ex, x.sc n = true → x.sc m = true := by
  intro x
  induction x <;> simp_all [Ex.sc] <;> omega

theorem Ex.den_ext (e f : List D) : ∀ x : Ex, x.sc e.length = true → x.den (e ++ f) = x.den e := by
  intro x
  induction x
  case var i =>
    intro h
    have h' : i < e.length := by simpa [Ex.sc] using h
    simp [Ex.den, List.getElem?_append_left h']
  all_goals simp_all [Ex.sc, Ex.den]

/-- terms: a leaf; a jump to a label; a test that must hold; a let; a call; a branch; a piece that goes on at its label; a loop -/
inductive Tm (L : Type) where
  | leaf (x : L)
  | jump (t : Nat) (outs : List Ex)
  | guard (c : Ex) (k : Tm L)
  | letx (x : Ex) (k : Tm L)
  | call (f : Nat) (args : List Ex) (k : Tm L)
  | ite (c : Ex) (a b : Tm L)
  | join (t : Nat) (m k : Tm L)
  | loop (t : Nat) (init : List Ex) (body : Tm L)

inductive Res (L : Type) where
  | leaf (x : L) (e : List D)
  | jump (t : Nat) (ds : List D)

def dens (e : List D) (l : List Ex) : List D := l.map (Ex.den e)

/-- a run of a term (in a loop: at a round's beginning, its state) -/
inductive Run {L : Type} (Φ : Nat → List D → Option (List D)) : Option (List D) → Tm L → List D → Res L → Prop where
  | leaf {x : L} {e : List D} : Run Φ none (.leaf x) e (.leaf x e)
  | jump {t : Nat} {outs : List Ex} {e : List D} : Run Φ none (.jump t outs) e (.jump t (dens e outs))
  | guard {c : Ex} {k : Tm L} {e : List D} {r : Res L} : (c.den e).bool = true → Run Φ none k e r → Run Φ none (.guard c k) e r
  | letx {x : Ex} {k : Tm L} {e : List D} {r : Res L} : Run Φ none k (e ++ [x.den e]) r → Run Φ none (.letx x k) e r
  | call {f : Nat} {args : List Ex} {k : Tm L} {e : List D} {ds : List D} {r : Res L} : Φ f (dens e args) = some ds → Run Φ none k (e ++ ds) r → Run Φ none (.call f args k) e r
  | iteT {c : Ex} {a b : Tm L} {e : List D} {r : Res L} : (c.den e).bool = true → Run Φ none a e r → Run Φ none (.ite c a b) e r
  | iteF {c : Ex} {a b : Tm L} {e : List D} {r : Res L} : (c.den e).bool = false → Run Φ none b e r → Run Φ none (.ite c a b) e r
  | joinL {t : Nat} {m k : Tm L} {e e' : List D} {x : L} : Run Φ none m e (.leaf x e') → Run Φ none (.join t m k) e (.leaf x e')
  | joinO {t u : Nat} {m k : Tm L} {e ds : List D} : u ≠ t → Run Φ none m e (.jump u ds) → Run Φ none (.join t m k) e (.jump u ds)
  | joinJ {t : Nat} {m k : Tm L} {e ds : List D} {r : Res L} : Run Φ none m e (.jump t ds) → Run Φ none k (e ++ ds) r → Run Φ none (.join t m k) e r
  | loop {t : Nat} {init : List Ex} {body : Tm L} {e : List D} {r : Res L} : Run Φ (some (dens e init)) (.loop t init body) e r → Run Φ none (.loop t init body) e r
  | loopL {t : Nat} {init : List Ex} {body : Tm L} {e st e' : List D} {x : L} : Run Φ none body (e ++ st) (.leaf x e') → Run Φ (some st) (.loop t init body) e (.leaf x e')
  | loopO {t u : Nat} {init : List Ex} {body : Tm L} {e st ds : List D} : u ≠ t → Run Φ none body (e ++ st) (.jump u ds) → Run Φ (some st) (.loop t init body) e (.jump u ds)
  | loopJ {t : Nat} {init : List Ex} {body : Tm L} {e st ds : List D} {r : Res L} : Run Φ none body (e ++ st) (.jump t ds) → Run Φ (some ds) (.loop t init body) e r → Run Φ (some st) (.loop t init body) e r

section den
variable {R : Type}

/-- so many rounds -/
def iter (F : (List D → Option R) → List D → Option R) : Nat → List D → Option R
  | 0 => fun _ => none
  | n + 1 => F (iter F n)

open Classical in
/-- rounds till there is an answer -/
noncomputable def fix (F : (List D → Option R) → List D → Option R) (st : List D) : Option R :=
  if h : ∃ n, (iter F n st).isSome = true then iter F h.choose st else none

theorem fix_some {F : (List D → Option R) → List D → Option R} {st : List D} {r : R} (h : fix F st = some r) : ∃ n, iter F n st = some r := by
  unfold fix at h
  split at h
  · exact ⟨_, h⟩
  · cases h

def upd (K : Nat → List D → Option R) (t : Nat) (k : List D → Option R) : Nat → List D → Option R := fun u => if u = t then k else K u

noncomputable def Tm.den {L : Type} (Φ : Nat → List D → Option (List D)) (kl : L → List D → Option R) : Tm L → (Nat → List D → Option R) → List D → Option R
  | .leaf x, _, e => kl x e
  | .jump t outs, K, e => K t (dens e outs)
  | .guard c k, K, e => if (c.den e).bool = true then k.den Φ kl K e else none
  | .letx x k, K, e => k.den Φ kl K (e ++ [x.den e])
  | .call f args k, K, e => (Φ f (dens e args)).bind fun ds => k.den Φ kl K (e ++ ds)
  | .ite c a b, K, e => if (c.den e).bool = true then a.den Φ kl K e else b.den Φ kl K e
  | .join t m k, K, e => m.den Φ kl (upd K t fun ds => k.den Φ kl K (e ++ ds)) e
  | .loop t init body, K, e => fix (fun rec st => body.den Φ kl (upd K t rec) (e ++ st)) (dens e init)

def Ends {L : Type} (kl : L → List D → Option R) (K : Nat → List D → Option R) (r : R) : Res L → Prop
  | .leaf x e => kl x e = some r
  | .jump t ds => K t ds = some r

/-- what a term means, some run of it gives -/
theorem run_of_den {L : Type} {Φ : Nat → List D → Option (List D)} {kl : L → List D → Option R} {r : R} : ∀ (t : Tm L) (K : Nat → List D → Option R) (e : List D),
    t.den Φ kl K e = some r → ∃ x, Run Φ none t e x ∧ Ends kl K r x := by
  intro t
  induction t with
  | leaf x => intro K e h; exact ⟨_, .leaf, h⟩
  | jump t outs => intro K e h; exact ⟨_, .jump, h⟩
  | guard c k ih =>
    intro K e h
    simp only [Tm.den] at h
    split at h
    · rename_i hc
      obtain ⟨x, h1, h2⟩ := ih K e h
      exact ⟨x, .guard hc h1, h2⟩
    · cases h
  | letx x k ih =>
    intro K e h
    obtain ⟨y, h1, h2⟩ := ih K _ h
    exact ⟨y, .letx h1, h2⟩
  | call f args k ih =>
    intro K e h
    simp only [Tm.den] at h
    obtain ⟨ds, h0, h⟩ := Option.bind_eq_some_iff.1 h
    obtain ⟨y, h1, h2⟩ := ih K _ h
    exact ⟨y, .call h0 h1, h2⟩
  | ite c a b iha ihb =>
    intro K e h
    simp only [Tm.den] at h
    split at h
    · rename_i hc
      obtain ⟨x, h1, h2⟩ := iha K e h
      exact ⟨x, .iteT hc h1, h2⟩
    · rename_i hc
      obtain ⟨x, h1, h2⟩ := ihb K e h
      exact ⟨x, .iteF (by simpa using hc) h1, h2⟩
  | join t m k ihm ihk =>
    intro K e h
    obtain ⟨x, h1, h2⟩ := ihm _ e h
    cases x with
    | leaf x e' => exact ⟨_, .joinL h1, h2⟩
    | jump u ds =>
      simp only [Ends, upd] at h2
      by_cases hu : u = t
      · subst hu
        simp only [if_true] at h2
        obtain ⟨y, h3, h4⟩ := ihk K _ h2
        exact ⟨y, .joinJ h1 h3, h4⟩
      · rw [if_neg hu] at h2
        exact ⟨_, .joinO hu h1, h2⟩
  | loop t init body ih =>
    intro K e h
    simp only [Tm.den] at h
    obtain ⟨n, hn⟩ := fix_some h
    have key : ∀ (n : Nat) (st : List D), iter (fun rec st => body.den Φ kl (upd K t rec) (e ++ st)) n st = some r →
        ∃ x, Run Φ (some st) (.loop t init body) e x ∧ Ends kl K r x := by
      intro n
      induction n with
      | zero => intro st h; simp [iter] at h
      | succ n ihn =>
        intro st h
        simp only [iter] at h
        obtain ⟨x, h1, h2⟩ := ih _ _ h
        cases x with
        | leaf x e' => exact ⟨_, .loopL h1, h2⟩
        | jump u ds =>
          simp only [Ends, upd] at h2
          by_cases hu : u = t
          · subst hu
            simp only [if_true] at h2
            obtain ⟨y, h3, h4⟩ := ihn ds h2
            exact ⟨y, .loopJ h1 h3, h4⟩
          · rw [if_neg hu] at h2
            exact ⟨_, .loopO hu h1, h2⟩
    obtain ⟨x, h1, h2⟩ := key n _ hn
    exact ⟨x, .loop h1, h2⟩

end den
end Glx
namespace Glx
open Go

/-- the type of one cell -/
inductive LTy where
  | int (k : IntKind)
  | bool
  | str
  | sl (T : TypeId)
  deriving DecidableEq

mutual
/-- the cells of a variable of a type -/
def flat (P : Program) : Nat → TypeId → Option (List LTy)
  | 0, _ => none
  | n + 1, t =>
    match P.underlying t with
    | some (.int k) => some [.int k]
    | some .bool => some [.bool]
    | some .string => some [.str]
    | some (.slice e) => some [.sl e]
    | some (.struct fs) => flats P n fs.toList
    | some (.array m e) => (flat P n e).map fun l => (List.replicate m l).flatten
    | _ => none
def flats (P : Program) : Nat → List Field → Option (List LTy)
  | 0, _ => none
  | _ + 1, [] => some []
  | n + 1, f :: fs => (flat P n f.type).bind fun a => (flats P n fs).map (a ++ ·)
end

/-- an element's cells, if their number is the model's own, and none is missing -/
def tys (P : Program) (T : TypeId) : Option (List LTy) :=
  (flat P 60 T).bind fun ts => if decide ((P.info? T).map (·.size) = some ts.length) && !ts.isEmpty then some ts else none

theorem tys_size {P : Program} {T : TypeId} {ts : List LTy} (h : tys P T = some ts) : ∃ i, P.info? T = some i ∧ i.size = ts.length ∧ ts ≠ [] := by
  unfold tys at h
  obtain ⟨l, _, h⟩ := Option.bind_eq_some_iff.1 h
  split at h
  · rename_i hc
    obtain rfl := Option.some.inj h
    simp only [Bool.and_eq_true, decide_eq_true_eq, Bool.not_eq_true', List.isEmpty_eq_false_iff] at hc
    cases hi : P.info? T with
    | none => simp [hi] at hc
    | some i => exact ⟨i, rfl, by simpa [hi] using hc.1, hc.2⟩
  · cases h

/-- what a value reads as; what it points to lies in blocks of which I speaks -/
inductive Rd (P : Program) (I : Nat → Prop) (h : Array Obj) : LTy → Value → D → Prop where
  | int {k : IntKind} {d : D} : Rd P I h (.int k) (.int k d.int) d
  | bool {d : D} : Rd P I h .bool (.bool d.bool) d
  | str {d : D} : Rd P I h .str (.string d.str) d
  | nil {T : TypeId} {d : D} : d.rows = [] → Rd P I h (.sl T) (.slice none 0 0) d
  | empty {T : TypeId} {d : D} {ts : List LTy} {a : Addr} : tys P T = some ts → d.rows = [] → Rd P I h (.sl T) (.slice (some a) 0 0) d
  | row {T : TypeId} {d : D} {ts : List LTy} {b off n cap : Nat} {c : Array Value} {E : TypeId} {fz : Nat × Nat} : tys P T = some ts → I b → h[b]? = some (.cells c E fz) →
      d.rows.length = n → n ≤ cap → off + n * ts.length ≤ c.size → (∀ r ∈ d.rows, r.length = ts.length) →
      (∀ (i j : Nat) (t : LTy), i < n → ts[j]? = some t → Rd P I h t (c.getD (off + i * ts.length + j) undef) ((d.rows.getD i []).getD j default)) →
      Rd P I h (.sl T) (.slice (some ⟨b, off, none⟩) n cap) d

theorem Rd.mono {P : Program} {I I' : Nat → Prop} {h h' : Array Obj} (hI : ∀ b, I b → I' b) (hh : ∀ b, I b → h'[b]? = h[b]?) {t : LTy} {v : Value} {d : D}
    (hr : Rd P I h t v d) : Rd P I' h' t v d := by
  induction hr with
  | int => exact .int
  | bool => exact .bool
  | str => exact .str
  | nil h0 => exact .nil h0
  | empty h0 h1 => exact .empty h0 h1
  | row h1 h2 h3 h4 h5 h6 h7 _ ih => exact .row h1 (hI _ h2) (by rw [hh _ h2]; exact h3) h4 h5 h6 h7 ih

/-- cells that read as rows -/
def RdRows (P : Program) (I : Nat → Prop) (h : Array Obj) (ts : List LTy) (xs : List Value) (rows : List (List D)) : Prop :=
  (∀ r ∈ rows, r.length = ts.length) ∧
  ∀ (i j : Nat) (t : LTy), i < rows.length → ts[j]? = some t → Rd P I h t (xs.getD (i * ts.length + j) undef) ((rows.getD i []).getD j default)

theorem RdRows.mono {P : Program} {I I' : Nat → Prop} {h h' : Array Obj} (hI : ∀ b, I b → I' b) (hh : ∀ b, I b → h'[b]? = h[b]?) {ts : List LTy} {xs : List Value} {rows : List (List D)}
    (hr : RdRows P I h ts xs rows) : RdRows P I' h' ts xs rows := ⟨hr.1, fun i j t hi ht => (hr.2 i j t hi ht).mono hI hh⟩

/-- one cell in a walk's picture -/
inductive SV where
  | int (k : IntKind) (e : Ex)
  | bool (e : Ex)
  | str (e : Ex)
  | sl (T : TypeId) (e : Ex)
  | nils
  | nilp
  | nilf
  | ifc (e : Ex)
  | ptr (o off : Nat)
  | own (o ver : Nat)
  | oel (o ver : Nat) (i : Ex) (off : Nat)
  | pel (T : TypeId) (l i : Ex) (off : Nat)
  | fn (f : Nat) (first caps : List (Nat × Nat))
  | top
  deriving DecidableEq

/-- a value: of one cell, or a struct or array -/
inductive S1 where
  | one (x : SV)
  | agg (l : List SV)
  deriving DecidableEq

inductive Slot where
  | v (x : S1)
  | tup (l : List S1)
  deriving DecidableEq

/-- a block of the walk's own -/
inductive SObj where
  | unborn
  | dead
  | cells (T : TypeId) (l : List SV) (fz : Bool)
  | row (T : TypeId) (e : Ex) (ver : Nat)
  deriving DecidableEq

def look (H : List SObj) (o : Nat) : SObj := H.getD o .unborn

def SObj.live : SObj → Bool | .dead | .unborn => false | _ => true
def SObj.born : SObj → Bool | .unborn => false | _ => true
def SObj.loose : SObj → Bool | .cells _ _ fz => !fz | .row .. => true | .dead | .unborn => false

def blkOf : Value → Option Nat
  | .pointer (some a) => some a.block
  | .slice (some a) _ _ => some a.block
  | _ => none

structure Env where
  P : Program
  I : Nat → Prop
  ν : Nat → Value
  H : List SObj
  e : List D
  w : World

def ptrTo (x : Env) (p : Nat × Nat) (v : Value) : Prop := (look x.H p.1).born = true ∧ ∀ T l fz, look x.H p.1 = .cells T l fz → ∃ b, x.ν p.1 = .pointer (some ⟨b, 0, none⟩) ∧ v = .pointer (some ⟨b, p.2, none⟩)

def ptrsTo (x : Env) (l : List (Nat × Nat)) (c : Array Value) : Prop := c.size = l.length ∧ ∀ j p, l[j]? = some p → ptrTo x p (c.getD j undef)

/-- what the picture says of one cell -/
def G (x : Env) : SV → Value → Prop
  | .int k e, v => e.sc x.e.length = true ∧ v = .int k (e.den x.e).int
  | .bool e, v => e.sc x.e.length = true ∧ v = .bool (e.den x.e).bool
  | .str e, v => e.sc x.e.length = true ∧ v = .string (e.den x.e).str
  | .sl T e, v => e.sc x.e.length = true ∧ Rd x.P x.I x.w.heap (.sl T) v (e.den x.e)
  | .nils, v => v = .slice none 0 0
  | .nilp, v => v = .pointer none
  | .nilf, v => v = .nilFunc
  | .ifc e, v => e.sc x.e.length = true ∧ ((e.den x.e).bool = true → v = .nilIface) ∧ ((e.den x.e).bool = false → ∃ t u, v = .iface t u)
  | .ptr o off, v => ptrTo x (o, off) v
  | .own o ver, v => (look x.H o).born = true ∧ ∀ T e u, look x.H o = .row T e u → ver ≤ u ∧ (u = ver → v = x.ν o)
  | .oel o ver i off, v => i.sc x.e.length = true ∧ (look x.H o).born = true ∧ ∀ T e u, look x.H o = .row T e u → ver ≤ u ∧ (u = ver → ∃ ts b n cap, tys x.P T = some ts ∧ x.ν o = .slice (some ⟨b, 0, none⟩) n cap ∧
      0 ≤ (i.den x.e).int ∧ (i.den x.e).int < n ∧ v = .pointer (some ⟨b, (i.den x.e).int.toNat * ts.length + off, none⟩))
  | .pel T l i off, v => l.sc x.e.length = true ∧ i.sc x.e.length = true ∧ ∃ ts b o n cap, tys x.P T = some ts ∧ Rd x.P x.I x.w.heap (.sl T) (.slice (some ⟨b, o, none⟩) n cap) (l.den x.e) ∧
      0 ≤ (i.den x.e).int ∧ (i.den x.e).int < n ∧ v = .pointer (some ⟨b, o + (i.den x.e).int.toNat * ts.length + off, none⟩)
  | .fn f first caps, v => ∃ a c, v = .func (.func f) a c ∧ ptrsTo x first a ∧ ptrsTo x caps c
  | .top, _ => True

def GL (x : Env) (l : List SV) (c : Array Value) : Prop := c.size = l.length ∧ ∀ j s, l[j]? = some s → G x s (c.getD j undef)

def G1 (x : Env) : S1 → Value → Prop
  | .one s, v => G x s v
  | .agg l, v => ∃ c, v = .agg c ∧ GL x l c

def GS (x : Env) : Slot → Value → Prop
  | .v s, v => G1 x s v
  | .tup l, v => ∃ c, v = .tuple c ∧ c.size = l.length ∧ ∀ j s, l[j]? = some s → G1 x s (c.getD j undef)

/-- what the picture says of one block -/
def ObjOk (x : Env) (o : Nat) : SObj → Prop
  | .dead | .unborn => True
  | .cells T l fz => ∃ b c, x.ν o = .pointer (some ⟨b, 0, none⟩) ∧ x.w.heap[b]? = some (.cells c T (0, 0)) ∧ GL x l c ∧ (fz = true → x.I b) ∧ (fz = false → ¬ x.I b)
  | .row T e _ => e.sc x.e.length = true ∧ ∃ ts n xs, tys x.P T = some ts ∧ x.w.ownsRow 0 T ts.length (x.ν o) n xs ∧ (e.den x.e).rows.length = n ∧
      RdRows x.P x.I x.w.heap ts xs (e.den x.e).rows ∧ ∀ b, (x.ν o).ownBlock = some b → ¬ x.I b

/-- what has become of memory: below the first world's end nothing has turned but blocks of M -/
structure Fr (w0 : World) (M : Nat → Prop) (w : World) : Prop where
  os : w.os = w0.os
  tape : w.tape = w0.tape
  output : w.output = w0.output
  size : w0.heap.size ≤ w.heap.size
  block : ∀ b, b < w0.heap.size → ¬ M b → w.heap[b]? = w0.heap[b]?

theorem Fr.refl (w : World) (M : Nat → Prop) : Fr w M w := ⟨rfl, rfl, rfl, Nat.le_refl _, fun _ _ _ => rfl⟩

/-- globals whose cell is an error, or nil, and that nobody turns -/
def Pinned (P : Program) (g : Nat) : Prop := P.globalNamed "strconv.ErrSyntax" = some g ∨ P.globalNamed "strconv.ErrRange" = some g

def GlobOk (P : Program) (I : Nat → Prop) (h : Array Obj) : Prop := ∀ g, Pinned P g → I g ∧ ∃ ev E fz, h[g]? = some (.cells #[ev] E fz) ∧ (ev = .nilIface ∨ ∃ t u, ev = .iface t u)

theorem GlobOk.mono {P : Program} {I I' : Nat → Prop} {h h' : Array Obj} (hg : GlobOk P I h) (hI : ∀ b, I b → I' b) (hh : ∀ b, I b → h'[b]? = h[b]?) : GlobOk P I' h' := fun g hp => by
  obtain ⟨a, ev, E, fz, b, c⟩ := hg g hp
  exact ⟨hI g a, ev, E, fz, by rw [hh g a]; exact b, c⟩

structure Sat (x : Env) (w0 : World) (M : Nat → Prop) : Prop where
  objs : ∀ o, ObjOk x o (look x.H o)
  apart : ∀ o o' b, o ≠ o' → (look x.H o).live = true → (look x.H o').live = true → blkOf (x.ν o) = some b → blkOf (x.ν o') ≠ some b
  ibound : ∀ b, x.I b → b < x.w.heap.size
  mine : ∀ o b, (look x.H o).loose = true → blkOf (x.ν o) = some b → M b ∨ w0.heap.size ≤ b
  frame : Fr w0 M x.w
  glob : GlobOk x.P x.I x.w.heap

/-- the frame's slots -/
def Slots (x : Env) (S : List Slot) (tmps : Array Value) : Prop := tmps.size = S.length ∧ ∀ i s, S[i]? = some s → GS x s (tmps.getD i undef)

/-! ### What stays as memory grows -/

/-- the picture's words keep their meaning -/
structure Ext (x y : Env) : Prop where
  P : y.P = x.P
  I : ∀ b, x.I b → y.I b
  e : ∃ ds, y.e = x.e ++ ds
  heap : ∀ b, x.I b → y.w.heap[b]? = x.w.heap[b]?
  born : ∀ o, (look x.H o).born = true → (look y.H o).born = true
  cells : ∀ o T l fz, (look x.H o).born = true → look y.H o = .cells T l fz → (∃ l' fz', look x.H o = .cells T l' fz') ∧ y.ν o = x.ν o
  rows : ∀ o T e u, (look x.H o).born = true → look y.H o = .row T e u → ∃ e' u', look x.H o = .row T e' u' ∧ u' ≤ u ∧ (u = u' → y.ν o = x.ν o)

theorem Ext.refl (x : Env) : Ext x x :=
  ⟨rfl, fun _ h => h, ⟨[], by simp⟩, fun _ _ => rfl, fun _ h => h, fun _ _ l fz _ h => ⟨⟨l, fz, h⟩, rfl⟩, fun _ _ e u _ h => ⟨e, u, h, Nat.le_refl _, fun _ => rfl⟩⟩

theorem Ext.trans {x y z : Env} (h : Ext x y) (k : Ext y z) : Ext x z := by
  refine ⟨k.P.trans h.P, fun b hb => k.I b (h.I b hb), ?_, fun b hb => (k.heap b (h.I b hb)).trans (h.heap b hb), fun o ho => k.born o (h.born o ho), ?_, ?_⟩
  · obtain ⟨d1, e1⟩ := h.e
    obtain ⟨d2, e2⟩ := k.e
    exact ⟨d1 ++ d2, by rw [e2, e1, List.append_assoc]⟩
  · intro o T l fz hb hl
    obtain ⟨⟨l1, f1, h1⟩, n1⟩ := k.cells o T l fz (h.born o hb) hl
    obtain ⟨h2, n2⟩ := h.cells o T l1 f1 hb h1
    exact ⟨h2, n1.trans n2⟩
  · intro o T e u hb hl
    obtain ⟨e1, u1, h1, q1, n1⟩ := k.rows o T e u (h.born o hb) hl
    obtain ⟨e2, u2, h2, q2, n2⟩ := h.rows o T e1 u1 hb h1
    refine ⟨e2, u2, h2, Nat.le_trans q2 q1, fun hu => ?_⟩
    have h3 : u = u1 := by omega
    have h4 : u1 = u2 := by omega
    exact (n1 h3).trans (n2 h4)

section
variable {x y : Env}

theorem Ext.sc (h : Ext x y) {e : Ex} (he : e.sc x.e.length = true) : e.sc y.e.length = true := by
  obtain ⟨ds, hd⟩ := h.e
  exact Ex.sc_mono (by rw [hd]; simp) e he

theorem Ext.den (h : Ext x y) {e : Ex} (he : e.sc x.e.length = true) : e.den y.e = e.den x.e := by
  obtain ⟨ds, hd⟩ := h.e
  rw [hd]; exact Ex.den_ext _ _ e he

theorem ptrTo.ext (h : Ext x y) {p : Nat × Nat} {v : Value} (hp : ptrTo x p v) : ptrTo y p v := by
  refine ⟨h.born _ hp.1, fun T l fz hl => ?_⟩
  obtain ⟨⟨l', fz', hl'⟩, hn⟩ := h.cells _ _ _ _ hp.1 hl
  rw [hn]
  exact hp.2 T l' fz' hl'

theorem ptrsTo.ext (h : Ext x y) {l : List (Nat × Nat)} {c : Array Value} (hp : ptrsTo x l c) : ptrsTo y l c := ⟨hp.1, fun j p hj => (hp.2 j p hj).ext h⟩

theorem G.ext (h : Ext x y) {s : SV} {v : Value} (hg : G x s v) : G y s v := by
  cases s with
  | int k e => exact ⟨h.sc hg.1, by rw [h.den hg.1]; exact hg.2⟩
  | bool e => exact ⟨h.sc hg.1, by rw [h.den hg.1]; exact hg.2⟩
  | str e => exact ⟨h.sc hg.1, by rw [h.den hg.1]; exact hg.2⟩
  | sl T e => exact ⟨h.sc hg.1, by rw [h.den hg.1, h.P]; exact hg.2.mono h.I h.heap⟩
  | nils => exact hg
  | nilp => exact hg
  | nilf => exact hg
  | ifc e => exact ⟨h.sc hg.1, by rw [h.den hg.1]; exact hg.2⟩
  | ptr o off => exact ptrTo.ext h hg
  | own o ver =>
    refine ⟨h.born _ hg.1, fun T e u hl => ?_⟩
    obtain ⟨e', u', h4, h5, h6⟩ := h.rows o T e u hg.1 hl
    obtain ⟨h2, h3⟩ := hg.2 T e' u' h4
    refine ⟨Nat.le_trans h2 h5, fun hu => ?_⟩
    rw [h6 (by omega)]
    exact h3 (by omega)
  | oel o ver i off =>
    obtain ⟨hs, hb, hg⟩ := hg
    refine ⟨h.sc hs, h.born _ hb, fun T e u hl => ?_⟩
    obtain ⟨e', u', h4, h5, h6⟩ := h.rows o T e u hb hl
    obtain ⟨h2, h3⟩ := hg T e' u' h4
    refine ⟨Nat.le_trans h2 h5, fun hu => ?_⟩
    rw [h6 (by omega), h.P, h.den hs]
    exact h3 (by omega)
  | pel T l i off =>
    obtain ⟨hl, hi, ts, b, o, n, cap, h1, h2, h3, h4, h5⟩ := hg
    refine ⟨h.sc hl, h.sc hi, ts, b, o, n, cap, by rw [h.P]; exact h1, ?_, ?_⟩
    · rw [h.P, h.den hl]; exact h2.mono h.I h.heap
    · rw [h.den hi]; exact ⟨h3, h4, h5⟩
  | fn f first caps =>
    obtain ⟨a, c, hv, h1, h2⟩ := hg
    exact ⟨a, c, hv, h1.ext h, h2.ext h⟩
  | top => trivial

theorem GL.ext (h : Ext x y) {l : List SV} {c : Array Value} (hg : GL x l c) : GL y l c := ⟨hg.1, fun j s hj => (hg.2 j s hj).ext h⟩

theorem G1.ext (h : Ext x y) {s : S1} {v : Value} (hg : G1 x s v) : G1 y s v := by
  cases s with
  | one s => exact G.ext h hg
  | agg l => obtain ⟨c, hv, hl⟩ := hg; exact ⟨c, hv, hl.ext h⟩

theorem GS.ext (h : Ext x y) {s : Slot} {v : Value} (hg : GS x s v) : GS y s v := by
  cases s with
  | v s => exact G1.ext h hg
  | tup l => obtain ⟨c, hv, hn, hl⟩ := hg; exact ⟨c, hv, hn, fun j s hj => (hl j s hj).ext h⟩

theorem Slots.ext (h : Ext x y) {S : List Slot} {t : Array Value} (hg : Slots x S t) : Slots y S t := ⟨hg.1, fun i s hi => (hg.2 i s hi).ext h⟩

theorem ownsRow_same {w w' : World} {base : Nat} {T : TypeId} {z n : Nat} {v : Value} {xs : List Value} (h : w.ownsRow base T z v n xs)
    (hb : ∀ b, v.ownBlock = some b → w'.heap[b]? = w.heap[b]?) : w'.ownsRow base T z v n xs := by
  refine ⟨h.1, ?_⟩
  rcases h.2 with h | ⟨g, cap, cur, rfl, h1, h2, h3⟩
  · exact .inl h
  · exact .inr ⟨g, cap, cur, rfl, h1, by rw [hb g rfl]; exact h2, h3⟩

theorem blkOf_own {v : Value} {b : Nat} (h : v.ownBlock = some b) : blkOf v = some b := by
  cases v with
  | slice a n c => cases a <;> simp_all [Value.ownBlock, blkOf]
  | _ => simp_all [Value.ownBlock]

theorem ObjOk.ext (h : Ext x y) {o : Nat} {s : SObj} (hn : s.live = true → y.ν o = x.ν o)
    (hb : ∀ b, s.live = true → blkOf (x.ν o) = some b → y.w.heap[b]? = x.w.heap[b]? ∧ (y.I b ↔ x.I b)) (hg : ObjOk x o s) : ObjOk y o s := by
  cases s with
  | dead => trivial
  | unborn => trivial
  | cells T l fz =>
    obtain ⟨b, c, h1, h2, h3, h4, h5⟩ := hg
    obtain ⟨h6, h7⟩ := hb b rfl (by rw [h1]; rfl)
    exact ⟨b, c, by rw [hn rfl]; exact h1, by rw [h6]; exact h2, h3.ext h, fun e => h7.2 (h4 e), fun e => fun hi => h5 e (h7.1 hi)⟩
  | row T e u =>
    obtain ⟨hs, ts, n, xs, h1, h2, h3, h4, h5⟩ := hg
    refine ⟨h.sc hs, ts, n, xs, by rw [h.P]; exact h1, ?_, by rw [h.den hs]; exact h3, by rw [h.P, h.den hs]; exact h4.mono h.I h.heap, ?_⟩
    · rw [hn rfl]
      exact ownsRow_same h2 fun b hb' => (hb b rfl (blkOf_own hb')).1
    · intro b hb'
      rw [hn rfl] at hb'
      intro hi
      exact h5 b hb' ((hb b rfl (blkOf_own hb')).2.1 hi)

/-- a step of memory: the blocks of W are told anew, all others stand -/
theorem Sat.step {w0 : World} {M : Nat → Prop} (hs : Sat x w0 M) (he : Ext x y) (W : Nat → Prop)
    (hsame : ∀ o, ¬ W o → look y.H o = look x.H o ∧ y.ν o = x.ν o)
    (hblk : ∀ o b, ¬ W o → (look x.H o).live = true → blkOf (x.ν o) = some b → y.w.heap[b]? = x.w.heap[b]? ∧ (y.I b ↔ x.I b))
    (hnew : ∀ o, W o → ObjOk y o (look y.H o))
    (hapart : ∀ o o' b, W o → o ≠ o' → (look y.H o).live = true → (look y.H o').live = true → blkOf (y.ν o) = some b → blkOf (y.ν o') ≠ some b)
    (hib : ∀ b, y.I b → b < y.w.heap.size)
    (hmine : ∀ o b, W o → (look y.H o).loose = true → blkOf (y.ν o) = some b → M b ∨ w0.heap.size ≤ b)
    (hf : Fr w0 M y.w) : Sat y w0 M := by
  refine ⟨fun o => ?_, fun o o' b hne h1 h2 h3 => ?_, hib, fun o b h1 h2 => ?_, hf, by rw [he.P]; exact hs.glob.mono he.I he.heap⟩
  · by_cases hw : W o
    · exact hnew o hw
    · obtain ⟨h1, h2⟩ := hsame o hw
      rw [h1]
      exact (hs.objs o).ext he (fun _ => h2) fun b hl hb => hblk o b hw hl hb
  · by_cases hw : W o
    · exact hapart o o' b hw hne h1 h2 h3
    · by_cases hw' : W o'
      · intro h4
        exact hapart o' o b hw' (Ne.symm hne) h2 h1 h4 h3
      · obtain ⟨a1, a2⟩ := hsame o hw
        obtain ⟨b1, b2⟩ := hsame o' hw'
        rw [a1] at h1; rw [b1] at h2; rw [a2] at h3; rw [b2]
        exact hs.apart o o' b hne h1 h2 h3
  · by_cases hw : W o
    · exact hmine o b hw h1 h2
    · obtain ⟨a1, a2⟩ := hsame o hw
      rw [a1] at h1; rw [a2] at h2
      exact hs.mine o b h1 h2

end
end Glx
namespace Glx
open Go

def allSome {α : Type} : List (Option α) → Option (List α)
  | [] => some []
  | none :: _ => none
  | some a :: l => (allSome l).map (a :: ·)

theorem allSome_spec {α : Type} : ∀ {l : List (Option α)} {r : List α}, allSome l = some r → l = r.map some
  | [], r, h => by simp only [allSome, Option.some.injEq] at h; subst h; rfl
  | none :: _, _, h => by simp [allSome] at h
  | some a :: l, r, h => by
    simp only [allSome, Option.map_eq_some_iff] at h
    obtain ⟨r', h1, rfl⟩ := h
    simp [allSome_spec h1]

/-- cells of constants -/
def constSV : Value → Option SV
  | .int k n => some (.int k (.ilit n))
  | .bool b => some (.bool (.blit b))
  | .string s => some (.str (.slit s.data.toList))
  | .slice none 0 0 => some .nils
  | .pointer none => some .nilp
  | .nilFunc => some .nilf
  | .nilIface => some (.ifc (.blit true))
  | _ => none

def constS1 : Value → Option S1
  | .agg cs => (allSome (cs.toList.map constSV)).map .agg
  | v => (constSV v).map .one

def opd (S : List Slot) : Operand → Option Slot
  | .tmp t => match S[t]? with
    | some (.v (.one .top)) => none
    | r => r
  | .const v => (constS1 v).map .v
  | .func f => some (.v (.one (.fn f [] [])))
  | .global _ => none

def Slot.sv : Slot → Option SV
  | .v (.one s) => some s
  | _ => none
def Slot.s1 : Slot → Option S1
  | .v s => some s
  | _ => none
def S1.cells : S1 → List SV
  | .one s => [s]
  | .agg l => l

/-- a binder that an operation wants ahead of it -/
inductive Bd where
  | guard (c : Ex)
  | call (f : Nat) (args : List Ex) (n : Nat)

structure Out where
  bds : List Bd
  dst : Slot
  news : List SObj
  mods : List (Nat × SObj)

def Out.val (s : Slot) : Out := ⟨[], s, [], []⟩
def Out.sv (s : SV) : Out := ⟨[], .v (.one s), [], []⟩
def Out.g (gs : List Ex) (s : SV) : Out := ⟨gs.map .guard, .v (.one s), [], []⟩
def skipSlot : Slot := .v (.one .top)

/-! ### Expressions, folded where they are plain -/
def mkNo : Ex → Ex
  | .blit b => .blit (!b)
  | x => .no x
def mkIteB (c x y : Ex) : Ex :=
  if y = .blit false then .both c x
  else if x = .blit true then .one c y
  else if y = .blit true then .one (mkNo c) x
  else if x = .blit false then .both (mkNo c) y
  else .ite c x y
def mkCmp (op : BinOp) : Ex → Ex → Ex
  | .ilit a, .ilit b => .blit (compare op a b)
  | x, y => .cmp op x y
def mkBin (op : BinOp) (k : IntKind) : Ex → Ex → Ex
  | .ilit a, .ilit b => if op = .add ∨ op = .sub ∨ op = .mul then .ilit (arith op k a b) else .bin op k (.ilit a) (.ilit b)
  | x, y => .bin op k x y
/-- how many rows, where they are written out -/
def litLen : Ex → Option Nat
  | .nil => some 0
  | .row _ => some 1
  | .app a b => (litLen a).bind fun m => (litLen b).map (m + ·)
  | _ => none
def mkLen (x : Ex) : Ex := match litLen x with
  | some n => .ilit n
  | none => .len x
/-- guards that are not plainly met -/
def gds (l : List Ex) : List Ex := l.filter fun c => !(c == .blit true)

theorem mkNo_den (e : List D) (x : Ex) : ((mkNo x).den e).bool = !(x.den e).bool := by cases x <;> rfl
theorem mkNo_sc (n : Nat) (x : Ex) : (mkNo x).sc n = x.sc n := by cases x <;> rfl
theorem mkIteB_den (e : List D) (c x y : Ex) : ((mkIteB c x y).den e).bool = if (c.den e).bool then (x.den e).bool else (y.den e).bool := by
  unfold mkIteB
  split
  · rename_i h; subst h; simp only [Ex.den, D.bool_b]; cases (c.den e).bool <;> simp
  · split
    · rename_i h; subst h; simp only [Ex.den, D.bool_b]; cases (c.den e).bool <;> simp
    · split
      · rename_i h; subst h; simp only [Ex.den, D.bool_b, mkNo_den]; cases (c.den e).bool <;> simp
      · split
        · rename_i h; subst h; simp only [Ex.den, D.bool_b, mkNo_den]; cases (c.den e).bool <;> simp
        · simp only [Ex.den]; split <;> rfl
theorem mkIteB_sc {n : Nat} {c x y : Ex} (hc : c.sc n = true) (hx : x.sc n = true) (hy : y.sc n = true) : (mkIteB c x y).sc n = true := by
  unfold mkIteB
  repeat' split
  all_goals simp [Ex.sc, mkNo_sc, hc, hx, hy]
theorem mkCmp_den (e : List D) (op : BinOp) (x y : Ex) : ((mkCmp op x y).den e).bool = compare op (x.den e).int (y.den e).int := by
  unfold mkCmp
  split <;> rfl
theorem mkCmp_sc {n : Nat} {op : BinOp} {x y : Ex} (hx : x.sc n = true) (hy : y.sc n = true) : (mkCmp op x y).sc n = true := by
  unfold mkCmp
  split
  · rfl
  · simp [Ex.sc, hx, hy]
theorem mkBin_den (e : List D) (op : BinOp) (k : IntKind) (x y : Ex) : ((mkBin op k x y).den e).int = arith op k (x.den e).int (y.den e).int := by
  unfold mkBin
  split
  · split <;> rfl
  · rfl
theorem mkBin_sc {n : Nat} {op : BinOp} {k : IntKind} {x y : Ex} (hx : x.sc n = true) (hy : y.sc n = true) : (mkBin op k x y).sc n = true := by
  unfold mkBin
  split
  · split <;> rfl
  · simp [Ex.sc, hx, hy]
theorem litLen_den (e : List D) : ∀ (x : Ex) (n : Nat), litLen x = some n → (x.den e).rows.length = n := by
  intro x
  induction x <;> intro n h <;> simp only [litLen, reduceCtorEq, Option.some.injEq] at h
  case nil => subst h; rfl
  case row => subst h; rfl
  case app a b iha ihb =>
    obtain ⟨m, h1, h2⟩ := Option.bind_eq_some_iff.1 h
    obtain ⟨q, h3, rfl⟩ := Option.map_eq_some_iff.1 h2
    simp [Ex.den, iha m h1, ihb q h3]
theorem mkLen_den (e : List D) (x : Ex) : ((mkLen x).den e).int = ((x.den e).rows.length : Int) := by
  unfold mkLen
  split
  · rename_i n h; rw [litLen_den e x n h]; rfl
  · rfl
theorem mkLen_sc {n : Nat} {x : Ex} (hx : x.sc n = true) : (mkLen x).sc n = true := by
  unfold mkLen
  split
  · rfl
  · exact hx
theorem gds_ok {e : List D} {l : List Ex} (h : ∀ c ∈ gds l, (c.den e).bool = true) : ∀ c ∈ l, (c.den e).bool = true := by
  intro c hc
  by_cases hb : c = .blit true
  · subst hb; rfl
  · exact h c (by simp [gds, hc, hb])

/-! ### Cells and data -/
def dataSV : LTy → Ex → SV
  | .int k, e => .int k e
  | .bool, e => .bool e
  | .str, e => .str e
  | .sl T, e => .sl T e

def toData : LTy → SV → Option Ex
  | .int k, .int k' e => if k = k' then some e else none
  | .bool, .bool e => some e
  | .str, .str e => some e
  | .sl T, .sl T' e => if T = T' then some e else none
  | .sl _, .nils => some .nil
  | _, _ => none

def toDatas : List LTy → List SV → Option (List Ex)
  | [], [] => some []
  | t :: ts, s :: ss => (toData t s).bind fun e => (toDatas ts ss).map (e :: ·)
  | _, _ => none

def rowEx : List Ex → Ex
  | [] => .rnil
  | e :: l => .rcons e (rowEx l)

def rowD : TypeDesc → Bool
  | .struct _ | .array _ _ => true
  | _ => false
def isRow (P : Program) (t : TypeId) : Option Bool := (P.underlying t).map rowD

def mkS1 (agg : Bool) (n : Nat) (l : List SV) : Option S1 :=
  if l.length = n then (if agg then some (.agg l) else match l with | [s] => some (.one s) | _ => none) else none

def cellSVs (ts : List LTy) (l i : Ex) (off : Nat) : List SV := ts.zipIdx.map fun p => dataSV p.1 (.cell l i (off + p.2))

def symLoad (P : Program) (H : List SObj) (t : TypeId) (s : SV) : Option S1 :=
  (P.info? t).bind fun inf => (isRow P t).bind fun agg =>
  match s with
  | .ptr o off => match look H o with
    | .cells _ l _ => mkS1 agg inf.size ((l.drop off).take inf.size)
    | _ => none
  | .pel T l i off => (tys P T).bind fun ts => mkS1 agg inf.size (cellSVs ((ts.drop off).take inf.size) l i off)
  | .oel o ver i off => match look H o with
    | .row T e u => if u = ver then (tys P T).bind fun ts => mkS1 agg inf.size (cellSVs ((ts.drop off).take inf.size) e i off) else none
    | _ => none
  | _ => none

/-- may a cell bear it? -/
def solid (H : List SObj) : SV → Bool
  | .top => false
  | .own o ver => match look H o with | .row _ _ u => u == ver | _ => false
  | .oel o ver _ _ => match look H o with | .row _ _ u => u == ver | _ => false
  | .ptr o _ => match look H o with | .cells .. => true | _ => false
  | _ => true

def updEx (e i : Ex) (off : Nat) : List Ex → Ex
  | [] => e
  | x :: l => updEx (.upd e i off x) i (off + 1) l

def symStore (P : Program) (H : List SObj) (t : TypeId) (s : SV) (x : S1) : Option (Nat × SObj) :=
  (P.info? t).bind fun inf =>
  if x.cells.length = inf.size ∧ x.cells.all (solid H) = true then
    match s with
    | .ptr o off => match look H o with
      | .cells T l false => if off + inf.size ≤ l.length then some (o, .cells T (l.take off ++ x.cells ++ l.drop (off + inf.size)) false) else none
      | _ => none
    | .oel o ver i off => match look H o with
      | .row T e u => if u = ver then (tys P T).bind fun ts => if off + inf.size ≤ ts.length then (toDatas ((ts.drop off).take inf.size) x.cells).map fun ds => (o, .row T (updEx e i off ds) u) else none else none
      | _ => none
    | _ => none
  else none

def fieldOf (P : Program) (t : TypeId) (f : Nat) : Option (Nat × TypeId × Nat) :=
  match P.underlying t with
  | some (.struct fs) => (fs[f]?).bind fun x => (P.info? x.type).bind fun inf => if inf.size = 0 then none else some (x.offset, x.type, inf.size)
  | _ => none

def symFieldAddr (P : Program) (t : TypeId) (f : Nat) (s : SV) : Option SV :=
  (fieldOf P t f).bind fun (off, _, _) => match s with
  | .ptr o a => some (.ptr o (a + off))
  | .pel T l i a => some (.pel T l i (a + off))
  | .oel o v i a => some (.oel o v i (a + off))
  | _ => none

def symField (P : Program) (t : TypeId) (f : Nat) (s : S1) : Option S1 :=
  (fieldOf P t f).bind fun (off, ft, n) => match s with
  | .agg l => (isRow P ft).bind fun agg => if off + n ≤ l.length then mkS1 agg n ((l.drop off).take n) else none
  | _ => none

def inBounds (i n : Ex) : List Ex := gds [mkCmp .leq (.ilit 0) i, mkCmp .lss i n]

def symIndexAddr (P : Program) (H : List SObj) (t : TypeId) (s ix : SV) : Option (List Ex × SV) :=
  match ix with
  | .int _ i =>
    match P.underlying t with
    | some (.slice T) => match s with
      | .sl T' l => if T = T' then (tys P T).map fun _ => (inBounds i (mkLen l), .pel T l i 0) else none
      | .own o ver => match look H o with
        | .row T' e u => if u = ver ∧ T = T' then some (inBounds i (mkLen e), .oel o ver i 0) else none
        | _ => none
      | _ => none
    | some (.array n T) => match s, i with
      | .ptr o off, .ilit j => if 0 ≤ j ∧ j < n then (P.info? T).map fun inf => ([], .ptr o (off + j.toNat * inf.size)) else none
      | _, _ => none
    | _ => none
  | _ => none

def symIndex (P : Program) (t : TypeId) (s : S1) (ix : SV) : Option (List Ex × S1) :=
  match ix with
  | .int _ i =>
    match P.underlying t, s with
    | some .string, .one (.str e) => some (gds [mkCmp .leq (.ilit 0) i, mkCmp .lss i (.slen e)], .one (.int .u8 (.byte e i)))
    | some (.array n T), .agg l => match i with
      | .ilit j => if 0 ≤ j ∧ j < n then (P.info? T).bind fun inf => (isRow P T).bind fun agg =>
          if j.toNat * inf.size + inf.size ≤ l.length then (mkS1 agg inf.size ((l.drop (j.toNat * inf.size)).take inf.size)).map fun r => ([], r) else none
        else none
      | _ => none
    | _, _ => none
  | _ => none

def sliceOf (P : Program) (t : TypeId) : Option TypeId := match P.underlying t with
  | some (.slice T) => some T
  | _ => none
def isStr (P : Program) (t : TypeId) : Bool := match P.underlying t with
  | some .string => true
  | _ => false

theorem sliceOf_spec {P : Program} {t T : TypeId} (h : sliceOf P t = some T) : P.underlying t = some (.slice T) := by
  unfold sliceOf at h
  split at h
  · rename_i h1; cases h; exact h1
  · cases h
theorem isStr_spec {P : Program} {t : TypeId} (h : isStr P t = true) : P.underlying t = some .string := by
  unfold isStr at h
  split at h
  · assumption
  · cases h

def bound (d : Ex) : Option SV → Option Ex
  | none => some d
  | some (.int _ i) => some i
  | _ => none

def symSlice (P : Program) (H : List SObj) (t : TypeId) (s : SV) (lo hi : Option SV) : Option (List Ex × SV) :=
  match s with
  | .str e => if isStr P t then (bound (.ilit 0) lo).bind fun l => (bound (.slen e) hi).map fun h =>
      (gds [mkCmp .leq (.ilit 0) l, mkCmp .leq l h, mkCmp .leq h (.slen e)], .str (.ssub e l h)) else none
  | .sl T e => if sliceOf P t = some T then (tys P T).bind fun _ =>
      match lo, hi with
      | none, none => some ([], .sl T e)
      | _, _ => (bound (.ilit 0) lo).bind fun l => (bound (mkLen e) hi).map fun h =>
        (gds [mkCmp .leq (.ilit 0) l, mkCmp .leq l h, mkCmp .leq h (mkLen e)], .sl T (.sub e l h)) else none
  | .ptr o off => match lo, hi, P.underlying t, look H o with
    | none, none, some (.array n T), .cells _ l true => (tys P T).bind fun ts => match ts with
      | [ty] => if off + n ≤ l.length then (toDatas (List.replicate n ty) ((l.drop off).take n)).map fun ds => ([], .sl T (ds.foldl (fun a d => .app a (.row (.rcons d .rnil))) .nil)) else none
      | _ => none
    | _, _, _, _ => none
  | _ => none

def symBin (op : BinOp) : SV → SV → Option (List Ex × SV)
  | .int k x, .int k' y =>
    match op with
    | .shl | .shr => some (gds [mkCmp .leq (.ilit 0) y], .int k (mkBin op k x y))
    | .quo | .rem => if k = k' then some (gds [mkCmp .neq y (.ilit 0)], .int k (mkBin op k x y)) else none
    | .add | .sub | .mul | .and | .or | .xor | .andNot => if k = k' then some ([], .int k (mkBin op k x y)) else none
    | _ => if k = k' then some ([], .bool (mkCmp op x y)) else none
  | .str x, .str y =>
    match op with
    | .add => some ([.cmp .leq (.slen x) (.ilit 1152921504606846976), .cmp .leq (.slen y) (.ilit 1152921504606846976)], .str (.scat x y))
    | .eql | .neq | .lss | .leq | .gtr | .geq => some ([], .bool (.scmp op x y))
    | _ => none
  | _, _ => none

end Glx
namespace Glx
open Go

section
variable {x : Env}

theorem constSV_ok {v : Value} {s : SV} (h : constSV v = some s) : G x s v := by
  unfold constSV at h
  split at h <;> simp only [Option.some.injEq, reduceCtorEq] at h <;> subst h <;> simp [G, Ex.sc, Ex.den]

theorem constS1_ok {v : Value} {s : S1} (h : constS1 v = some s) : G1 x s v := by
  unfold constS1 at h
  split at h
  · rename_i cs
    obtain ⟨l, hl, rfl⟩ := Option.map_eq_some_iff.1 h
    have hs := allSome_spec hl
    have hlen : cs.size = l.length := by simpa using congrArg List.length hs
    refine ⟨cs, rfl, hlen, fun j y hj => ?_⟩
    have hj' : j < cs.size := by have := (List.getElem?_eq_some_iff.1 hj).1; omega
    have h1 : (cs.toList.map constSV)[j]? = (l.map some)[j]? := by rw [hs]
    simp only [List.getElem?_map, hj, Option.map_some, Array.getElem?_toList, Array.getElem?_eq_getElem hj', Option.some.injEq] at h1
    have := constSV_ok (x := x) h1
    simpa [hj'] using this
  · obtain ⟨s', h1, rfl⟩ := Option.map_eq_some_iff.1 h
    exact constSV_ok h1

theorem opd_ok {S : List Slot} {a : Act} (hs : Slots x S a.tmps) {p : Operand} {s : Slot} (h : opd S p = some s) : GS x s (a.eval p) := by
  cases p with
  | tmp t =>
    simp only [opd] at h
    split at h
    · cases h
    · exact hs.2 t s h
  | const v =>
    simp only [opd] at h
    obtain ⟨s', h1, rfl⟩ := Option.map_eq_some_iff.1 h
    exact constS1_ok h1
  | func f =>
    simp only [opd, Option.some.injEq] at h
    subst h
    exact ⟨#[], #[], rfl, ⟨rfl, by simp⟩, ⟨rfl, by simp⟩⟩
  | global g => simp [opd] at h

theorem Slot.sv_ok {s : Slot} {t : SV} {v : Value} (h : s.sv = some t) (hg : GS x s v) : G x t v := by
  unfold Slot.sv at h
  split at h
  · cases h; exact hg
  · cases h

theorem Slot.s1_ok {s : Slot} {t : S1} {v : Value} (h : s.s1 = some t) (hg : GS x s v) : G1 x t v := by
  unfold Slot.s1 at h
  split at h
  · cases h; exact hg
  · cases h

theorem den_blit {e : List D} {c : Ex} (h : (c.den e).bool = true) : (c.den e).bool = true := h

/-- two numbers, bools, texts -/
theorem symBin_ok {op : BinOp} {sa sb s : SV} {gs : List Ex} (h : symBin op sa sb = some (gs, s)) {va vb : Value} (ha : G x sa va) (hb : G x sb vb)
    (hg : ∀ c ∈ gs, (c.den x.e).bool = true) (t : TypeId) (w : World) : ∃ v, (binOp op t va vb).run x.P w = .ok v w ∧ G x s v := by
  unfold symBin at h
  split at h
  · rename_i k e k' f
    obtain ⟨he, rfl⟩ := ha
    obtain ⟨hf, rfl⟩ := hb
    cases op <;> simp only [Option.some.injEq, Prod.mk.injEq, Option.ite_none_right_eq_some] at h
    case shl =>
      obtain ⟨rfl, rfl⟩ := h
      have h0 := gds_ok hg _ (List.mem_singleton.2 rfl)
      rw [mkCmp_den] at h0
      have h0' : 0 ≤ (f.den x.e).int := leq_of h0
      refine ⟨_, by simp only [binOp, Op.shift, if_neg (Int.not_lt.2 h0')]; rfl, mkBin_sc he hf, ?_⟩
      rw [mkBin_den]; rfl
    case shr =>
      obtain ⟨rfl, rfl⟩ := h
      have h0 := gds_ok hg _ (List.mem_singleton.2 rfl)
      rw [mkCmp_den] at h0
      have h0' : 0 ≤ (f.den x.e).int := leq_of h0
      refine ⟨_, by simp only [binOp, Op.shift, if_neg (Int.not_lt.2 h0')]; rfl, mkBin_sc he hf, ?_⟩
      rw [mkBin_den]; rfl
    case quo =>
      obtain ⟨rfl, rfl, rfl⟩ := h
      have h0 := gds_ok hg _ (List.mem_singleton.2 rfl)
      rw [mkCmp_den] at h0
      have h0' : ¬ (f.den x.e).int = 0 := neq_of h0
      refine ⟨_, by simp only [binOp, ne_eq, not_true_eq_false, if_false, Op.intDiv, if_neg h0']; rfl, mkBin_sc he hf, ?_⟩
      rw [mkBin_den]; rfl
    case rem =>
      obtain ⟨rfl, rfl, rfl⟩ := h
      have h0 := gds_ok hg _ (List.mem_singleton.2 rfl)
      rw [mkCmp_den] at h0
      have h0' : ¬ (f.den x.e).int = 0 := neq_of h0
      refine ⟨_, by simp only [binOp, ne_eq, not_true_eq_false, if_false, Op.intDiv, if_neg h0']; rfl, mkBin_sc he hf, ?_⟩
      rw [mkBin_den]; rfl
    all_goals
      obtain ⟨rfl, rfl, rfl⟩ := h
      first
        | exact ⟨_, by simp only [binOp, ne_eq, not_true_eq_false, if_false]; rfl, mkBin_sc he hf, by rw [mkBin_den]; rfl⟩
        | exact ⟨_, by simp only [binOp, ne_eq, not_true_eq_false, if_false]; rfl, mkCmp_sc he hf, by rw [mkCmp_den]; rfl⟩
  · rename_i e f
    obtain ⟨he, rfl⟩ := ha
    obtain ⟨hf, rfl⟩ := hb
    cases op <;> simp only [Option.some.injEq, Prod.mk.injEq, reduceCtorEq] at h
    case add =>
      obtain ⟨rfl, rfl⟩ := h
      have h1 := hg _ (List.mem_cons_self ..)
      have h2 := hg _ (List.mem_cons_of_mem _ (List.mem_singleton.2 rfl))
      have h3 : ((e.den x.e).str.size : Int) ≤ 1152921504606846976 := leq_of h1
      have h4 : ((f.den x.e).str.size : Int) ≤ 1152921504606846976 := leq_of h2
      refine ⟨.string ((e.den x.e).str ++ (f.den x.e).str), ?_, by simp [Ex.sc, he, hf], rfl⟩
      simp only [binOp, Op.stringOp]
      rw [if_neg]
      · rfl
      · show ¬ ((((e.den x.e).str.size + (f.den x.e).str.size : Nat) : Int) > 9223372036854775807)
        omega
    all_goals
      obtain ⟨rfl, rfl⟩ := h
      exact ⟨_, rfl, by simp [Ex.sc, he, hf], rfl⟩
  · cases h

theorem dataSV_ok {t : LTy} {e : Ex} {v : Value} (hs : e.sc x.e.length = true) (h : Rd x.P x.I x.w.heap t v (e.den x.e)) : G x (dataSV t e) v := by
  cases t with
  | int k => cases h; exact ⟨hs, rfl⟩
  | bool => cases h; exact ⟨hs, rfl⟩
  | str => cases h; exact ⟨hs, rfl⟩
  | sl T => exact ⟨hs, h⟩

theorem toData_ok {t : LTy} {s : SV} {e : Ex} {v : Value} (h : toData t s = some e) (hg : G x s v) : e.sc x.e.length = true ∧ Rd x.P x.I x.w.heap t v (e.den x.e) := by
  unfold toData at h
  split at h <;> simp only [Option.ite_none_right_eq_some, Option.some.injEq, reduceCtorEq] at h
  · obtain ⟨rfl, rfl⟩ := h; obtain ⟨h1, rfl⟩ := hg; exact ⟨h1, .int⟩
  · subst h; obtain ⟨h1, rfl⟩ := hg; exact ⟨h1, .bool⟩
  · subst h; obtain ⟨h1, rfl⟩ := hg; exact ⟨h1, .str⟩
  · obtain ⟨rfl, rfl⟩ := h; exact hg
  · subst h; obtain rfl := hg; exact ⟨rfl, .nil rfl⟩

theorem toDatas_ok : ∀ {ts : List LTy} {ss : List SV} {es : List Ex}, toDatas ts ss = some es → ts.length = ss.length ∧ es.length = ss.length ∧
    ∀ (j : Nat) (t : LTy) (s : SV) (e : Ex), ts[j]? = some t → ss[j]? = some s → es[j]? = some e → toData t s = some e
  | [], [], es, h => by simp only [toDatas, Option.some.injEq] at h; subst h; simp
  | t :: ts, s :: ss, es, h => by
    simp only [toDatas] at h
    obtain ⟨e, h1, h2⟩ := Option.bind_eq_some_iff.1 h
    obtain ⟨es', h3, rfl⟩ := Option.map_eq_some_iff.1 h2
    obtain ⟨a, b, c⟩ := toDatas_ok h3
    refine ⟨by simp [a], by simp [b], fun j t' s' e' h4 h5 h6 => ?_⟩
    cases j with
    | zero => simp at h4 h5 h6; subst h4 h5 h6; exact h1
    | succ j => exact c j t' s' e' (by simpa using h4) (by simpa using h5) (by simpa using h6)
  | [], _ :: _, _, h => by simp [toDatas] at h
  | _ :: _, [], _, h => by simp [toDatas] at h

theorem run_isAgg' {P : Program} {t : TypeId} {b : Bool} (h : isRow P t = some b) (w : World) : (isAgg t).run P w = .ok b w := by
  unfold isRow at h
  obtain ⟨d, hd, rfl⟩ := Option.map_eq_some_iff.1 h
  unfold isAgg
  rw [Sem.run_bind, run_underlying hd w]
  cases d <;> rfl

theorem run_sizeOf' {P : Program} {t : TypeId} {i : TypeInfo} (h : P.info? t = some i) (w : World) : (Go.sizeOf t).run P w = .ok i.size w := by
  simp [Go.sizeOf, typeInfo, h]

theorem mkS1_len {agg : Bool} {n : Nat} {l : List SV} {r : S1} (h : mkS1 agg n l = some r) : l.length = n := by
  unfold mkS1 at h
  split at h
  · assumption
  · cases h

theorem mkS1_cells {agg : Bool} {n : Nat} {l : List SV} {r : S1} (h : mkS1 agg n l = some r) : r.cells = l := by
  unfold mkS1 at h
  split at h
  · split at h
    · cases h; rfl
    · split at h
      · cases h; rfl
      · cases h
  · cases h

/-- a variable is read out of a block of cells -/
theorem load_run {b off n : Nat} {c : Array Value} {E : TypeId} {fz : Nat × Nat} (hb : x.w.heap[b]? = some (.cells c E fz)) (hn : off + n ≤ c.size)
    {t : TypeId} {inf : TypeInfo} (hi : x.P.info? t = some inf) (hsz : inf.size = n) {agg : Bool} (ha : isRow x.P t = some agg) {l : List SV} {r : S1} (hr : mkS1 agg n l = some r)
    (hl : ∀ j s, l[j]? = some s → G x s (c.getD (off + j) undef)) : ∃ v, (Instr.loadAt t (.pointer (some ⟨b, off, none⟩))).run x.P x.w = .ok v x.w ∧ G1 x r v := by
  have hlen := mkS1_len hr
  have hcell : ∀ j, j < n → x.w.cell? ⟨b, off + j, none⟩ = some (c.getD (off + j) undef) := by
    intro j hj
    rw [cell_of_row x.w b (off + j) c E fz hb]
    simp [show off + j < c.size by omega]
  cases agg with
  | true =>
    have hr' : r = .agg l := by
      unfold mkS1 at hr
      rw [if_pos hlen] at hr
      simpa using hr.symm
    subst hr'
    have hload : (loadCells ⟨b, off, none⟩ n).run x.P x.w = .ok ((List.range n).map fun j => c.getD (off + j) undef).toArray x.w := by
      have := run_loadCells_list (P := x.P) x.w ⟨b, off, none⟩ ((List.range n).map fun j => c.getD (off + j) undef) (fun j v hv => by
        rw [Addr.add_mid]
        obtain ⟨hj, rfl⟩ := List.getElem?_eq_some_iff.1 hv
        simp only [List.length_map, List.length_range] at hj
        simp only [List.getElem_map, List.getElem_range]
        exact hcell j hj)
      simpa using this
    refine ⟨.agg ((List.range n).map fun j => c.getD (off + j) undef).toArray, ?_, _, rfl, by simp [hlen], fun j s hj => ?_⟩
    · simp only [Instr.loadAt, Instr.sureAddr, loadVar, Sem.run_bind, Sem.run_pure, Result.andThen_ok, run_isAgg' ha, if_true, run_sizeOf' hi, hsz, hload]
    · have hjn : j < n := by have := (List.getElem?_eq_some_iff.1 hj).1; omega
      simpa [hjn] using hl j s hj
  | false =>
    unfold mkS1 at hr
    rw [if_pos hlen] at hr
    simp only [Bool.false_eq_true, if_false] at hr
    split at hr
    · rename_i s
      cases hr
      have h1 : n = 1 := by simpa using hlen.symm
      refine ⟨c.getD off undef, ?_, by have := hl 0 s rfl; simp only [Nat.add_zero] at this; exact this⟩
      have := hcell 0 (by omega)
      simp only [Nat.add_zero] at this
      simp [Instr.loadAt, Instr.sureAddr, loadVar, run_isAgg' ha, this]
    · cases hr

theorem cellSVs_get {ts : List LTy} {l i : Ex} {off j : Nat} {s : SV} (h : (cellSVs ts l i off)[j]? = some s) : ∃ t, ts[j]? = some t ∧ s = dataSV t (.cell l i (off + j)) := by
  unfold cellSVs at h
  simp only [List.getElem?_map, List.getElem?_zipIdx, Option.map_map, Option.map_eq_some_iff, Function.comp] at h
  obtain ⟨t, h1, h2⟩ := h
  exact ⟨t, h1, by simpa using h2.symm⟩

theorem getElem?_drop_take {α : Type} {l : List α} {off n j : Nat} {s : α} (h : ((l.drop off).take n)[j]? = some s) : l[off + j]? = some s ∧ j < n := by
  rw [List.getElem?_take] at h
  split at h
  · rename_i hj
    rw [List.getElem?_drop] at h
    exact ⟨h, hj⟩
  · cases h

theorem symLoad_ok {w0 : World} {M : Nat → Prop} (hs : Sat x w0 M) {t : TypeId} {s : SV} {r : S1} (h : symLoad x.P x.H t s = some r) {va : Value} (ha : G x s va) :
    ∃ v, (Instr.loadAt t va).run x.P x.w = .ok v x.w ∧ G1 x r v := by
  unfold symLoad at h
  obtain ⟨inf, hi, h⟩ := Option.bind_eq_some_iff.1 h
  obtain ⟨agg, hagg, h⟩ := Option.bind_eq_some_iff.1 h
  cases s with
  | ptr o off =>
    simp only at h
    split at h
    · rename_i T l fz hl
      obtain ⟨b, hb, rfl⟩ := ha.2 T l fz hl
      have ho := hs.objs o
      rw [hl] at ho
      obtain ⟨b', c, h1, h2, h3, _⟩ := ho
      have : b' = b := by simp only at hb; rw [h1] at hb; simpa using hb
      subst this
      have hlen := mkS1_len h
      simp only [List.length_take, List.length_drop] at hlen
      rcases Nat.eq_zero_or_pos inf.size with h0 | hp
      · -- no cells: nothing is read
        have : agg = true := by
          cases agg with
          | true => rfl
          | false => unfold mkS1 at h; simp [h0] at h
        subst this
        unfold mkS1 at h
        simp [h0] at h
        subst h
        refine ⟨.agg #[], ?_, #[], rfl, rfl, by simp⟩
        simp [Instr.loadAt, Instr.sureAddr, loadVar, run_isAgg' hagg, run_sizeOf' hi, h0, loadCells, loadCellsFrom]
      · refine load_run (off := off) (n := inf.size) h2 (by have := h3.1; omega) hi rfl hagg h fun j s hj => ?_
        obtain ⟨h4, _⟩ := getElem?_drop_take hj
        exact h3.2 _ _ h4
    · cases h
  | pel T l i off =>
    obtain ⟨ts, hts, h⟩ := Option.bind_eq_some_iff.1 h
    obtain ⟨hl, hix, ts', b, o, n, cap, h1, h2, h3, h4, rfl⟩ := ha
    rw [hts] at h1
    cases h1
    cases h2 with
    | empty k0 k1 => exact absurd h4 (by omega)
    | row k1 k2 k3 k4 k5 k6 k7 k8 =>
    rename_i c E fz
    rw [hts] at k1
    cases k1
    have hlen := mkS1_len h
    simp only [cellSVs, List.length_map, List.length_zipIdx, List.length_take, List.length_drop] at hlen
    have hin : (i.den x.e).int.toNat < n := by omega
    have hmul : ((i.den x.e).int.toNat + 1) * ts.length ≤ n * ts.length := Nat.mul_le_mul_right _ hin
    rw [Nat.add_mul, Nat.one_mul] at hmul
    rcases Nat.eq_zero_or_pos inf.size with h0 | hp
    · have : agg = true := by
        cases agg with
        | true => rfl
        | false => unfold mkS1 at h; simp [h0, cellSVs] at h
      subst this
      unfold mkS1 at h
      simp [h0, cellSVs] at h
      subst h
      refine ⟨.agg #[], ?_, #[], rfl, rfl, by simp⟩
      simp [Instr.loadAt, Instr.sureAddr, loadVar, run_isAgg' hagg, run_sizeOf' hi, h0, loadCells, loadCellsFrom]
    · refine load_run (n := inf.size) k3 (by omega) hi rfl hagg h fun j s hj => ?_
      obtain ⟨t', h5, rfl⟩ := cellSVs_get hj
      obtain ⟨h6, _⟩ := getElem?_drop_take h5
      refine dataSV_ok (by simp [Ex.sc, hl, hix]) ?_
      have := k8 (i.den x.e).int.toNat (off + j) t' hin h6
      simp only [Ex.den, cellAt]
      rwa [show o + (i.den x.e).int.toNat * ts.length + (off + j) = o + (i.den x.e).int.toNat * ts.length + off + j by omega] at this
  | oel o ver i off =>
    simp only at h
    split at h
    · rename_i T e u hl
      split at h
      · rename_i hu
        obtain ⟨ts, hts, h⟩ := Option.bind_eq_some_iff.1 h
        obtain ⟨hix, hborn, hrow⟩ := ha
        obtain ⟨_, hval⟩ := hrow T e u hl
        obtain ⟨ts', b, n, cap, h1, h2, h3, h4, rfl⟩ := hval hu
        rw [hts] at h1
        cases h1
        have ho := hs.objs o
        rw [hl] at ho
        obtain ⟨hsc, ts', n', xs, k1, k2, k3, k4, k5⟩ := ho
        rw [hts] at k1
        cases k1
        rw [h2] at k2 k5
        obtain ⟨q1, q2⟩ := k2
        rcases q2 with ⟨q2, _⟩ | ⟨g, cap', cur, q2, q3, q4, q5, q6, q7, q8⟩
        · cases q2
        · simp only [Value.slice.injEq, Option.some.injEq, Addr.mk.injEq, and_true] at q2
          obtain ⟨rfl, rfl, rfl⟩ := q2
          have hlen := mkS1_len h
          simp only [cellSVs, List.length_map, List.length_zipIdx, List.length_take, List.length_drop] at hlen
          have hin : (i.den x.e).int.toNat < n := by omega
          have hmul : ((i.den x.e).int.toNat + 1) * ts.length ≤ n * ts.length := Nat.mul_le_mul_right _ hin
          have hmul2 : n * ts.length ≤ cap * ts.length := Nat.mul_le_mul_right _ q5
          rw [Nat.add_mul, Nat.one_mul] at hmul
          rcases Nat.eq_zero_or_pos inf.size with h0 | hp
          · have : agg = true := by
              cases agg with
              | true => rfl
              | false => unfold mkS1 at h; simp [h0, cellSVs] at h
            subst this
            unfold mkS1 at h
            simp [h0, cellSVs] at h
            subst h
            refine ⟨.agg #[], ?_, #[], rfl, rfl, by simp⟩
            simp [Instr.loadAt, Instr.sureAddr, loadVar, run_isAgg' hagg, run_sizeOf' hi, h0, loadCells, loadCellsFrom]
          · refine load_run (n := inf.size) q4 (by omega) hi rfl hagg h fun j s hj => ?_
            obtain ⟨t', h5, rfl⟩ := cellSVs_get hj
            obtain ⟨h6, h7⟩ := getElem?_drop_take h5
            have hoj : off + j < ts.length := (List.getElem?_eq_some_iff.1 h6).1
            refine dataSV_ok (by simp [Ex.sc, hsc, hix]) ?_
            have := k4.2 (i.den x.e).int.toNat (off + j) t' (by omega) h6
            simp only [Ex.den, cellAt]
            have hx : xs.getD ((i.den x.e).int.toNat * ts.length + (off + j)) undef = cur.getD ((i.den x.e).int.toNat * ts.length + off + j) undef := by
              rw [← q8]
              have : (i.den x.e).int.toNat * ts.length + (off + j) < n * ts.length := by omega
              simp only [List.getD_eq_getElem?_getD, List.getElem?_take, if_pos this, Array.getElem?_toList, Array.getD_eq_getD_getElem?]
              congr 2
              omega
            rwa [hx] at this
      · cases h
    · cases h
  | _ => cases h

end
end Glx
namespace Glx
open Go

section
variable {x : Env}

theorem fieldOf_spec {P : Program} {t : TypeId} {f off : Nat} {ft : TypeId} {n : Nat} (h : fieldOf P t f = some (off, ft, n)) :
    ∃ fs fd inf, P.underlying t = some (.struct fs) ∧ fs[f]? = some fd ∧ fd.offset = off ∧ fd.type = ft ∧ P.info? ft = some inf ∧ inf.size = n ∧ n ≠ 0 := by
  unfold fieldOf at h
  split at h
  · rename_i fs hu
    obtain ⟨fd, h1, h⟩ := Option.bind_eq_some_iff.1 h
    obtain ⟨inf, h2, h⟩ := Option.bind_eq_some_iff.1 h
    split at h
    · cases h
    · rename_i h0
      simp only [Option.some.injEq, Prod.mk.injEq] at h
      obtain ⟨rfl, rfl, rfl⟩ := h
      exact ⟨fs, fd, inf, hu, h1, rfl, rfl, h2, rfl, h0⟩
  · cases h

theorem run_fieldAt {P : Program} {t : TypeId} {f off : Nat} {ft : TypeId} {n : Nat} (h : fieldOf P t f = some (off, ft, n)) (b a : Nat) (w : World) :
    (Instr.fieldAt t (.pointer (some ⟨b, a, none⟩)) f).run P w = .ok (.pointer (some ⟨b, a + off, none⟩)) w := by
  obtain ⟨fs, fd, inf, hu, h1, rfl, rfl, h2, rfl, h0⟩ := fieldOf_spec h
  simp [Instr.fieldAt, run_underlying hu, h1, Instr.sureAddr, fieldPlace, run_sizeOf' h2, h0, Addr.add_mid]

theorem symFieldAddr_ok {t : TypeId} {f : Nat} {s r : SV} (h : symFieldAddr x.P t f s = some r) {va : Value} (ha : G x s va)
    (hsure : ∃ b a, va = .pointer (some ⟨b, a, none⟩)) (w : World) : ∃ v, (Instr.fieldAt t va f).run x.P w = .ok v w ∧ G x r v := by
  unfold symFieldAddr at h
  obtain ⟨⟨off, ft, n⟩, h1, h⟩ := Option.bind_eq_some_iff.1 h
  obtain ⟨b0, a0, rfl⟩ := hsure
  refine ⟨_, run_fieldAt h1 b0 a0 w, ?_⟩
  cases s with
  | ptr o a =>
    cases h
    refine ⟨ha.1, fun T l fz hl => ?_⟩
    obtain ⟨b, h2, h3⟩ := ha.2 T l fz hl
    simp only [Value.pointer.injEq, Option.some.injEq, Addr.mk.injEq, and_true] at h3
    obtain ⟨rfl, rfl⟩ := h3
    exact ⟨_, h2, rfl⟩
  | pel T l i a =>
    cases h
    obtain ⟨h2, h3, ts, b, o, m, cap, h4, h5, h6, h7, h8⟩ := ha
    simp only [Value.pointer.injEq, Option.some.injEq, Addr.mk.injEq, and_true] at h8
    obtain ⟨rfl, rfl⟩ := h8
    exact ⟨h2, h3, ts, _, o, m, cap, h4, h5, h6, h7, by rw [Nat.add_assoc]⟩
  | oel o u i a =>
    cases h
    obtain ⟨h2, h3, h4⟩ := ha
    refine ⟨h2, h3, fun T e u' hl => ?_⟩
    obtain ⟨h5, h6⟩ := h4 T e u' hl
    refine ⟨h5, fun hu => ?_⟩
    obtain ⟨ts, b, m, cap, h7, h8, h9, h10, h11⟩ := h6 hu
    simp only [Value.pointer.injEq, Option.some.injEq, Addr.mk.injEq, and_true] at h11
    obtain ⟨rfl, rfl⟩ := h11
    exact ⟨ts, _, m, cap, h7, h8, h9, h10, by rw [Nat.add_assoc]⟩
  | _ => cases h

/-- a part of a struct or array -/
theorem part_run {t : TypeId} {inf : TypeInfo} (hi : x.P.info? t = some inf) {agg : Bool} (ha : isRow x.P t = some agg) {l : List SV} {c : Array Value} (hl : GL x l c) {off : Nat}
    (hn : off + inf.size ≤ l.length) {r : S1} (hr : mkS1 agg inf.size ((l.drop off).take inf.size) = some r) (w : World) :
    ∃ v, (part t c off).run x.P w = .ok v w ∧ G1 x r v := by
  have hlen := mkS1_len hr
  cases agg with
  | true =>
    unfold mkS1 at hr
    rw [if_pos hlen] at hr
    simp only [if_true, Option.some.injEq] at hr
    subst hr
    refine ⟨.agg (c.extract off (off + inf.size)), by simp [part, run_isAgg' ha, run_sizeOf' hi], _, rfl, by simp [hl.1, List.length_take, List.length_drop]; omega, fun j s hj => ?_⟩
    obtain ⟨h1, h2⟩ := getElem?_drop_take hj
    have := hl.2 _ _ h1
    have hlt : off + j < c.size := by rw [hl.1]; omega
    simp only [Array.getD_eq_getD_getElem?] at this ⊢
    rw [Array.getElem?_extract, if_pos (by omega)]
    exact this
  | false =>
    unfold mkS1 at hr
    rw [if_pos hlen] at hr
    simp only [Bool.false_eq_true, if_false] at hr
    split at hr
    · rename_i s hs
      cases hr
      have h0 : ((l.drop off).take inf.size)[0]? = some s := by rw [hs]; rfl
      obtain ⟨h1, _⟩ := getElem?_drop_take h0
      have := hl.2 _ _ h1
      have hlt : off < c.size := by rw [hl.1]; omega
      refine ⟨c.getD off undef, by simp [part, run_isAgg' ha, hlt], this⟩
    · cases hr

theorem symField_ok {t : TypeId} {f : Nat} {s r : S1} (h : symField x.P t f s = some r) {va : Value} (ha : G1 x s va) (w : World) :
    ∃ v, (Instr.field t va f).run x.P w = .ok v w ∧ G1 x r v := by
  unfold symField at h
  obtain ⟨⟨off, ft, n⟩, h1, h⟩ := Option.bind_eq_some_iff.1 h
  obtain ⟨fs, fd, inf, hu, h2, rfl, rfl, h3, rfl, h0⟩ := fieldOf_spec h1
  cases s with
  | one s => cases h
  | agg l =>
    obtain ⟨agg, hagg, h⟩ := Option.bind_eq_some_iff.1 h
    split at h
    · rename_i hn
      obtain ⟨c, rfl, hl⟩ := ha
      obtain ⟨v, h4, h5⟩ := part_run h3 hagg hl hn h w
      exact ⟨v, by simp [Instr.field, run_underlying hu, h2, asAgg, h4], h5⟩
    · cases h

theorem inBounds_ok {e : List D} {i n : Ex} (hg : ∀ c ∈ inBounds i n, (c.den e).bool = true) : 0 ≤ (i.den e).int ∧ (i.den e).int < (n.den e).int := by
  have h := gds_ok hg
  have h1 := h _ (List.mem_cons_self ..)
  have h2 := h _ (List.mem_cons_of_mem _ (List.mem_singleton.2 rfl))
  rw [mkCmp_den] at h1 h2
  exact ⟨leq_of h1, lss_of h2⟩

theorem symIndexAddr_ok {w0 : World} {M : Nat → Prop} (hs : Sat x w0 M) {t : TypeId} {s ix r : SV} {gs : List Ex} (h : symIndexAddr x.P x.H t s ix = some (gs, r)) {va vi : Value}
    (ha : G x s va) (hi : G x ix vi) (hg : ∀ c ∈ gs, (c.den x.e).bool = true) (hsure : ∀ o off, s = .ptr o off → ∃ b a, va = .pointer (some ⟨b, a, none⟩)) (w : World) :
    ∃ v, (Instr.indexAt t va vi).run x.P w = .ok v w ∧ G x r v := by
  unfold symIndexAddr at h
  split at h
  · rename_i k i
    obtain ⟨hi1, rfl⟩ := hi
    split at h
    · rename_i T hu
      cases s with
      | sl T' l =>
        simp only [Option.ite_none_right_eq_some, Option.map_eq_some_iff, Prod.mk.injEq] at h
        obtain ⟨rfl, ts, hts, rfl, rfl⟩ := h
        obtain ⟨h1, h2⟩ := inBounds_ok hg
        rw [mkLen_den] at h2
        obtain ⟨hl, hrd⟩ := ha
        cases hrd with
        | nil h0 => rw [h0] at h2; simp at h2; omega
        | empty _ h0 => rw [h0] at h2; simp at h2; omega
        | row k1 k2 k3 k4 k5 k6 k7 k8 =>
          rename_i ts' b off n cap c E fz
          rw [hts] at k1
          cases k1
          obtain ⟨inf, hinf, hsz, _⟩ := tys_size hts
          have hn : (i.den x.e).int < n := by omega
          refine ⟨.pointer (some ⟨b, off + (i.den x.e).int.toNat * ts.length, none⟩), ?_, hl, hi1, ts, b, off, n, cap, hts, .row hts k2 k3 k4 k5 k6 k7 k8, h1, hn, rfl⟩
          simp [Instr.indexAt, run_underlying hu, asIntOf, h1, hn, run_sizeOf' hinf, hsz, Addr.add_mid]
      | own o ver =>
        simp only at h
        split at h
        · rename_i T' e u hl
          simp only [Option.ite_none_right_eq_some, Option.some.injEq, Prod.mk.injEq] at h
          obtain ⟨⟨hu', rfl⟩, rfl, rfl⟩ := h
          obtain ⟨h1, h2⟩ := inBounds_ok hg
          rw [mkLen_den] at h2
          obtain ⟨hborn, hrow⟩ := ha
          obtain ⟨_, hval⟩ := hrow _ e u hl
          have hva := hval hu'
          have ho := hs.objs o
          rw [hl] at ho
          obtain ⟨hsc, ts, n, xs, hts, hown, hlen, hrd, hnI⟩ := ho
          obtain ⟨inf, hinf, hsz, _⟩ := tys_size hts
          rw [← hva] at hown
          rcases hown.2 with ⟨rfl, rfl⟩ | ⟨g, cap, cur, rfl, _, hgh, hnc, _⟩
          · omega
          · have hn : (i.den x.e).int < n := by omega
            refine ⟨.pointer (some ⟨g, (i.den x.e).int.toNat * ts.length, none⟩), ?_, hi1, hborn, fun T2 e2 u2 hl2 => ?_⟩
            · simp [Instr.indexAt, run_underlying hu, asIntOf, h1, hn, run_sizeOf' hinf, hsz, Addr.add_mid]
            · rw [hl] at hl2
              cases hl2
              exact ⟨by omega, fun _ => ⟨ts, g, n, cap, hts, hva.symm, h1, hn, rfl⟩⟩
        · cases h
      | _ => cases h
    · rename_i n T hu
      split at h
      · rename_i o off j
        simp only [Option.ite_none_right_eq_some, Option.map_eq_some_iff, Prod.mk.injEq] at h
        obtain ⟨⟨h1, h2⟩, inf, hinf, rfl, rfl⟩ := h
        obtain ⟨b, a, rfl⟩ := hsure o off rfl
        refine ⟨.pointer (some ⟨b, a + j.toNat * inf.size, none⟩), ?_, ha.1, fun T l fz hl => ?_⟩
        · simp [Instr.indexAt, run_underlying hu, asIntOf, Instr.sureAddr, Ex.den, h1, h2, run_sizeOf' hinf, Addr.add_mid]
        · obtain ⟨b', h3, h4⟩ := ha.2 T l fz hl
          simp only [Value.pointer.injEq, Option.some.injEq, Addr.mk.injEq, and_true] at h4
          obtain ⟨rfl, rfl⟩ := h4
          exact ⟨_, h3, rfl⟩
      · cases h
    · cases h
  · cases h

theorem symIndex_ok {t : TypeId} {s r : S1} {ix : SV} {gs : List Ex} (h : symIndex x.P t s ix = some (gs, r)) {va vi : Value} (ha : G1 x s va) (hi : G x ix vi)
    (hg : ∀ c ∈ gs, (c.den x.e).bool = true) (w : World) : ∃ v, (Instr.index t va vi).run x.P w = .ok v w ∧ G1 x r v := by
  unfold symIndex at h
  split at h
  · rename_i k i
    obtain ⟨hi1, rfl⟩ := hi
    split at h
    · rename_i e hu
      simp only [Option.some.injEq, Prod.mk.injEq] at h
      obtain ⟨rfl, rfl⟩ := h
      obtain ⟨he, rfl⟩ := ha
      have hgg := gds_ok hg
      have h1 := hgg _ (List.mem_cons_self ..)
      have h2 := hgg _ (List.mem_cons_of_mem _ (List.mem_singleton.2 rfl))
      rw [mkCmp_den] at h1 h2
      have h1 : 0 ≤ (i.den x.e).int := leq_of h1
      have h2 : (i.den x.e).int < ((e.den x.e).str.size : Int) := lss_of h2
      have h3 : (i.den x.e).int.toNat < (e.den x.e).str.size := by omega
      have h4 : (i.den x.e).int.toNat < (e.den x.e).str.data.size := h3
      refine ⟨.int .u8 (byteAt (e.den x.e).str (i.den x.e).int), ?_, by simp [Ex.sc, he, hi1], rfl⟩
      have h5 : (e.den x.e).str[(i.den x.e).int.toNat]? = some ((e.den x.e).str.data[(i.den x.e).int.toNat]) := by
        exact getElem?_pos (e.den x.e).str (i.den x.e).int.toNat h3
      have h6 : byteAt (e.den x.e).str (i.den x.e).int = (((e.den x.e).str.data[(i.den x.e).int.toNat]).toNat : Int) := by
        unfold byteAt
        rw [List.getD_eq_getElem?_getD, Array.getElem?_toList, Array.getElem?_eq_getElem h4]; rfl
      rw [h6]
      simp only [Instr.index, run_underlying hu, asIntOf, h1, h5, Sem.run_bind, Sem.run_pure, Result.andThen_ok, if_true]
    · rename_i n T l hu
      split at h
      · rename_i j
        simp only [Option.ite_none_right_eq_some] at h
        obtain ⟨⟨h1, h2⟩, h⟩ := h
        obtain ⟨inf, hinf, h⟩ := Option.bind_eq_some_iff.1 h
        obtain ⟨agg, hagg, h⟩ := Option.bind_eq_some_iff.1 h
        simp only [Option.ite_none_right_eq_some, Option.map_eq_some_iff, Prod.mk.injEq] at h
        obtain ⟨hn, r', hr, rfl, rfl⟩ := h
        obtain ⟨c, rfl, hl⟩ := ha
        · obtain ⟨v, h4, h5⟩ := part_run hinf hagg hl hn hr w
          exact ⟨v, by simp [Instr.index, run_underlying hu, asIntOf, Ex.den, h1, h2, run_sizeOf' hinf, h4], h5⟩
      · cases h
    · cases h
  · cases h

end
end Glx
namespace Glx
open Go

section
variable {x : Env}

def OG (x : Env) : Option SV → Option Value → Prop
  | none, none => True
  | some s, some v => G x s v
  | _, _ => False

theorem bound_ok {d l : Ex} {s : Option SV} {v : Option Value} (h : bound d s = some l) (hg : OG x s v) : (v = none ∧ l = d) ∨ ∃ k, v = some (.int k (l.den x.e).int) ∧ l.sc x.e.length = true := by
  unfold bound at h
  split at h
  · cases v with
    | none => exact .inl ⟨rfl, by simpa using h.symm⟩
    | some v => exact hg.elim
  · cases v with
    | none => exact hg.elim
    | some v => cases h; obtain ⟨h1, rfl⟩ := hg; exact .inr ⟨_, rfl, h1⟩
  · cases h

theorem three_ok {e : List D} {a b c d f g : Ex} (hg : ∀ q ∈ gds [mkCmp .leq a b, mkCmp .leq c d, mkCmp .leq f g], (q.den e).bool = true) :
    (a.den e).int ≤ (b.den e).int ∧ (c.den e).int ≤ (d.den e).int ∧ (f.den e).int ≤ (g.den e).int := by
  have h := gds_ok hg
  have h1 := h _ (List.mem_cons_self ..)
  have h2 := h _ (List.mem_cons_of_mem _ (List.mem_cons_self ..))
  have h3 := h _ (List.mem_cons_of_mem _ (List.mem_cons_of_mem _ (List.mem_singleton.2 rfl)))
  rw [mkCmp_den] at h1 h2 h3
  exact ⟨leq_of h1, leq_of h2, leq_of h3⟩

/-- bounds that are met -/
theorem run_sliceBounds {P : Program} {isS : Bool} {len cap : Nat} {lo hi : Option Value} {l h : Int} (hl : lo = none ∧ l = 0 ∨ ∃ k, lo = some (.int k l)) (hh : hi = none ∧ h = len ∨ ∃ k, hi = some (.int k h))
    (h0 : 0 ≤ l) (h1 : l ≤ h) (h2 : h ≤ cap) (w : World) : (Instr.sliceBounds isS len cap lo hi none).run P w = .ok (l.toNat, h.toNat, cap) w := by
  have hhn : ((h.toNat : Nat) : Int) = h := Int.toNat_of_nonneg (by omega)
  rcases hl with ⟨rfl, rfl⟩ | ⟨k, rfl⟩ <;> rcases hh with ⟨rfl, rfl⟩ | ⟨k', rfl⟩ <;>
    simp [Instr.sliceBounds, Instr.sliceBound, asIntOf, h0, h1, h2, hhn] <;> omega

theorem cut_length {l : List (List D)} {a b : Int} (h0 : 0 ≤ a) (h1 : a ≤ b) (h2 : b ≤ l.length) : (cut l a b).length = b.toNat - a.toNat := by
  simp only [cut, List.length_drop, List.length_take]; omega

theorem cut_get {l : List (List D)} {a b : Int} {i : Nat} (h : i < b.toNat - a.toNat) : (cut l a b).getD i [] = l.getD (a.toNat + i) [] := by
  simp only [cut, List.getD_eq_getElem?_getD, List.getElem?_drop, List.getElem?_take]
  rw [if_pos (by omega)]

theorem Rd.cut {P : Program} {I : Nat → Prop} {h : Array Obj} {T : TypeId} {a : Option Addr} {n cap : Nat} {d : D} (hr : Rd P I h (.sl T) (.slice a n cap) d) {ts : List LTy} (hts : tys P T = some ts)
    {lo hi : Int} (h0 : 0 ≤ lo) (h1 : lo ≤ hi) (h2 : hi ≤ d.rows.length) :
    Rd P I h (.sl T) (.slice (if cap = lo.toNat then a else a.map (·.add (lo.toNat * ts.length))) (hi.toNat - lo.toNat) (cap - lo.toNat)) (.l (Glx.cut d.rows lo hi)) ∧ hi ≤ n ∧ n ≤ cap := by
  cases hr with
  | nil hn =>
    rw [hn] at h2 ⊢
    simp only [List.length_nil, Int.natCast_zero] at h2
    have : lo = 0 := by omega
    have : hi = 0 := by omega
    subst lo hi
    simp
    exact .nil rfl
  | empty k0 hn =>
    rw [hn] at h2 ⊢
    simp only [List.length_nil, Int.natCast_zero] at h2
    have : lo = 0 := by omega
    have : hi = 0 := by omega
    subst lo hi
    simp
    exact .empty k0 rfl
  | row k1 k2 k3 k4 k5 k6 k7 k8 =>
    rename_i ts' b off c E fz
    rw [hts] at k1
    cases k1
    refine ⟨?_, by omega, k5⟩
    have hlen := cut_length h0 h1 h2
    have key : ∀ q, Rd P I h (.sl T) (.slice (some ⟨b, off + lo.toNat * ts.length, none⟩) (hi.toNat - lo.toNat) q) (.l (Glx.cut d.rows lo hi)) ∨ ¬ (hi.toNat - lo.toNat ≤ q) := by
      intro q
      by_cases hq : hi.toNat - lo.toNat ≤ q
      · left
        have hm : (lo.toNat + (hi.toNat - lo.toNat)) * ts.length ≤ n * ts.length := Nat.mul_le_mul_right _ (by omega)
        rw [Nat.add_mul] at hm
        refine .row hts k2 k3 hlen hq (by omega) (fun r hr => k7 r (List.mem_of_mem_take (List.mem_of_mem_drop hr))) fun i j t hi' ht => ?_
        simp only [D.rows_l, cut_get hi']
        have := k8 (lo.toNat + i) j t (by omega) ht
        rwa [show off + (lo.toNat + i) * ts.length + j = off + lo.toNat * ts.length + i * ts.length + j by rw [Nat.add_mul]; omega] at this
      · exact .inr hq
    by_cases hc : cap = lo.toNat
    · rw [if_pos hc]
      have hz : hi.toNat - lo.toNat = 0 := by omega
      rw [hz, hc, Nat.sub_self]
      have hnil : Glx.cut d.rows lo hi = [] := List.eq_nil_of_length_eq_zero (by rw [hlen, hz])
      rw [hnil]
      exact .row hts k2 k3 rfl (Nat.le_refl _) (by omega) (by simp) (fun i _ _ hi' => absurd hi' (by omega))
    · rw [if_neg hc]
      have := (key (cap - lo.toNat)).resolve_right (by omega)
      simpa [Addr.add_mid] using this

theorem symSlice_ok {w0 : World} {M : Nat → Prop} (hs : Sat x w0 M) {t : TypeId} {s r : SV} {lo hi : Option SV} {gs : List Ex} (h : symSlice x.P x.H t s lo hi = some (gs, r)) {va : Value} {vl vh : Option Value}
    (ha : G x s va) (hlo : OG x lo vl) (hhi : OG x hi vh) (hg : ∀ c ∈ gs, (c.den x.e).bool = true) : ∃ v, (Instr.sliceAt t va vl vh none).run x.P x.w = .ok v x.w ∧ G x r v := by
  cases s with
  | str e =>
    simp only [symSlice, Option.ite_none_right_eq_some] at h
    obtain ⟨hu, h⟩ := h
    have hu := isStr_spec hu
    obtain ⟨l, h1, h⟩ := Option.bind_eq_some_iff.1 h
    obtain ⟨m, h2, h⟩ := Option.map_eq_some_iff.1 h
    cases h
    obtain ⟨he, rfl⟩ := ha
    obtain ⟨g1, g2, g3⟩ := three_ok hg
    have b1 := bound_ok h1 hlo
    have b2 := bound_ok h2 hhi
    have hb := run_sliceBounds (P := x.P) (isS := false) (len := (e.den x.e).str.size) (cap := (e.den x.e).str.size) (lo := vl) (hi := vh) (l := (l.den x.e).int) (h := (m.den x.e).int)
      (by rcases b1 with ⟨q1, rfl⟩ | ⟨k, q1, _⟩; exact .inl ⟨q1, rfl⟩; exact .inr ⟨k, q1⟩) (by rcases b2 with ⟨q1, rfl⟩ | ⟨k, q1, _⟩; exact .inl ⟨q1, rfl⟩; exact .inr ⟨k, q1⟩) g1 g2 g3 x.w
    refine ⟨.string (scut (e.den x.e).str (l.den x.e).int (m.den x.e).int), ?_, ?_, rfl⟩
    · simp [Instr.sliceAt, run_underlying hu, Instr.slice, hb, scut]
    · have s1 : l.sc x.e.length = true := by rcases b1 with ⟨_, rfl⟩ | ⟨_, _, q⟩; rfl; exact q
      have s2 : m.sc x.e.length = true := by rcases b2 with ⟨_, rfl⟩ | ⟨_, _, q⟩; exact he; exact q
      simp [Ex.sc, he, s1, s2]
  | sl T e =>
    simp only [symSlice, Option.ite_none_right_eq_some] at h
    obtain ⟨hu, h⟩ := h
    have hu := sliceOf_spec hu
    obtain ⟨ts, hts, h⟩ := Option.bind_eq_some_iff.1 h
    obtain ⟨inf, hinf, hsz, _⟩ := tys_size hts
    obtain ⟨he, hrd⟩ := ha
    obtain ⟨a, n, cap, rfl⟩ : ∃ a n cap, va = .slice a n cap := by cases hrd; exact ⟨_, _, _, rfl⟩; exact ⟨_, _, _, rfl⟩; exact ⟨_, _, _, rfl⟩
    have hn : (e.den x.e).rows.length = n := by
      cases hrd with
      | nil h0 => rw [h0]; rfl
      | empty _ h0 => rw [h0]; rfl
      | row _ _ _ h4 => exact h4
    have go : ∀ (l m : Ex), bound (.ilit 0) lo = some l → bound (mkLen e) hi = some m → gs = gds [mkCmp .leq (.ilit 0) l, mkCmp .leq l m, mkCmp .leq m (mkLen e)] → r = .sl T (.sub e l m) →
        ∃ v, (Instr.sliceAt t (.slice a n cap) vl vh none).run x.P x.w = .ok v x.w ∧ G x r v := by
      rintro l m h1 h2 rfl rfl
      obtain ⟨g1, g2, g3⟩ := three_ok hg
      rw [mkLen_den] at g3
      have b1 := bound_ok h1 hlo
      have b2 := bound_ok h2 hhi
      obtain ⟨hcut, hle, hcap⟩ := hrd.cut hts (lo := (l.den x.e).int) (hi := (m.den x.e).int) g1 g2 g3
      have hb := run_sliceBounds (P := x.P) (isS := true) (len := n) (cap := cap) (lo := vl) (hi := vh) (l := (l.den x.e).int) (h := (m.den x.e).int)
        (by rcases b1 with ⟨q1, rfl⟩ | ⟨k, q1, _⟩; exact .inl ⟨q1, rfl⟩; exact .inr ⟨k, q1⟩)
        (by rcases b2 with ⟨q1, rfl⟩ | ⟨k, q1, _⟩; exact .inl ⟨q1, by rw [mkLen_den, hn]⟩; exact .inr ⟨k, q1⟩) g1 g2 (by omega) x.w
      refine ⟨_, ?_, ?_, hcut⟩
      · simp [Instr.sliceAt, run_underlying hu, Instr.slice, hb, run_sizeOf' hinf, hsz]
      · have s1 : l.sc x.e.length = true := by rcases b1 with ⟨_, rfl⟩ | ⟨_, _, q⟩; rfl; exact q
        have s2 : m.sc x.e.length = true := by rcases b2 with ⟨_, rfl⟩ | ⟨_, _, q⟩; exact mkLen_sc he; exact q
        simp [Ex.sc, he, s1, s2]
    split at h
    · simp only [Option.some.injEq, Prod.mk.injEq] at h
      obtain ⟨rfl, rfl⟩ := h
      cases vl with
      | some _ => exact hlo.elim
      | none =>
        cases vh with
        | some _ => exact hhi.elim
        | none =>
          have hcap : n ≤ cap := by
            cases hrd with
            | nil _ => exact Nat.le_refl _
            | empty _ _ => exact Nat.le_refl _
            | row _ _ _ _ h5 => exact h5
          have hb := run_sliceBounds (P := x.P) (isS := true) (len := n) (cap := cap) (lo := none) (hi := none) (l := 0) (h := n) (.inl ⟨rfl, rfl⟩) (.inl ⟨rfl, rfl⟩) (Int.le_refl _) (by omega) (by omega) x.w
          refine ⟨.slice a n cap, ?_, he, hrd⟩
          simp only [Instr.sliceAt, run_underlying hu, Instr.slice, hb, run_sizeOf' hinf, Sem.run_bind, Sem.run_pure, Result.andThen_ok]
          have : a.map (fun q => q.add 0) = a := by
            cases a with
            | none => rfl
            | some q => simp [Addr.add]
          simp [this]
    · obtain ⟨l, h1, h⟩ := Option.bind_eq_some_iff.1 h
      obtain ⟨m, h2, h⟩ := Option.map_eq_some_iff.1 h
      simp only [Prod.mk.injEq] at h
      exact go l m h1 h2 h.1.symm h.2.symm
  | ptr o off =>
    simp only [symSlice] at h
    split at h
    · rename_i n T T' l hu hl
      obtain ⟨ts, hts, h⟩ := Option.bind_eq_some_iff.1 h
      split at h
      · rename_i ty
        simp only [Option.ite_none_right_eq_some, Option.map_eq_some_iff, Prod.mk.injEq] at h
        obtain ⟨hn, ds, hds, rfl, rfl⟩ := h
        cases vl with
        | some _ => exact hlo.elim
        | none =>
        cases vh with
        | some _ => exact hhi.elim
        | none =>
        obtain ⟨inf, hinf, hsz, _⟩ := tys_size hts
        obtain ⟨b, hb, rfl⟩ := ha.2 _ _ _ hl
        have ho := hs.objs o
        rw [hl] at ho
        obtain ⟨b', c, h1, h2, h3, h4, _⟩ := ho
        have : b = b' := by simp only at hb; rw [h1] at hb; simpa using hb.symm
        subst this
        have hb2 := run_sliceBounds (P := x.P) (isS := false) (len := n) (cap := n) (lo := none) (hi := none) (l := 0) (h := n) (.inl ⟨rfl, rfl⟩) (.inl ⟨rfl, rfl⟩) (Int.le_refl _) (by omega) (by omega) x.w
        obtain ⟨q1, q2, q3⟩ := toDatas_ok hds
        have hlen : ds.length = n := by rw [q2, ← q1]; simp
        -- the rows that are written out
        have hfold : ∀ (ds : List Ex) (a : Ex), ((ds.foldl (fun a d => .app a (.row (.rcons d .rnil))) a).den x.e).rows = (a.den x.e).rows ++ ds.map fun d => [d.den x.e] := by
          intro ds
          induction ds with
          | nil => intro a; simp
          | cons d ds ih => intro a; rw [List.foldl_cons, ih]; simp [Ex.den]
        have hscf : ∀ (ds : List Ex) (a : Ex), a.sc x.e.length = true → (∀ d ∈ ds, d.sc x.e.length = true) → (ds.foldl (fun a d => .app a (.row (.rcons d .rnil))) a).sc x.e.length = true := by
          intro ds
          induction ds with
          | nil => intro a ha _; exact ha
          | cons d ds ih => intro a ha hd; exact ih _ (by simp [Ex.sc, ha, hd d (List.mem_cons_self ..)]) fun d' hd' => hd d' (List.mem_cons_of_mem _ hd')
        have hall : ∀ j d, ds[j]? = some d → d.sc x.e.length = true ∧ Rd x.P x.I x.w.heap ty (c.getD (off + j) undef) (d.den x.e) := by
          intro j d hj
          have hjn : j < n := by have := (List.getElem?_eq_some_iff.1 hj).1; omega
          have hjl : off + j < l.length := by omega
          have e1 : ((l.drop off).take n)[j]? = some l[off + j] := by simp [hjn, List.getElem?_drop, hjl]
          have e2 : (List.replicate n ty)[j]? = some ty := by simp [hjn]
          exact toData_ok (q3 j ty _ d e2 e1 hj) (h3.2 (off + j) _ (List.getElem?_eq_getElem hjl))
        refine ⟨.slice (some ⟨b, off, none⟩) n n, ?_, ?_, ?_⟩
        · have he : (if n = 0 then (⟨b, off, none⟩ : Addr) else (⟨b, off, none⟩ : Addr).add (0 * inf.size)) = ⟨b, off, none⟩ := by split <;> simp [Addr.add]
          simp [Instr.sliceAt, run_underlying hu, Instr.sureAddr, hb2, run_sizeOf' hinf]
          simpa using he
        · exact hscf ds .nil rfl fun d hd => by
            obtain ⟨j, hj, rfl⟩ := List.getElem_of_mem hd
            exact (hall j _ (List.getElem?_eq_getElem hj)).1
        · have hrows : ((ds.foldl (fun a d => Ex.app a (.row (.rcons d .rnil))) .nil).den x.e).rows = ds.map fun d => [d.den x.e] := by rw [hfold]; rfl
          refine .row hts (h4 rfl) h2 (by rw [hrows]; simpa using hlen) (Nat.le_refl _) (by have := h3.1; simp only [List.length_singleton]; omega) ?_ ?_
          · intro r hr
            rw [hrows] at hr
            obtain ⟨d, _, rfl⟩ := List.mem_map.1 hr
            rfl
          · intro i j t hi' ht
            have hj : j = 0 := by have := (List.getElem?_eq_some_iff.1 ht).1; simp only [List.length_singleton] at this; omega
            subst hj
            simp only [List.getElem?_cons_zero, Option.some.injEq] at ht
            subst ht
            rw [hrows]
            have hlt : i < ds.length := by omega
            have := (hall i _ (List.getElem?_eq_getElem hlt)).2
            simpa [hlt] using this
      · cases h
    · cases h
  | _ => cases h

end
end Glx
namespace Glx
open Go

mutual
/-- the cells of a type whose values '==' compares cell by cell -/
def eqTy (P : Program) : Nat → TypeId → Option (List LTy)
  | 0, _ => none
  | n + 1, t => match P.underlying t with
    | some (.int k) => some [.int k]
    | some .bool => some [.bool]
    | some .string => some [.str]
    | some (.struct fs) => if P.stoodInHeld t then none else eqFs P n 0 fs.toList
    | some (.array m e) => (eqTy P n e).bind fun l => if (P.info? e).map (·.size) = some l.length ∧ l ≠ [] then some (List.replicate m l).flatten else none
    | _ => none
def eqFs (P : Program) : Nat → Nat → List Field → Option (List LTy)
  | 0, _, _ => none
  | _ + 1, _, [] => some []
  | n + 1, acc, f :: fs => if f.name ≠ "_" ∧ f.offset = acc then
      (eqTy P n f.type).bind fun a => if (P.info? f.type).map (·.size) = some a.length ∧ a ≠ [] then (eqFs P n (acc + a.length) fs).map (a ++ ·) else none
    else none
end

def valEq : Value → Value → Bool
  | .int _ a, .int _ b => a == b
  | .bool a, .bool b => a == b
  | .string a, .string b => a.toList == b.toList
  | _, _ => false

def eqB : List Value → List Value → Bool
  | [], [] => true
  | a :: as, b :: bs => valEq a b && eqB as bs
  | _, _ => false

def Ty1 : LTy → Value → Prop
  | .int k, v => ∃ n, v = .int k n
  | .bool, v => ∃ b, v = .bool b
  | .str, v => ∃ s, v = .string s
  | .sl _, _ => False

def TyL : List LTy → List Value → Prop
  | [], [] => True
  | t :: ts, v :: vs => Ty1 t v ∧ TyL ts vs
  | _, _ => False

theorem TyL.length : ∀ {ts : List LTy} {vs : List Value}, TyL ts vs → ts.length = vs.length
  | [], [], _ => rfl
  | _ :: _, _ :: _, h => by simp [TyL.length h.2]
  | [], _ :: _, h => h.elim
  | _ :: _, [], h => h.elim

theorem TyL.append : ∀ {a b : List LTy} {vs : List Value}, TyL (a ++ b) vs → TyL a (vs.take a.length) ∧ TyL b (vs.drop a.length)
  | [], _, _, h => ⟨by simp [TyL], by simpa using h⟩
  | _ :: a, b, [], h => h.elim
  | _ :: a, b, v :: vs, h => by
    obtain ⟨h1, h2⟩ := TyL.append (a := a) (b := b) h.2
    exact ⟨⟨h.1, h1⟩, h2⟩

theorem eqB_append : ∀ {a b c d : List Value}, a.length = c.length → eqB (a ++ b) (c ++ d) = (eqB a c && eqB b d)
  | [], _, [], _, _ => by simp [eqB]
  | x :: a, b, y :: c, d, h => by
    simp only [List.cons_append, eqB]
    rw [eqB_append (by simpa using h), Bool.and_assoc]
  | [], _, _ :: _, _, h => by simp at h
  | _ :: _, _, [], _, h => by simp at h

/-- a value and its cells -/
def ValOf (P : Program) (t : TypeId) (c : List Value) (v : Value) : Prop := (isRow P t = some true ∧ v = .agg c.toArray) ∨ (isRow P t = some false ∧ c = [v])

theorem run_part' {P : Program} {t : TypeId} {i : TypeInfo} (hi : P.info? t = some i) {b : Bool} (hb : isRow P t = some b) {xs : Array Value} {off : Nat} (hn : off + i.size ≤ xs.size) (h1 : b = false → i.size = 1) (w : World) :
    ∃ v, (part t xs off).run P w = .ok v w ∧ ValOf P t ((xs.toList.drop off).take i.size) v := by
  cases b with
  | true =>
    refine ⟨.agg (xs.extract off (off + i.size)), by simp [part, run_isAgg' hb, run_sizeOf' hi], .inl ⟨hb, ?_⟩⟩
    congr 1
    apply Array.ext'
    rw [Array.toList_extract]
    simp [List.extract]
  | false =>
    have hs := h1 rfl
    have hlt : off < xs.size := by omega
    refine ⟨xs[off], by simp [part, run_isAgg' hb, hlt], .inr ⟨hb, ?_⟩⟩
    rw [hs]
    have hl : off < xs.toList.length := by simpa using hlt
    rw [List.drop_eq_getElem_cons hl]
    simp

theorem isRow_of {P : Program} {t : TypeId} {d : TypeDesc} (h : P.underlying t = some d) : isRow P t = some (rowD d) := by
  simp [isRow, h]

theorem drop_take_drop {α : Type} (l : List α) (a n : Nat) : l.drop (a + n) = (l.drop a).drop n := by rw [List.drop_drop]

mutual
theorem run_eqTy {P : Program} : ∀ (n : Nat) (t : TypeId) (ts : List LTy), eqTy P n t = some ts → ∀ (d : Nat) (w : World) (c1 c2 : List Value) (v1 v2 : Value), TyL ts c1 → TyL ts c2 → ValOf P t c1 v1 → ValOf P t c2 v2 →
    (Op.equalIn (d + n) t v1 v2).run P w = .ok (eqB c1 c2) w
  | 0, _, _, h => by simp [eqTy] at h
  | n + 1, t, ts, h => by
    intro d w c1 c2 v1 v2 h1 h2 h3 h4
    simp only [eqTy] at h
    have scalar : ∀ (l : LTy), ts = [l] → isRow P t = some false → ∃ a b, c1 = [a] ∧ c2 = [b] ∧ v1 = a ∧ v2 = b ∧ Ty1 l a ∧ Ty1 l b := by
      rintro l rfl hr
      rcases h3 with ⟨h5, _⟩ | ⟨_, rfl⟩
      · rw [hr] at h5; cases h5
      · rcases h4 with ⟨h5, _⟩ | ⟨_, rfl⟩
        · rw [hr] at h5; cases h5
        · exact ⟨v1, v2, rfl, rfl, rfl, rfl, h1.1, h2.1⟩
    split at h
    · rename_i k hu
      cases h
      obtain ⟨a, b, rfl, rfl, rfl, rfl, ⟨p, rfl⟩, ⟨q, rfl⟩⟩ := scalar _ rfl (isRow_of hu)
      rw [show d + (n + 1) = (d + n) + 1 from rfl, run_equalIn_int w (d + n) t k k p q hu]
      simp [eqB, valEq]
    · rename_i hu
      cases h
      obtain ⟨a, b, rfl, rfl, rfl, rfl, ⟨p, rfl⟩, ⟨q, rfl⟩⟩ := scalar _ rfl (isRow_of hu)
      rw [show d + (n + 1) = (d + n) + 1 from rfl, run_equalIn_bool' w (d + n) t p q hu]
      simp [eqB, valEq]
    · rename_i hu
      cases h
      obtain ⟨a, b, rfl, rfl, rfl, rfl, ⟨p, rfl⟩, ⟨q, rfl⟩⟩ := scalar _ rfl (isRow_of hu)
      rw [show d + (n + 1) = (d + n) + 1 from rfl, run_equalIn_string w (d + n) t p q hu]
      simp [eqB, valEq]
    · rename_i fs hu
      split at h
      · cases h
      · rename_i hst
        have hr := isRow_of hu
        rcases h3 with ⟨_, rfl⟩ | ⟨h5, _⟩
        · rcases h4 with ⟨_, rfl⟩ | ⟨h5, _⟩
          · have hf : P.fieldsOf t = fs := by simp [Program.fieldsOf, hu]
            rw [show d + (n + 1) = (d + n) + 1 from rfl, run_equalIn_struct w (d + n) t _ _ (by rw [hf]; exact hu) (by simpa using hst), hf]
            have := run_eqFs n 0 fs.toList ts h d w c1 c2 (by simpa using h1) (by simpa using h2)
            simpa using this
          · rw [hr] at h5; cases h5
        · rw [hr] at h5; cases h5
    · rename_i m e hu
      obtain ⟨l, hl, h⟩ := Option.bind_eq_some_iff.1 h
      split at h
      · rename_i hsz
        cases h
        obtain ⟨hsz, hne⟩ := hsz
        have hpos : 0 < l.length := List.length_pos_iff.2 hne
        obtain ⟨i, hi, his⟩ := Option.map_eq_some_iff.1 hsz
        have hr := isRow_of hu
        rcases h3 with ⟨_, rfl⟩ | ⟨h5, _⟩
        · rcases h4 with ⟨_, rfl⟩ | ⟨h5, _⟩
          · rw [show d + (n + 1) = (d + n) + 1 from rfl, run_equalIn_array w (d + n) _ _ hu hi]
            have hce : P.cellsOf e = l.length := by simp [Program.cellsOf, hi, his]
            have hrow : ∃ b, isRow P e = some b ∧ (b = false → i.size = 1) := by
              cases n with
              | zero => simp [eqTy] at hl
              | succ n =>
                simp only [eqTy] at hl
                cases hue : P.underlying e with
                | none => simp [hue] at hl
                | some q =>
                  rw [hue] at hl
                  refine ⟨_, isRow_of hue, ?_⟩
                  rw [his]
                  cases q <;> (try simp at hl) <;> simp [rowD]
                  all_goals (subst hl; rfl)
            obtain ⟨b, hb, hb1⟩ := hrow
            have key : ∀ (m : Nat) (is : List Nat) (k : Nat) (c1 c2 : List Value), is = List.range' k m → TyL (List.replicate m l).flatten (c1.drop (k * l.length)) → TyL (List.replicate m l).flatten (c2.drop (k * l.length)) →
                (Op.eqItems (d + n) e (P.cellsOf e) c1.toArray c2.toArray is).run P w = .ok (eqB (c1.drop (k * l.length)) (c2.drop (k * l.length))) w := by
              intro m
              induction m with
              | zero =>
                intro is k c1 c2 hk h1 h2
                subst hk
                simp only [List.replicate_zero, List.flatten_nil] at h1 h2
                have e1 := TyL.length h1
                have e2 := TyL.length h2
                rw [List.eq_nil_of_length_eq_zero e1.symm, List.eq_nil_of_length_eq_zero e2.symm]
                simp [Op.eqItems, eqB]
              | succ m ih =>
                intro is k c1 c2 hk h1 h2
                subst hk
                rw [List.replicate_succ, List.flatten_cons] at h1 h2
                have g1 := TyL.append h1
                have g2 := TyL.append h2
                have n1 := TyL.length h1
                have n2 := TyL.length h2
                simp only [List.length_append, List.length_drop] at n1 n2
                obtain ⟨p, hp, hpv⟩ := run_part' hi hb (xs := c1.toArray) (off := k * l.length) (by simp only [List.size_toArray]; omega) hb1 w
                obtain ⟨q, hq, hqv⟩ := run_part' hi hb (xs := c2.toArray) (off := k * l.length) (by simp only [List.size_toArray]; omega) hb1 w
                simp only [his] at hpv hqv
                have hE := run_eqTy n e l hl d w _ _ p q g1.1 g2.1 (by simpa using hpv) (by simpa using hqv)
                have d1 : c1.drop (k * l.length) = (c1.drop (k * l.length)).take l.length ++ c1.drop ((k + 1) * l.length) := by
                  rw [Nat.add_mul, Nat.one_mul, drop_take_drop, List.take_append_drop]
                have d2 : c2.drop (k * l.length) = (c2.drop (k * l.length)).take l.length ++ c2.drop ((k + 1) * l.length) := by
                  rw [Nat.add_mul, Nat.one_mul, drop_take_drop, List.take_append_drop]
                have hlen : ((c1.drop (k * l.length)).take l.length).length = ((c2.drop (k * l.length)).take l.length).length := by
                  rw [← TyL.length g1.1, ← TyL.length g2.1]
                have hih := ih _ (k + 1) c1 c2 rfl (by rw [Nat.add_mul, Nat.one_mul, drop_take_drop]; exact g1.2) (by rw [Nat.add_mul, Nat.one_mul, drop_take_drop]; exact g2.2)
                rw [d1, d2, eqB_append hlen]
                simp only [List.range'_succ, Op.eqItems, Sem.run_bind, hce, hp, hq, hE, Result.andThen_ok]
                rw [← hce]
                cases hq2 : eqB ((c1.drop (k * l.length)).take l.length) ((c2.drop (k * l.length)).take l.length) with
                | false => rw [hce]; simp [hq2]
                | true => rw [hce] at hih ⊢; simpa [hq2] using hih
            have := key m (List.range m) 0 c1 c2 (List.range_eq_range' ..) (by simpa using h1) (by simpa using h2)
            simpa using this
          · rw [hr] at h5; cases h5
        · rw [hr] at h5; cases h5
      · cases h
    · cases h
theorem run_eqFs {P : Program} : ∀ (n acc : Nat) (fs : List Field) (ts : List LTy), eqFs P n acc fs = some ts → ∀ (d : Nat) (w : World) (c1 c2 : List Value), TyL ts (c1.drop acc) → TyL ts (c2.drop acc) →
    (Op.eqFields (d + n) c1.toArray c2.toArray fs).run P w = .ok (eqB (c1.drop acc) (c2.drop acc)) w
  | 0, _, _, _, h => by simp [eqFs] at h
  | n + 1, acc, [], ts, h => by
    intro d w c1 c2 h1 h2
    simp only [eqFs, Option.some.injEq] at h
    subst h
    have e1 := TyL.length h1
    have e2 := TyL.length h2
    rw [List.eq_nil_of_length_eq_zero e1.symm, List.eq_nil_of_length_eq_zero e2.symm]
    simp [Op.eqFields, eqB]
  | n + 1, acc, f :: fs, ts, h => by
    intro d w c1 c2 h1 h2
    simp only [eqFs] at h
    split at h
    · rename_i hn
      obtain ⟨hname, hoff⟩ := hn
      obtain ⟨a, ha, h⟩ := Option.bind_eq_some_iff.1 h
      split at h
      · rename_i hsz
        obtain ⟨hsz, hne⟩ := hsz
        have hpos : 0 < a.length := List.length_pos_iff.2 hne
        obtain ⟨i, hi, his⟩ := Option.map_eq_some_iff.1 hsz
        obtain ⟨r, hr, rfl⟩ := Option.map_eq_some_iff.1 h
        have g1 := TyL.append h1
        have g2 := TyL.append h2
        have n1 := TyL.length h1
        have n2 := TyL.length h2
        simp only [List.length_append, List.length_drop] at n1 n2
        have hrow : ∃ b, isRow P f.type = some b ∧ (b = false → i.size = 1) := by
          cases n with
          | zero => simp [eqTy] at ha
          | succ n =>
            simp only [eqTy] at ha
            cases hue : P.underlying f.type with
            | none => simp [hue] at ha
            | some q =>
              rw [hue] at ha
              refine ⟨_, isRow_of hue, ?_⟩
              rw [his]
              cases q <;> (try simp at ha) <;> simp [rowD]
              all_goals (subst ha; rfl)
        obtain ⟨b, hb, hb1⟩ := hrow
        obtain ⟨p, hp, hpv⟩ := run_part' hi hb (xs := c1.toArray) (off := acc) (by simp only [List.size_toArray]; omega) hb1 w
        obtain ⟨q, hq, hqv⟩ := run_part' hi hb (xs := c2.toArray) (off := acc) (by simp only [List.size_toArray]; omega) hb1 w
        simp only [his] at hpv hqv
        have hE := run_eqTy n f.type a ha (d + 1) w _ _ p q g1.1 g2.1 (by simpa using hpv) (by simpa using hqv)
        have hF := run_eqFs n (acc + a.length) fs r hr (d + 1) w c1 c2 (by rw [drop_take_drop]; exact g1.2) (by rw [drop_take_drop]; exact g2.2)
        have d1 : c1.drop acc = (c1.drop acc).take a.length ++ c1.drop (acc + a.length) := by rw [drop_take_drop, List.take_append_drop]
        have d2 : c2.drop acc = (c2.drop acc).take a.length ++ c2.drop (acc + a.length) := by rw [drop_take_drop, List.take_append_drop]
        have hlen : ((c1.drop acc).take a.length).length = ((c2.drop acc).take a.length).length := by rw [← TyL.length g1.1, ← TyL.length g2.1]
        rw [d1, d2, eqB_append hlen, show d + (n + 1) = d + 1 + n by omega]
        subst hoff
        simp only [Op.eqFields, ne_eq, hname, not_false_eq_true, if_true, Sem.run_bind, hp, hq, hE, Result.andThen_ok]
        cases hq2 : eqB ((c1.drop f.offset).take a.length) ((c2.drop f.offset).take a.length) with
        | false => simp
        | true => simpa using hF
      · cases h
    · cases h
end

end Glx
namespace Glx
open Go

/-- one of two cells -/
def mergeSV (n : Nat) (c : Ex) (a b : SV) : Option SV :=
  if a = b then some a else match a, b with
  | .int k u, .int k' v => if k = k' ∧ u.sc n = true ∧ v.sc n = true then some (.int k (.ite c u v)) else none
  | .bool u, .bool v => if u.sc n = true ∧ v.sc n = true then some (.bool (mkIteB c u v)) else none
  | .str u, .str v => if u.sc n = true ∧ v.sc n = true then some (.str (.ite c u v)) else none
  | .sl T u, .sl T' v => if T = T' ∧ u.sc n = true ∧ v.sc n = true then some (.sl T (.ite c u v)) else none
  | .nils, .sl T v => if v.sc n = true then some (.sl T (.ite c .nil v)) else none
  | .sl T u, .nils => if u.sc n = true then some (.sl T (.ite c u .nil)) else none
  | _, _ => none

def mergeL (n : Nat) (c : Ex) : List SV → List SV → Option (List SV)
  | [], [] => some []
  | a :: as, b :: bs => (mergeSV n c a b).bind fun s => (mergeL n c as bs).map (s :: ·)
  | _, _ => none

def merge1 (n : Nat) (c : Ex) : S1 → S1 → Option S1
  | .one a, .one b => (mergeSV n c a b).map .one
  | .agg a, .agg b => (mergeL n c a b).map .agg
  | _, _ => none

section
variable {x : Env} {c : Ex} {n : Nat}

theorem mergeSV_l {a b s : SV} (h : mergeSV n c a b = some s) (hn : n ≤ x.e.length) (hs : c.sc x.e.length = true) (hc : (c.den x.e).bool = true) {v : Value} (hg : G x a v) : G x s v := by
  unfold mergeSV at h
  split at h
  · cases h; exact hg
  · split at h <;> simp only [Option.ite_none_right_eq_some, Option.some.injEq, reduceCtorEq] at h
    · obtain ⟨⟨rfl, h1, h2⟩, rfl⟩ := h
      exact ⟨by simp [Ex.sc, hs, hg.1, Ex.sc_mono hn _ h2], by simpa [Ex.den, hc] using hg.2⟩
    · obtain ⟨⟨h1, h2⟩, rfl⟩ := h
      exact ⟨mkIteB_sc hs hg.1 (Ex.sc_mono hn _ h2), by rw [mkIteB_den, if_pos hc]; exact hg.2⟩
    · obtain ⟨⟨h1, h2⟩, rfl⟩ := h
      exact ⟨by simp [Ex.sc, hs, hg.1, Ex.sc_mono hn _ h2], by simpa [Ex.den, hc] using hg.2⟩
    · obtain ⟨⟨rfl, h1, h2⟩, rfl⟩ := h
      exact ⟨by simp [Ex.sc, hs, hg.1, Ex.sc_mono hn _ h2], by simpa [Ex.den, hc] using hg.2⟩
    · obtain ⟨h2, rfl⟩ := h
      obtain rfl := hg
      exact ⟨by simp [Ex.sc, hs, Ex.sc_mono hn _ h2], by simp only [Ex.den, hc, if_true]; exact .nil rfl⟩
    · obtain ⟨h1, rfl⟩ := h
      exact ⟨by simp [Ex.sc, hs, hg.1], by simpa [Ex.den, hc] using hg.2⟩

theorem mergeSV_r {a b s : SV} (h : mergeSV n c a b = some s) (hn : n ≤ x.e.length) (hs : c.sc x.e.length = true) (hc : (c.den x.e).bool = false) {v : Value} (hg : G x b v) : G x s v := by
  unfold mergeSV at h
  split at h
  · rename_i hab; cases h; rw [hab]; exact hg
  · split at h <;> simp only [Option.ite_none_right_eq_some, Option.some.injEq, reduceCtorEq] at h
    · obtain ⟨⟨rfl, h1, h2⟩, rfl⟩ := h
      exact ⟨by simp [Ex.sc, hs, hg.1, Ex.sc_mono hn _ h1], by simpa [Ex.den, hc] using hg.2⟩
    · obtain ⟨⟨h1, h2⟩, rfl⟩ := h
      exact ⟨mkIteB_sc hs (Ex.sc_mono hn _ h1) hg.1, by rw [mkIteB_den, if_neg (by simp [hc])]; exact hg.2⟩
    · obtain ⟨⟨h1, h2⟩, rfl⟩ := h
      exact ⟨by simp [Ex.sc, hs, hg.1, Ex.sc_mono hn _ h1], by simpa [Ex.den, hc] using hg.2⟩
    · obtain ⟨⟨rfl, h1, h2⟩, rfl⟩ := h
      exact ⟨by simp [Ex.sc, hs, hg.1, Ex.sc_mono hn _ h1], by simpa [Ex.den, hc] using hg.2⟩
    · obtain ⟨h2, rfl⟩ := h
      exact ⟨by simp [Ex.sc, hs, hg.1], by simpa [Ex.den, hc] using hg.2⟩
    · obtain ⟨h1, rfl⟩ := h
      obtain rfl := hg
      exact ⟨by simp [Ex.sc, hs, Ex.sc_mono hn _ h1], by simp only [Ex.den, hc, Bool.false_eq_true, if_false]; exact .nil rfl⟩

theorem mergeL_spec : ∀ {as bs ss : List SV}, mergeL n c as bs = some ss → as.length = ss.length ∧ bs.length = ss.length ∧
    ∀ (j : Nat) (a b s : SV), as[j]? = some a → bs[j]? = some b → ss[j]? = some s → mergeSV n c a b = some s
  | [], [], ss, h => by simp only [mergeL, Option.some.injEq] at h; subst h; simp
  | a :: as, b :: bs, ss, h => by
    simp only [mergeL] at h
    obtain ⟨s, h1, h2⟩ := Option.bind_eq_some_iff.1 h
    obtain ⟨ss', h3, rfl⟩ := Option.map_eq_some_iff.1 h2
    obtain ⟨p, q, r⟩ := mergeL_spec h3
    refine ⟨by simp [p], by simp [q], fun j a' b' s' h4 h5 h6 => ?_⟩
    cases j with
    | zero => simp at h4 h5 h6; subst h4 h5 h6; exact h1
    | succ j => exact r j a' b' s' (by simpa using h4) (by simpa using h5) (by simpa using h6)
  | [], _ :: _, _, h => by simp [mergeL] at h
  | _ :: _, [], _, h => by simp [mergeL] at h

theorem mergeL_l {as bs ss : List SV} (h : mergeL n c as bs = some ss) (hn : n ≤ x.e.length) (hs : c.sc x.e.length = true) (hc : (c.den x.e).bool = true) {v : Array Value} (hg : GL x as v) : GL x ss v := by
  obtain ⟨p, q, r⟩ := mergeL_spec h
  refine ⟨by rw [hg.1, p], fun j s hj => ?_⟩
  have hjs := (List.getElem?_eq_some_iff.1 hj).1
  have ha := List.getElem?_eq_getElem (l := as) (i := j) (by omega)
  have hb := List.getElem?_eq_getElem (l := bs) (i := j) (by omega)
  exact mergeSV_l (r j _ _ s ha hb hj) hn hs hc (hg.2 j _ ha)

theorem mergeL_r {as bs ss : List SV} (h : mergeL n c as bs = some ss) (hn : n ≤ x.e.length) (hs : c.sc x.e.length = true) (hc : (c.den x.e).bool = false) {v : Array Value} (hg : GL x bs v) : GL x ss v := by
  obtain ⟨p, q, r⟩ := mergeL_spec h
  refine ⟨by rw [hg.1, q], fun j s hj => ?_⟩
  have hjs := (List.getElem?_eq_some_iff.1 hj).1
  have ha := List.getElem?_eq_getElem (l := as) (i := j) (by omega)
  have hb := List.getElem?_eq_getElem (l := bs) (i := j) (by omega)
  exact mergeSV_r (r j _ _ s ha hb hj) hn hs hc (hg.2 j _ hb)

theorem merge1_l {a b s : S1} (h : merge1 n c a b = some s) (hn : n ≤ x.e.length) (hs : c.sc x.e.length = true) (hc : (c.den x.e).bool = true) {v : Value} (hg : G1 x a v) : G1 x s v := by
  cases a <;> cases b <;> simp only [merge1, Option.map_eq_some_iff, reduceCtorEq] at h
  · obtain ⟨s', h, rfl⟩ := h; exact mergeSV_l h hn hs hc hg
  · obtain ⟨s', h, rfl⟩ := h
    obtain ⟨q, rfl, hg⟩ := hg
    exact ⟨q, rfl, mergeL_l h hn hs hc hg⟩

theorem merge1_r {a b s : S1} (h : merge1 n c a b = some s) (hn : n ≤ x.e.length) (hs : c.sc x.e.length = true) (hc : (c.den x.e).bool = false) {v : Value} (hg : G1 x b v) : G1 x s v := by
  cases a <;> cases b <;> simp only [merge1, Option.map_eq_some_iff, reduceCtorEq] at h
  · obtain ⟨s', h, rfl⟩ := h; exact mergeSV_r h hn hs hc hg
  · obtain ⟨s', h, rfl⟩ := h
    obtain ⟨q, rfl, hg⟩ := hg
    exact ⟨q, rfl, mergeL_r h hn hs hc hg⟩

end

/-- 'c ? a : b' of the model -/
def symPick (n : Nat) (c : SV) (a b : S1) : Option S1 :=
  match c with
  | .bool (.blit true) => some a
  | .bool (.blit false) => some b
  | .bool e => merge1 n e a b
  | _ => none

theorem symPick_ok {x : Env} {n : Nat} {c : SV} {a b s : S1} (h : symPick n c a b = some s) (hn : n ≤ x.e.length) {vc va vb : Value} (hc : G x c vc) (ha : G1 x a va) (hb : G1 x b vb) :
    ∃ t, vc = .bool t ∧ G1 x s (if t then va else vb) := by
  unfold symPick at h
  split at h
  · cases h; obtain ⟨_, rfl⟩ := hc; exact ⟨true, rfl, ha⟩
  · cases h; obtain ⟨_, rfl⟩ := hc; exact ⟨false, rfl, hb⟩
  · rename_i e _ _
    obtain ⟨h1, rfl⟩ := hc
    refine ⟨_, rfl, ?_⟩
    cases hd : (e.den x.e).bool with
    | true => exact merge1_l h hn h1 hd ha
    | false => exact merge1_r h hn h1 hd hb
  · cases h

def symUn (op : UnOp) : SV → Option SV
  | .int k e => match op with
    | .neg => some (.int k (mkBin .sub k (.ilit 0) e))
    | .xor => some (.int k (.bin .xor k (.ilit (if k.signed then -1 else k.max)) e))
    | _ => none
  | .bool e => match op with
    | .not => some (.bool (mkNo e))
    | _ => none
  | _ => none

theorem symUn_ok {x : Env} {op : UnOp} {s r : SV} (h : symUn op s = some r) {v : Value} (hg : G x s v) (w : World) : ∃ u, (Op.unary op v).run x.P w = .ok u w ∧ G x r u := by
  unfold symUn at h
  split at h
  · rename_i k e
    obtain ⟨h1, rfl⟩ := hg
    split at h
    · cases h
      refine ⟨_, rfl, mkBin_sc rfl h1, ?_⟩
      rw [mkBin_den]; rfl
    · cases h
      refine ⟨_, rfl, by simp [Ex.sc, h1], rfl⟩
    · cases h
  · rename_i e
    obtain ⟨h1, rfl⟩ := hg
    split at h
    · cases h
      exact ⟨_, rfl, by rw [mkNo_sc]; exact h1, by rw [mkNo_den]⟩
    · cases h
  · cases h

/-- lengths: of a slice of whichever kind, of a text -/
def lenEx (H : List SObj) : SV → Option Ex
  | .nils => some (.ilit 0)
  | .sl _ e => some (mkLen e)
  | .str e => some (.slen e)
  | .own o ver => match look H o with
    | .row _ e u => if u = ver then some (mkLen e) else none
    | _ => none
  | _ => none

theorem lenEx_ok {x : Env} {w0 : World} {M : Nat → Prop} (hs : Sat x w0 M) {s : SV} {e : Ex} (h : lenEx x.H s = some e) {v : Value} (hg : G x s v) :
    e.sc x.e.length = true ∧ ((∃ t, v = .string t ∧ (t.size : Int) = (e.den x.e).int) ∨ (∃ a n c, v = .slice a n c ∧ (n : Int) = (e.den x.e).int)) := by
  cases s with
  | nils => cases h; obtain rfl := hg; exact ⟨rfl, .inr ⟨_, _, _, rfl, rfl⟩⟩
  | sl T e =>
    cases h
    refine ⟨mkLen_sc hg.1, .inr ?_⟩
    rw [mkLen_den]
    cases hg.2 with
    | nil h0 => exact ⟨_, _, _, rfl, by rw [h0]; rfl⟩
    | empty _ h0 => exact ⟨_, _, _, rfl, by rw [h0]; rfl⟩
    | row _ _ _ h4 => exact ⟨_, _, _, rfl, by rw [h4]⟩
  | str e => cases h; obtain ⟨h1, rfl⟩ := hg; exact ⟨h1, .inl ⟨_, rfl, rfl⟩⟩
  | own o ver =>
    simp only [lenEx] at h
    split at h
    · rename_i T e u hl
      simp only [Option.ite_none_right_eq_some, Option.some.injEq] at h
      obtain ⟨hu, rfl⟩ := h
      have hv := (hg.2 T e u hl).2 hu
      have ho := hs.objs o
      rw [hl] at ho
      obtain ⟨hsc, ts, n, xs, h1, h2, h3, _⟩ := ho
      refine ⟨mkLen_sc hsc, .inr ?_⟩
      rw [mkLen_den, h3, hv]
      rcases h2.2 with ⟨h5, h6⟩ | ⟨g, cap, cur, h5, _⟩
      · rw [h5, h6]; exact ⟨_, _, _, rfl, rfl⟩
      · rw [h5]; exact ⟨_, _, _, rfl, rfl⟩
    · cases h
  | _ => cases h

def symLen (P : Program) (H : List SObj) (t : TypeId) (s : S1) : Option SV :=
  match P.underlying t, s with
  | some .string, .one (.str e) => some (.int .i64 (.slen e))
  | some (.slice _), .one (.str _) => none
  | some (.slice _), .one s => (lenEx H s).map (.int .i64 ·)
  | some (.array n _), _ => some (.int .i64 (.ilit n))
  | _, _ => none

theorem symLen_ok {x : Env} {w0 : World} {M : Nat → Prop} (hs : Sat x w0 M) {t ty : TypeId} {s : S1} {r : SV} (h : symLen x.P x.H t s = some r) {v : Value} (hg : G1 x s v) (w : World) :
    ∃ u, (Builtin.len_ #[t] ty #[v]).run x.P w = .ok u w ∧ G x r u := by
  unfold symLen at h
  split at h
  · rename_i e hu
    cases h
    obtain ⟨h1, rfl⟩ := hg
    exact ⟨_, by simp [Builtin.len_, run_underlying hu]; rfl, h1, rfl⟩
  · cases h
  · rename_i T s hns hu
    obtain ⟨e, h1, rfl⟩ := Option.map_eq_some_iff.1 h
    obtain ⟨h2, h3⟩ := lenEx_ok hs h1 hg
    rcases h3 with ⟨q, rfl, h3⟩ | ⟨a, n, c, rfl, h3⟩
    · exfalso
      cases s with
      | str e => exact hns e rfl
      | nils => cases hg
      | sl T e => cases hg.2
      | own o ver =>
        simp only [lenEx] at h1
        split at h1
        · rename_i T e u hl
          simp only [Option.ite_none_right_eq_some, Option.some.injEq] at h1
          have hv := (hg.2 T e u hl).2 h1.1
          have ho := hs.objs o
          rw [hl] at ho
          obtain ⟨_, ts, n, xs, _, h5, _⟩ := ho
          rw [← hv] at h5
          rcases h5.2 with ⟨h6, _⟩ | ⟨g, cap, cur, h6, _⟩ <;> cases h6
        · cases h1
      | _ => cases h1
    · exact ⟨_, by simp [Builtin.len_, run_underlying hu]; rfl, h2, by rw [← h3]; rfl⟩
  · rename_i n T hu
    cases h
    exact ⟨_, by simp [Builtin.len_, run_underlying hu]; rfl, rfl, rfl⟩
  · cases h

/-- the greatest, or the least, of two -/
def symExt (most : Bool) : List SV → Option SV
  | [.int k a, .int k' b] => if k = k' then some (.int k (.ite (mkCmp (if most then .gtr else .lss) b a) b a)) else none
  | _ => none

theorem symExt_ok {x : Env} {most : Bool} {a b r : SV} (h : symExt most [a, b] = some r) {va vb : Value} (ha : G x a va) (hb : G x b vb) (ts : Array TypeId) (ty : TypeId) (w : World) :
    ∃ u, ((if most then Builtin.max_ ts ty #[va, vb] else Builtin.min_ ts ty #[va, vb])).run x.P w = .ok u w ∧ G x r u := by
  unfold symExt at h
  split at h
  · rename_i k e k' f heq
    simp only [List.cons.injEq, and_true] at heq
    obtain ⟨rfl, rfl⟩ := heq
    simp only [Option.ite_none_right_eq_some, Option.some.injEq] at h
    obtain ⟨rfl, rfl⟩ := h
    obtain ⟨h1, rfl⟩ := ha
    obtain ⟨h2, rfl⟩ := hb
    cases most with
    | true =>
      refine ⟨_, by simp [Builtin.max_, Builtin.max2]; rfl, by simp [Ex.sc, h1, h2, mkCmp_sc h2 h1], ?_⟩
      simp only [Ex.den, if_true, mkCmp_den]
      congr 1
      by_cases hc : (e.den x.e).int < (f.den x.e).int
      · rw [if_pos hc, if_pos (by simp [compare, hc])]
      · rw [if_neg hc, if_neg (by simp [compare, hc])]
    | false =>
      refine ⟨_, by simp [Builtin.min_, Builtin.min2]; rfl, by simp [Ex.sc, h1, h2, mkCmp_sc h2 h1], ?_⟩
      simp only [Ex.den, Bool.false_eq_true, if_false, mkCmp_den]
      congr 1
      by_cases hc : (f.den x.e).int < (e.den x.e).int
      · rw [if_pos hc, if_pos (by simp [compare, hc])]
      · rw [if_neg hc, if_neg (by simp [compare, hc])]
  · cases h

end Glx
namespace Glx
open Go

def mkBoth (a b : Ex) : Ex := if b = .blit true then a else .both a b
theorem mkBoth_den (e : List D) (a b : Ex) : ((mkBoth a b).den e).bool = ((a.den e).bool && (b.den e).bool) := by
  unfold mkBoth
  split
  · rename_i h; subst h; simp [Ex.den]
  · rfl
theorem mkBoth_sc {n : Nat} {a b : Ex} (ha : a.sc n = true) (hb : b.sc n = true) : (mkBoth a b).sc n = true := by
  unfold mkBoth
  split
  · exact ha
  · simp [Ex.sc, ha, hb]

def eq1 : LTy → Ex → Ex → Option Ex
  | .int _, a, b => some (mkCmp .eql a b)
  | .bool, a, b => some (.beq a b)
  | .str, a, b => some (.scmp .eql a b)
  | .sl _, _, _ => none

def eqEx : List LTy → List SV → List SV → Option Ex
  | [], [], [] => some (.blit true)
  | t :: ts, a :: as, b :: bs => (toData t a).bind fun ea => (toData t b).bind fun eb => (eq1 t ea eb).bind fun e => (eqEx ts as bs).map (mkBoth e)
  | _, _, _ => none

section
variable {x : Env}

theorem GL.cons {a : SV} {as : List SV} {c : List Value} (h : GL x (a :: as) c.toArray) : ∃ v c', c = v :: c' ∧ G x a v ∧ GL x as c'.toArray := by
  cases c with
  | nil => have := h.1; simp at this
  | cons v c' =>
    refine ⟨v, c', rfl, ?_, by simpa using h.1, fun j s hj => ?_⟩
    · simpa using h.2 0 a rfl
    · simpa using h.2 (j + 1) s (by simpa using hj)

theorem eqEx_ok : ∀ {ts : List LTy} {as bs : List SV} {e : Ex}, eqEx ts as bs = some e → ∀ {c1 c2 : List Value}, GL x as c1.toArray → GL x bs c2.toArray →
    e.sc x.e.length = true ∧ (e.den x.e).bool = eqB c1 c2 ∧ TyL ts c1 ∧ TyL ts c2
  | [], [], [], e, h, c1, c2, h1, h2 => by
    simp only [eqEx, Option.some.injEq] at h
    subst h
    have e1 : c1 = [] := List.eq_nil_of_length_eq_zero (by simpa using h1.1)
    have e2 : c2 = [] := List.eq_nil_of_length_eq_zero (by simpa using h2.1)
    subst e1 e2
    exact ⟨rfl, rfl, trivial, trivial⟩
  | t :: ts, a :: as, b :: bs, e, h, c1, c2, h1, h2 => by
    simp only [eqEx] at h
    obtain ⟨ea, p1, h⟩ := Option.bind_eq_some_iff.1 h
    obtain ⟨eb, p2, h⟩ := Option.bind_eq_some_iff.1 h
    obtain ⟨e0, p3, h⟩ := Option.bind_eq_some_iff.1 h
    obtain ⟨er, p4, rfl⟩ := Option.map_eq_some_iff.1 h
    obtain ⟨u, c1', rfl, g1, r1⟩ := h1.cons
    obtain ⟨v, c2', rfl, g2, r2⟩ := h2.cons
    obtain ⟨q1, q2, q3, q4⟩ := eqEx_ok p4 r1 r2
    obtain ⟨s1, d1⟩ := toData_ok p1 g1
    obtain ⟨s2, d2⟩ := toData_ok p2 g2
    have : e0.sc x.e.length = true ∧ (e0.den x.e).bool = valEq u v ∧ Ty1 t u ∧ Ty1 t v := by
      cases t with
      | int k =>
        cases p3
        cases d1
        cases d2
        exact ⟨mkCmp_sc s1 s2, by rw [mkCmp_den]; rfl, ⟨_, rfl⟩, ⟨_, rfl⟩⟩
      | bool =>
        cases p3
        cases d1
        cases d2
        exact ⟨by simp [Ex.sc, s1, s2], rfl, ⟨_, rfl⟩, ⟨_, rfl⟩⟩
      | str =>
        cases p3
        cases d1
        cases d2
        exact ⟨by simp [Ex.sc, s1, s2], rfl, ⟨_, rfl⟩, ⟨_, rfl⟩⟩
      | sl T => cases p3
    obtain ⟨t1, t2, t3, t4⟩ := this
    exact ⟨mkBoth_sc t1 q1, by rw [mkBoth_den, t2, q2]; rfl, ⟨t3, q3⟩, ⟨t4, q4⟩⟩
  | [], [], _ :: _, _, h, _, _, _, _ => by simp [eqEx] at h
  | [], _ :: _, _, _, h, _, _, _, _ => by simp [eqEx] at h
  | _ :: _, [], _, _, h, _, _, _, _ => by simp [eqEx] at h
  | _ :: _, _ :: _, [], _, h, _, _, _, _ => by simp [eqEx] at h

def symEq (P : Program) (op : BinOp) (t : TypeId) (a b : List SV) : Option SV :=
  if P.eqGuardType P.depth t = true ∨ isRow P t ≠ some true then none else
  (eqTy P 40 t).bind fun ts => (eqEx ts a b).bind fun e => match op with
    | .eql => some (.bool e)
    | .neq => some (.bool (mkNo e))
    | _ => none

theorem symEq_ok {op : BinOp} {t : TypeId} {a b : List SV} {r : SV} (h : symEq x.P op t a b = some r) {c1 c2 : Array Value} (h1 : GL x a c1) (h2 : GL x b c2) (xo yo : Operand) (w : World) :
    (eqGuard op t xo yo (.agg c1) (.agg c2)).run x.P w = .ok () w ∧ ∃ v, (binOp op t (.agg c1) (.agg c2)).run x.P w = .ok v w ∧ G x r v := by
  unfold symEq at h
  split at h
  · cases h
  · rename_i hg
    simp only [not_or, Bool.not_eq_true, Decidable.not_not] at hg
    obtain ⟨ts, hts, h⟩ := Option.bind_eq_some_iff.1 h
    obtain ⟨e, he, h⟩ := Option.bind_eq_some_iff.1 h
    refine ⟨run_eqGuard_agg w op t xo yo c1 c2 hg.1, ?_⟩
    obtain ⟨q1, q2, q3, q4⟩ := eqEx_ok he (c1 := c1.toList) (c2 := c2.toList) (by simpa using h1) (by simpa using h2)
    have hrun := run_eqTy 40 t ts hts 9960 w c1.toList c2.toList (.agg c1) (.agg c2) q3 q4 (.inl ⟨hg.2, by simp⟩) (.inl ⟨hg.2, by simp⟩)
    split at h
    · cases h
      exact ⟨_, by rw [run_eql_struct, hrun]; rfl, q1, by rw [q2]⟩
    · cases h
      exact ⟨_, by rw [run_neq_struct, hrun]; rfl, by rw [mkNo_sc]; exact q1, by rw [mkNo_den, q2]⟩
    · cases h

/-! ### Conversions -/
def mkConv (k : IntKind) : Ex → Ex
  | .ilit n => .ilit (k.wrap n)
  | e => .conv k e
theorem mkConv_den (e : List D) (k : IntKind) (y : Ex) : ((mkConv k y).den e).int = k.wrap (y.den e).int := by cases y <;> rfl
theorem mkConv_sc (n : Nat) (k : IntKind) (y : Ex) : (mkConv k y).sc n = y.sc n := by cases y <;> rfl

/-- a slice's data, where it is read on the spot -/
def borrow (H : List SObj) : SV → Option (TypeId × Ex)
  | .sl T e => some (T, e)
  | .own o ver => match look H o with
    | .row T e u => if u = ver then some (T, e) else none
    | _ => none
  | _ => none

/-- what a borrowed slice reads as, its own block let in -/
theorem borrow_ok {w0 : World} {M : Nat → Prop} (hs : Sat x w0 M) {s : SV} {T : TypeId} {e : Ex} (h : borrow x.H s = some (T, e)) {v : Value} (hg : G x s v) :
    e.sc x.e.length = true ∧ Rd x.P (fun b => x.I b ∨ blkOf v = some b) x.w.heap (.sl T) v (e.den x.e) := by
  cases s with
  | sl T' e' => cases h; exact ⟨hg.1, hg.2.mono (fun _ => .inl) fun _ _ => rfl⟩
  | own o ver =>
    simp only [borrow] at h
    split at h
    · rename_i T' e' u hl
      simp only [Option.ite_none_right_eq_some, Option.some.injEq, Prod.mk.injEq] at h
      obtain ⟨hu, rfl, rfl⟩ := h
      have hv := (hg.2 _ _ u hl).2 hu
      have ho := hs.objs o
      rw [hl] at ho
      obtain ⟨hsc, ts, n, xs, h1, h2, h3, h4, _⟩ := ho
      refine ⟨hsc, ?_⟩
      rw [← hv] at h2
      rcases h2.2 with ⟨rfl, h6⟩ | ⟨g, cap, cur, rfl, _, h7, h8, _, h10, h11⟩
      · exact .nil (List.eq_nil_of_length_eq_zero (by omega))
      · refine .row h1 (.inr rfl) h7 h3 h8 (by rw [Nat.zero_add, h10]; exact Nat.mul_le_mul_right _ h8) h4.1 fun i j t hi ht => ?_
        have := (h4.2 i j t (by omega) ht).mono (I' := fun b => x.I b ∨ blkOf (.slice (some ⟨g, 0, none⟩) n cap) = some b) (h' := x.w.heap) (fun _ => .inl) fun _ _ => rfl
        have hx : xs.getD (i * ts.length + j) undef = cur.getD (0 + i * ts.length + j) undef := by
          have hj := (List.getElem?_eq_some_iff.1 ht).1
          have hmul : (i + 1) * ts.length ≤ n * ts.length := Nat.mul_le_mul_right _ hi
          rw [Nat.add_mul, Nat.one_mul] at hmul
          rw [← h11]
          simp only [List.getD_eq_getElem?_getD, List.getElem?_take, if_pos (show i * ts.length + j < n * ts.length by omega), Array.getElem?_toList, Array.getD_eq_getD_getElem?, Nat.zero_add]
        rwa [hx] at this
    · cases h
  | _ => cases h

def symConv (P : Program) (H : List SObj) (src dst : TypeId) (s : SV) : Option SV :=
  match P.underlying src, P.underlying dst, s with
  | some _, some (.int k), .int _ e => some (.int k (mkConv k e))
  | some .string, some .string, .str e => some (.str e)
  | some (.slice E), some .string, s => (borrow H s).bind fun (T, e) => if T = E ∧ tys P T = some [.int .u8] ∧ (match P.underlying E with | some (.int .u8) => true | _ => false) = true then some (.str (.text e)) else none
  | _, _, _ => none

theorem symConv_ok {w0 : World} {M : Nat → Prop} (hs : Sat x w0 M) {src dst : TypeId} {s r : SV} (h : symConv x.P x.H src dst s = some r) {v : Value} (hg : G x s v) :
    ∃ u, (convert src dst v).run x.P x.w = .ok u x.w ∧ G x r u := by
  unfold symConv at h
  split at h
  · rename_i d k _ e hsrc hdst
    cases h
    obtain ⟨h1, rfl⟩ := hg
    refine ⟨.int k (k.wrap (e.den x.e).int), ?_, by rw [mkConv_sc]; exact h1, by rw [mkConv_den]⟩
    simp [convert, run_underlying hsrc, run_underlying hdst, Conv.intToInt]
  · rename_i e hsrc hdst
    cases h
    obtain ⟨h1, rfl⟩ := hg
    exact ⟨_, by simp [convert, run_underlying hsrc, run_underlying hdst], h1, rfl⟩
  · rename_i E hsrc hdst
    obtain ⟨⟨T, e⟩, hb, h⟩ := Option.bind_eq_some_iff.1 h
    simp only [Option.ite_none_right_eq_some, Option.some.injEq] at h
    obtain ⟨⟨rfl, hts, hu8⟩, rfl⟩ := h
    obtain ⟨hsc, hrd⟩ := borrow_ok hs hb hg
    have hE : x.P.underlying T = some (.int .u8) := by
      split at hu8
      · assumption
      · cases hu8
    refine ⟨.string (textOf (e.den x.e).rows), ?_, hsc, rfl⟩
    cases hrd with
    | nil h0 =>
      rw [run_convert_bytes_nil x.w src T hsrc hE 0 0 dst hdst, h0]
      rfl
    | empty _k0 h0 =>
      rename_i ts a
      have hl : (loadCells a 0).run x.P x.w = .ok #[] x.w := by
        have := run_loadCells_list (P := x.P) x.w a [] (fun j v hj => by cases hj)
        simpa using this
      rw [run_convert_bytes_string x.w src dst T _ 0 0 hsrc hE hdst, run_bytesToString x.w _ 0 0 [] (by simpa using hl), h0]
      rfl
    | row k1 k2 k3 k4 k5 k6 k7 k8 =>
      rename_i ts b off n cap c E fz
      rw [hts] at k1
      cases k1
      have := run_convert_bytes_arg (P := x.P) x.w src T hsrc hE b off n cap ((e.den x.e).rows.map fun r => (r.getD 0 default).int) (by simpa using k4) (fun i hi => by
        have h9 := k8 i 0 (.int .u8) hi rfl
        simp only [List.length_singleton, Nat.mul_one, Nat.add_zero] at h9 k6
        rw [cell_of_row x.w b (off + i) c E fz k3]
        have hlt : off + i < c.size := by omega
        have hlr : i < (e.den x.e).rows.length := by omega
        simp only [Array.getElem?_eq_getElem hlt]
        simp only [Array.getD_eq_getD_getElem?, Array.getElem?_eq_getElem hlt, Option.getD_some] at h9
        generalize c[off + i] = q at h9 ⊢
        cases h9
        simp [hlr]) dst hdst
      rw [this]
      simp [strOfNums, textOf, Function.comp_def]
  · cases h

end
end Glx
namespace Glx
open Go

def put (H : List SObj) (o : Nat) (s : SObj) : List SObj := if o < H.length then H.set o s else H ++ List.replicate (o - H.length) .unborn ++ [s]

theorem look_put (H : List SObj) (o p : Nat) (s : SObj) : look (put H o s) p = if p = o then s else look H p := by
  unfold look put
  by_cases ho : o < H.length
  · rw [if_pos ho]
    by_cases hp : p = o
    · subst hp; simp [ho]
    · simp [hp, List.getElem?_set_ne (Ne.symm hp)]
  · rw [if_neg ho]
    by_cases hp : p = o
    · subst hp
      rw [if_pos rfl]
      have : (H ++ List.replicate (p - H.length) SObj.unborn ++ [s])[p]? = some s := by
        rw [List.getElem?_append_right (by simp; omega)]
        simp
        rw [show p - (H.length + (p - H.length)) = 0 by omega]
        rfl
      rw [List.getD_eq_getElem?_getD, this]; rfl
    · rw [if_neg hp]
      simp only [List.getD_eq_getElem?_getD]
      by_cases h1 : p < H.length
      · rw [List.append_assoc, List.getElem?_append_left h1]
      · have h2 : H[p]? = none := List.getElem?_eq_none (by omega)
        rw [h2]
        by_cases h3 : p < o
        · rw [List.append_assoc, List.getElem?_append_right (by omega), List.getElem?_append_left (by simp; omega)]
          simp [show p - H.length < o - H.length by omega]
        · rw [List.getElem?_eq_none (by simp; omega)]

def Env.set (x : Env) (o : Nat) (pv : Value) (ob : SObj) (w' : World) : Env := { x with ν := fun p => if p = o then pv else x.ν p, H := put x.H o ob, w := w' }

section
variable {x : Env} {w0 : World} {M : Nat → Prop} {o : Nat} {pv : Value} {ob : SObj} {w' : World}

theorem loose_not_I (hs : Sat x w0 M) {o b : Nat} (hl : (look x.H o).loose = true) (hb : blkOf (x.ν o) = some b) : ¬ x.I b := by
  have ho := hs.objs o
  cases hk : look x.H o with
  | unborn => rw [hk] at hl; cases hl
  | dead => rw [hk] at hl; cases hl
  | cells T l fz =>
    rw [hk] at ho hl
    obtain ⟨b', c, h1, h2, h3, h4, h5⟩ := ho
    rw [h1] at hb
    cases hb
    exact h5 (by simpa [SObj.loose] using hl)
  | row T e u =>
    rw [hk] at ho
    obtain ⟨_, ts, n, xs, h1, h2, h3, h4, h5⟩ := ho
    refine h5 b ?_
    rcases h2.2 with ⟨h6, _⟩ | ⟨g, cap, cur, h6, _⟩
    · rw [h6] at hb; cases hb
    · rw [h6] at hb ⊢; exact hb

theorem step_ext (hs : Sat x w0 M) (hold : look x.H o = .unborn ∨ (look x.H o).loose = true)
    (hc : ∀ T l fz, ob = .cells T l fz → look x.H o ≠ .unborn → (∃ l' fz', look x.H o = .cells T l' fz') ∧ pv = x.ν o)
    (hr : ∀ T e u, ob = .row T e u → look x.H o ≠ .unborn → ∃ e' u', look x.H o = .row T e' u' ∧ u' ≤ u ∧ (u = u' → pv = x.ν o))
    (hborn : ob.born = true)
    (hblk : ∀ b, b < x.w.heap.size → ((look x.H o).loose = true → blkOf (x.ν o) ≠ some b) → w'.heap[b]? = x.w.heap[b]?) : Ext x (x.set o pv ob w') := by
  refine ⟨rfl, fun _ h => h, ⟨[], by simp [Env.set]⟩, fun b hb => ?_, fun p hp => ?_, fun p T l fz hp hl => ?_, fun p T e u hp hl => ?_⟩
  · refine hblk b (hs.ibound b hb) fun hl hbl => ?_
    exact loose_not_I hs hl hbl hb
  · simp only [Env.set, look_put]
    split
    · exact hborn
    · exact hp
  · simp only [Env.set, look_put] at hl ⊢
    by_cases hpo : p = o
    · subst hpo
      simp only [if_true] at hl ⊢
      exact hc T l fz hl (by intro h; rw [h] at hp; cases hp)
    · simp only [if_neg hpo] at hl ⊢
      exact ⟨⟨l, fz, hl⟩, trivial⟩
  · simp only [Env.set, look_put] at hl ⊢
    by_cases hpo : p = o
    · subst hpo
      simp only [if_true] at hl ⊢
      exact hr T e u hl (by intro h; rw [h] at hp; cases hp)
    · simp only [if_neg hpo] at hl ⊢
      exact ⟨e, u, hl, Nat.le_refl _, fun _ => trivial⟩

theorem live_blk_lt (hs : Sat x w0 M) {o b : Nat} (hl : (look x.H o).live = true) (hb : blkOf (x.ν o) = some b) : b < x.w.heap.size := by
  have ho := hs.objs o
  cases hk : look x.H o with
  | unborn => rw [hk] at hl; cases hl
  | dead => rw [hk] at hl; cases hl
  | cells T l fz =>
    rw [hk] at ho
    obtain ⟨b', c, h1, h2, _⟩ := ho
    rw [h1] at hb
    cases hb
    exact (Array.getElem?_eq_some_iff.1 h2).1
  | row T e u =>
    rw [hk] at ho
    obtain ⟨_, ts, n, xs, h1, h2, _⟩ := ho
    rcases h2.2 with ⟨h6, _⟩ | ⟨g, cap, cur, h6, _, h7, _⟩
    · rw [h6] at hb; cases hb
    · rw [h6] at hb; cases hb; exact (Array.getElem?_eq_some_iff.1 h7).1

theorem step_sat (hs : Sat x w0 M) (he : Ext x (x.set o pv ob w')) (hold : look x.H o = .unborn ∨ (look x.H o).loose = true)
    (hg : w'.os = x.w.os ∧ w'.tape = x.w.tape ∧ w'.output = x.w.output ∧ x.w.heap.size ≤ w'.heap.size)
    (hblk : ∀ b, b < x.w.heap.size → ((look x.H o).loose = true → blkOf (x.ν o) ≠ some b) → w'.heap[b]? = x.w.heap[b]?)
    (hpv : ∀ b, ob.live = true → blkOf pv = some b → ((look x.H o).loose = true ∧ blkOf (x.ν o) = some b) ∨ x.w.heap.size ≤ b)
    (hob : ObjOk (x.set o pv ob w') o ob) : Sat (x.set o pv ob w') w0 M := by
  have hnu : ∀ p, p ≠ o → (x.set o pv ob w').ν p = x.ν p := fun p hp => by simp [Env.set, hp]
  have hno : (x.set o pv ob w').ν o = pv := by simp [Env.set]
  have hlk : ∀ p, p ≠ o → look (x.set o pv ob w').H p = look x.H p := fun p hp => by simp [Env.set, look_put, hp]
  have hlo : look (x.set o pv ob w').H o = ob := by simp [Env.set, look_put]
  -- another block of the walk's own is not the one that is turned
  have hother : ∀ p b, p ≠ o → (look x.H p).live = true → blkOf (x.ν p) = some b → b < x.w.heap.size ∧ ((look x.H o).loose = true → blkOf (x.ν o) ≠ some b) := by
    intro p b hp hl hb
    refine ⟨live_blk_lt hs hl hb, fun hlo' => ?_⟩
    have hlive : (look x.H o).live = true := by
      cases hk : look x.H o <;> rw [hk] at hlo' <;> first | rfl | cases hlo'
    exact hs.apart p o b hp hl hlive hb
  refine Sat.step hs he (fun p => p = o) (fun p hp => ⟨hlk p hp, hnu p hp⟩) (fun p b hp hl hb => ?_) (fun p hp => ?_) (fun p p' b hp hne h1 h2 h3 => ?_) (fun b hb => ?_) (fun p b hp h1 h2 => ?_) ?_
  · obtain ⟨h1, h2⟩ := hother p b hp hl hb
    exact ⟨hblk b h1 h2, Iff.rfl⟩
  · subst hp; rw [hlo]; exact hob
  · subst hp
    rw [hlo] at h1
    rw [hno] at h3
    rw [hlk p' (Ne.symm hne)] at h2
    rw [hnu p' (Ne.symm hne)]
    intro h4
    obtain ⟨h5, h6⟩ := hother p' b (Ne.symm hne) h2 h4
    rcases hpv b h1 h3 with ⟨h7, h8⟩ | h7
    · exact h6 h7 h8
    · omega
  · exact Nat.lt_of_lt_of_le (hs.ibound b hb) hg.2.2.2
  · subst hp
    rw [hlo] at h1
    rw [hno] at h2
    have hlive : ob.live = true := by cases ob <;> first | rfl | cases h1
    rcases hpv b hlive h2 with ⟨h7, h8⟩ | h7
    · exact hs.mine p b h7 h8
    · exact .inr (Nat.le_trans hs.frame.size h7)
  · refine ⟨hg.1.trans hs.frame.os, hg.2.1.trans hs.frame.tape, hg.2.2.1.trans hs.frame.output, Nat.le_trans hs.frame.size hg.2.2.2, fun b hb hm => ?_⟩
    have : w'.heap[b]? = x.w.heap[b]? := hblk b (Nat.lt_of_lt_of_le hb hs.frame.size) fun hl hbl => by
      rcases hs.mine o b hl hbl with h | h
      · exact hm h
      · omega
    exact this.trans (hs.frame.block b hb hm)

/-- cells that a block may bear -/
theorem solid_ok (hs : Sat x w0 M) {s : SV} (h : solid x.H s = true) {v : Value} (hg : G x s v) : v.oneCell' = true ∧ v.cells = #[v] := by
  cases s with
  | int k e => obtain ⟨_, rfl⟩ := hg; exact ⟨rfl, rfl⟩
  | bool e => obtain ⟨_, rfl⟩ := hg; exact ⟨rfl, rfl⟩
  | str e => obtain ⟨_, rfl⟩ := hg; exact ⟨rfl, rfl⟩
  | sl T e => cases hg.2 <;> exact ⟨rfl, rfl⟩
  | nils => cases hg; exact ⟨rfl, rfl⟩
  | nilp => cases hg; exact ⟨rfl, rfl⟩
  | nilf => cases hg; exact ⟨rfl, rfl⟩
  | ifc e =>
    cases hb : (e.den x.e).bool with
    | true => rw [hg.2.1 hb]; exact ⟨rfl, rfl⟩
    | false => obtain ⟨t, u, hv⟩ := hg.2.2 hb; rw [hv]; exact ⟨rfl, rfl⟩
  | ptr o off =>
    simp only [solid] at h
    split at h
    · rename_i T l fz hl
      obtain ⟨b, _, rfl⟩ := hg.2 T l fz hl
      exact ⟨rfl, rfl⟩
    · cases h
  | own o ver =>
    simp only [solid] at h
    split at h
    · rename_i T e u hl
      have hv := (hg.2 T e u hl).2 (by simpa using h)
      have ho := hs.objs o
      rw [hl] at ho
      obtain ⟨_, ts, n, xs, h1, h2, _⟩ := ho
      rw [hv]
      rcases h2.2 with ⟨h6, _⟩ | ⟨g, cap, cur, h6, _⟩ <;> rw [h6] <;> exact ⟨rfl, rfl⟩
    · cases h
  | oel o ver i off =>
    simp only [solid] at h
    split at h
    · rename_i T e u hl
      obtain ⟨ts, b, n, cap, _, _, _, _, rfl⟩ := (hg.2.2 T e u hl).2 (by simpa using h)
      exact ⟨rfl, rfl⟩
    · cases h
  | pel T l i off => obtain ⟨_, _, ts, b, o, n, cap, _, _, _, _, rfl⟩ := hg; exact ⟨rfl, rfl⟩
  | fn f a c => obtain ⟨_, _, rfl, _⟩ := hg; exact ⟨rfl, rfl⟩
  | top => cases h

theorem cells_ok (hs : Sat x w0 M) {s : S1} (h : s.cells.all (solid x.H) = true) {v : Value} (hg : G1 x s v) : GL x s.cells v.cells ∧ ∀ u ∈ v.cells.toList, u.oneCell' = true := by
  cases s with
  | one s =>
    simp only [S1.cells, List.all_cons, List.all_nil, Bool.and_true] at h
    obtain ⟨h1, h2⟩ := solid_ok hs h hg
    rw [h2]
    refine ⟨⟨rfl, fun j t hj => ?_⟩, by simpa using h1⟩
    cases j with
    | zero => simp only [S1.cells, List.getElem?_cons_zero, Option.some.injEq] at hj; subst hj; exact hg
    | succ j => simp [S1.cells] at hj
  | agg l =>
    obtain ⟨c, rfl, hl⟩ := hg
    refine ⟨hl, fun u hu => ?_⟩
    simp only [Value.cells] at hu
    obtain ⟨j, hj, rfl⟩ := List.getElem_of_mem hu
    have hj' : j < l.length := by rw [← hl.1]; simpa using hj
    have hg := hl.2 j _ (List.getElem?_eq_getElem hj')
    have hsol : solid x.H l[j] = true := by
      simp only [S1.cells, List.all_eq_true] at h
      exact h _ (List.getElem_mem hj')
    have := (solid_ok hs hsol hg).1
    simpa [show j < c.size by simpa using hj] using this

end
end Glx
namespace Glx
open Go

section
variable {x : Env} {w0 : World} {M : Nat → Prop}

/-- a new variable -/
theorem new_cells (hs : Sat x w0 M) {k : Nat} (hk : look x.H k = .unborn) {T : TypeId} {l : List SV} {c : Array Value} (hl : GL x l c) :
    Sat (x.set k (.pointer (some ⟨x.w.heap.size, 0, none⟩)) (.cells T l false) (x.w.alloc (.cells c T))) w0 M ∧
    Ext x (x.set k (.pointer (some ⟨x.w.heap.size, 0, none⟩)) (.cells T l false) (x.w.alloc (.cells c T))) ∧
    G (x.set k (.pointer (some ⟨x.w.heap.size, 0, none⟩)) (.cells T l false) (x.w.alloc (.cells c T))) (.ptr k 0) (.pointer (some ⟨x.w.heap.size, 0, none⟩)) := by
  have hblk : ∀ b, b < x.w.heap.size → ((look x.H k).loose = true → blkOf (x.ν k) ≠ some b) → (x.w.alloc (.cells c T)).heap[b]? = x.w.heap[b]? := fun b hb _ => heap_alloc_old x.w _ b hb
  have he := step_ext (pv := .pointer (some ⟨x.w.heap.size, 0, none⟩)) (ob := .cells T l false) (w' := x.w.alloc (.cells c T)) hs (.inl hk) (fun _ _ _ _ h => absurd hk h) (fun _ _ _ _ h => absurd hk h) rfl hblk
  refine ⟨step_sat hs he (.inl hk) ⟨rfl, rfl, rfl, by simp⟩ hblk (fun b _ h => .inr (by cases h; exact Nat.le_refl _)) ?_, he, ?_⟩
  · refine ⟨x.w.heap.size, c, by simp [Env.set], heap_alloc_new x.w _, hl.ext he, (fun h => by cases h), fun _ h => ?_⟩
    exact Nat.lt_irrefl _ (hs.ibound _ h)
  · refine ⟨by simp [Env.set, look_put, SObj.born], fun T' l' fz' _ => ⟨x.w.heap.size, by simp [Env.set], rfl⟩⟩

/-- a new slice of the walk's own -/
theorem new_row (hs : Sat x w0 M) {k : Nat} (hk : look x.H k = .unborn) {T : TypeId} {ts : List LTy} (hts : tys x.P T = some ts) {e : Ex} (hsc : e.sc x.e.length = true) {v : Value} {w' : World} {n : Nat} {xs : List Value}
    (hown : w'.ownsRow 0 T ts.length v n xs) (hgrow : x.w.grownBy w' none) (hnew : ∀ b, v.ownBlock = some b → x.w.heap.size ≤ b) (hn : (e.den x.e).rows.length = n)
    (hrd : RdRows x.P x.I x.w.heap ts xs (e.den x.e).rows) :
    Sat (x.set k v (.row T e 0) w') w0 M ∧ Ext x (x.set k v (.row T e 0) w') ∧ G (x.set k v (.row T e 0) w') (.own k 0) v := by
  have hblk : ∀ b, b < x.w.heap.size → ((look x.H k).loose = true → blkOf (x.ν k) ≠ some b) → w'.heap[b]? = x.w.heap[b]? := fun b hb _ => hgrow.block b hb (by simp)
  have he := step_ext (pv := v) (ob := .row T e 0) (w' := w') hs (.inl hk) (fun _ _ _ _ h => absurd hk h) (fun _ _ _ _ h => absurd hk h) rfl hblk
  refine ⟨step_sat hs he (.inl hk) ⟨hgrow.os, hgrow.tape, hgrow.output, hgrow.size⟩ hblk (fun b _ h => .inr ?_) ?_, he, ?_⟩
  · rcases hown.2 with ⟨rfl, _⟩ | ⟨g, cap, cur, rfl, _⟩
    · cases h
    · cases h; exact hnew _ rfl
  · refine ⟨he.sc hsc, ts, n, xs, hts, by simpa [Env.set] using hown, by rw [he.den hsc]; exact hn, ?_, fun b hb hi => ?_⟩
    · rw [he.den hsc]
      exact hrd.mono he.I he.heap
    · simp only [Env.set, if_true] at hb
      have := hnew b hb
      have := hs.ibound b hi
      omega
  · refine ⟨by simp [Env.set, look_put, SObj.born], fun T' e' u' h => ?_⟩
    simp only [Env.set, look_put, if_true, SObj.row.injEq] at h
    obtain ⟨_, _, rfl⟩ := h
    exact ⟨Nat.le_refl _, fun _ => by simp [Env.set]⟩

/-- a slice of the walk's own, turned -/
theorem mod_row (hs : Sat x w0 M) {o : Nat} {T : TypeId} {e0 : Ex} {u0 u : Nat} (ho : look x.H o = .row T e0 u0) {ts : List LTy} (hts : tys x.P T = some ts) {e : Ex} (hsc : e.sc x.e.length = true) {v : Value} {w' : World} {n : Nat} {xs : List Value}
    (hown : w'.ownsRow 0 T ts.length v n xs) (hgrow : x.w.grownBy w' (x.ν o).ownBlock) (hnew : ∀ b, v.ownBlock = some b → (x.ν o).ownBlock = some b ∨ x.w.heap.size ≤ b) (hn : (e.den x.e).rows.length = n)
    (hu : u0 ≤ u) (huv : u = u0 → v = x.ν o) (hrd : RdRows x.P x.I x.w.heap ts xs (e.den x.e).rows) :
    Sat (x.set o v (.row T e u) w') w0 M ∧ Ext x (x.set o v (.row T e u) w') ∧ G (x.set o v (.row T e u) w') (.own o u) v := by
  have hloose : (look x.H o).loose = true := by rw [ho]; rfl
  have hold := hs.objs o
  rw [ho] at hold
  obtain ⟨_, ts0, n0, xs0, hts0, hown0, _, _, hnI⟩ := hold
  have hbo : ∀ b, (x.ν o).ownBlock = some b ↔ blkOf (x.ν o) = some b := by
    intro b
    rcases hown0.2 with ⟨h6, _⟩ | ⟨g, cap, cur, h6, _⟩ <;> rw [h6] <;> simp [Value.ownBlock, blkOf]
  have hblk : ∀ b, b < x.w.heap.size → ((look x.H o).loose = true → blkOf (x.ν o) ≠ some b) → w'.heap[b]? = x.w.heap[b]? := fun b hb h => hgrow.block b hb (fun h' => h hloose ((hbo b).1 h'.symm))
  have he := step_ext (pv := v) (ob := .row T e u) (w' := w') hs (.inr hloose) (fun _ _ _ h => by cases h) (fun T' e' u' h _ => by
    simp only [SObj.row.injEq] at h
    obtain ⟨rfl, rfl, rfl⟩ := h
    exact ⟨e0, u0, ho, hu, huv⟩) rfl hblk
  refine ⟨step_sat hs he (.inr hloose) ⟨hgrow.os, hgrow.tape, hgrow.output, hgrow.size⟩ hblk (fun b _ h => ?_) ?_, he, ?_⟩
  · have : v.ownBlock = some b := by
      rcases hown.2 with ⟨rfl, _⟩ | ⟨g, cap, cur, rfl, _⟩
      · cases h
      · cases h; rfl
    rcases hnew b this with h1 | h1
    · exact .inl ⟨hloose, (hbo b).1 h1⟩
    · exact .inr h1
  · refine ⟨he.sc hsc, ts, n, xs, hts, by simpa [Env.set] using hown, by rw [he.den hsc]; exact hn, ?_, fun b hb hi => ?_⟩
    · rw [he.den hsc]
      exact hrd.mono he.I he.heap
    · simp only [Env.set, if_true] at hb
      rcases hnew b hb with h1 | h1
      · exact hnI b h1 hi
      · have := hs.ibound b hi
        omega
  · refine ⟨by simp [Env.set, look_put, SObj.born], fun T' e' u' h => ?_⟩
    simp only [Env.set, look_put, if_true, SObj.row.injEq] at h
    obtain ⟨_, _, rfl⟩ := h
    exact ⟨Nat.le_refl _, fun _ => by simp [Env.set]⟩

/-! ### New variables -/
theorem box_ok (hs : Sat x w0 M) {k : Nat} (hk : look x.H k = .unborn) {T : TypeId} {s : S1} (hsol : s.cells.all (solid x.H) = true) {v : Value} (hg : G1 x s v) :
    ∃ u w', (Instr.box T v).run x.P x.w = .ok u w' ∧ Sat (x.set k u (.cells T s.cells false) w') w0 M ∧ Ext x (x.set k u (.cells T s.cells false) w') ∧ G (x.set k u (.cells T s.cells false) w') (.ptr k 0) u := by
  obtain ⟨h1, _⟩ := cells_ok hs hsol hg
  obtain ⟨a, b, c⟩ := new_cells (T := T) hs hk h1
  exact ⟨_, _, by simp [Instr.box, newVar, newRow], a, b, c⟩

theorem alloc_ok (hs : Sat x w0 M) {k : Nat} (hk : look x.H k = .unborn) {T : TypeId} {inf : TypeInfo} (hi : x.P.info? T = some inf) {z : Value} (hz : inf.zero = some z) {s : S1} (hzs : constS1 z = some s)
    (hsol : s.cells.all (solid x.H) = true) :
    ∃ u w', (Instr.alloc T true (.tuple #[])).run x.P x.w = .ok u w' ∧ Sat (x.set k u (.cells T s.cells false) w') w0 M ∧ Ext x (x.set k u (.cells T s.cells false) w') ∧ G (x.set k u (.cells T s.cells false) w') (.ptr k 0) u := by
  obtain ⟨h1, _⟩ := cells_ok hs hsol (constS1_ok (x := x) hzs)
  obtain ⟨a, b, c⟩ := new_cells (T := T) hs hk h1
  exact ⟨_, _, by simp [Instr.alloc, zeroValue, typeInfo, hi, hz, newVar, newRow], a, b, c⟩

/-! ### Stores -/
theorem run_store_cells {P : Program} {w : World} {b off : Nat} {c : Array Value} {E : TypeId} (hb : w.heap[b]? = some (.cells c E (0, 0))) {t : TypeId} {inf : TypeInfo} (hi : P.info? t = some inf) {v : Value}
    (hn : v.cells.size = inf.size) (hfit : off + inf.size ≤ c.size) (h1 : ∀ u ∈ v.cells.toList, u.oneCell' = true) :
    (Instr.storeAt t (.pointer (some ⟨b, off, none⟩)) v).run P w = .ok () (w.setRow b (c.toList.take off ++ v.cells.toList ++ c.toList.drop (off + v.cells.toList.length)).toArray) := by
  have := run_storeCells_at P b off E v.cells.toList 0 c w hb (by simp; omega) h1
  simp only [Nat.add_zero] at this
  simp [Instr.storeAt, Instr.sureAddr, storeVar, run_sizeOf' hi, hn, this]

theorem take_mid {α : Type} {l m : List α} {off j : Nat} (d : α) (h : off + m.length ≤ l.length) :
    (l.take off ++ m ++ l.drop (off + m.length)).getD j d = if j < off then l.getD j d else if j < off + m.length then m.getD (j - off) d else l.getD j d := by
  simp only [List.getD_eq_getElem?_getD, List.append_assoc]
  by_cases h1 : j < off
  · rw [if_pos h1, List.getElem?_append_left (by simp; omega), List.getElem?_take, if_pos h1]
  · rw [if_neg h1, List.getElem?_append_right (by simp; omega)]
    simp only [List.length_take, Nat.min_eq_left (show off ≤ l.length by omega)]
    by_cases h2 : j < off + m.length
    · rw [if_pos h2, List.getElem?_append_left (by omega)]
    · rw [if_neg h2, List.getElem?_append_right (by omega), List.getElem?_drop]
      congr 2
      omega

theorem store_cells_ok (hs : Sat x w0 M) {o off : Nat} {T : TypeId} {l : List SV} (hl : look x.H o = .cells T l false) {t : TypeId} {inf : TypeInfo} (hi : x.P.info? t = some inf) {s : S1}
    (hn : s.cells.length = inf.size) (hfit : off + inf.size ≤ l.length) (hsol : s.cells.all (solid x.H) = true) {va v : Value} (ha : G x (.ptr o off) va) (hg : G1 x s v) :
    ∃ w', (Instr.storeAt t va v).run x.P x.w = .ok () w' ∧ Sat (x.set o (x.ν o) (.cells T (l.take off ++ s.cells ++ l.drop (off + inf.size)) false) w') w0 M ∧
      Ext x (x.set o (x.ν o) (.cells T (l.take off ++ s.cells ++ l.drop (off + inf.size)) false) w') := by
  obtain ⟨b, hb, rfl⟩ := ha.2 T l false hl
  have ho := hs.objs o
  rw [hl] at ho
  obtain ⟨b', c, h1, h2, h3, _, h5⟩ := ho
  have : b = b' := by simp only at hb; rw [h1] at hb; simpa using hb.symm
  subst this
  obtain ⟨g1, g2⟩ := cells_ok hs hsol hg
  have hvn : v.cells.size = inf.size := by rw [g1.1, hn]
  have hrun := run_store_cells (P := x.P) h2 (t := t) hi hvn (by rw [h3.1]; exact hfit) g2
  have hloose : (look x.H o).loose = true := by rw [hl]; rfl
  have hblk : ∀ b', b' < x.w.heap.size → ((look x.H o).loose = true → blkOf (x.ν o) ≠ some b') →
      (x.w.setRow b (c.toList.take off ++ v.cells.toList ++ c.toList.drop (off + v.cells.toList.length)).toArray).heap[b']? = x.w.heap[b']? := fun b' _ h => setRow_other _ _ _ _ (fun hbb => h hloose (by rw [h1, hbb]; rfl))
  have he := step_ext (pv := x.ν o) (ob := .cells T (l.take off ++ s.cells ++ l.drop (off + inf.size)) false) hs (.inr hloose) (fun T' l' fz' h _ => by
    simp only [SObj.cells.injEq] at h
    obtain ⟨rfl, rfl, rfl⟩ := h
    exact ⟨⟨l, false, hl⟩, rfl⟩) (fun _ _ _ h => by cases h) rfl hblk
  refine ⟨_, hrun, step_sat hs he (.inr hloose) ⟨rfl, rfl, rfl, by simp [World.setRow]⟩ hblk (fun b' _ h => .inl ⟨hloose, h⟩) ?_, he⟩
  refine ⟨b, _, by simpa [Env.set] using h1, setRow_heap x.w b c _ T (0, 0) h2, ⟨?_, fun j q hj => ?_⟩, (fun h => by cases h), fun _ => h5 rfl⟩
  · simp only [List.size_toArray, List.length_append, List.length_take, List.length_drop, Array.length_toList, h3.1, hvn, hn]
  · refine G.ext he ?_
    have hjl : j < l.length := by
      have := (List.getElem?_eq_some_iff.1 hj).1
      simp only [List.length_append, List.length_take, List.length_drop, hn] at this
      omega
    have e1 : (c.toList.take off ++ v.cells.toList ++ c.toList.drop (off + v.cells.toList.length)).toArray.getD j undef =
        (c.toList.take off ++ v.cells.toList ++ c.toList.drop (off + v.cells.toList.length)).getD j undef := by simp [Array.getD_eq_getD_getElem?, List.getD_eq_getElem?_getD]
    rw [e1, take_mid undef (by simp [h3.1, hvn]; omega)]
    have e2 := take_mid (l := l) (m := s.cells) (off := off) (j := j) SV.top (by omega)
    rw [hn, List.getD_eq_getElem?_getD, hj] at e2
    simp only [Option.getD_some] at e2
    simp only [Array.length_toList, hvn]
    subst e2
    split
    · have := h3.2 j _ (List.getElem?_eq_getElem hjl)
      simpa [hjl, Array.getD_eq_getD_getElem?, List.getD_eq_getElem?_getD] using this
    · split
      · rename_i h6 h7
        have hjs : j - off < s.cells.length := by omega
        have := g1.2 (j - off) _ (List.getElem?_eq_getElem hjs)
        simpa [hjs, Array.getD_eq_getD_getElem?, List.getD_eq_getElem?_getD] using this
      · have := h3.2 j _ (List.getElem?_eq_getElem hjl)
        simpa [hjl, Array.getD_eq_getD_getElem?, List.getD_eq_getElem?_getD] using this

end
end Glx
