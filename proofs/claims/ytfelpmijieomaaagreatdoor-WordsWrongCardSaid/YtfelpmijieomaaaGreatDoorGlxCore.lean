/- A small functional language of terms over plain data, what a term means, and that its meaning is what a run of it gives. -/
import GoSem.Claim
namespace Glx
open Go

/-- plain data: numbers, bools, strings, rows of cells (a slice), one row -/
inductive D where
  | i (n : Int)
  | b (x : Bool)
  | s (x : ByteArray)
  | l (rows : List (List D))
  | r (cells : List D)

instance : Inhabited D := ⟨.i 0⟩

def D.int : D → Int | .i n => n | _ => 0
def D.bool : D → Bool | .b x => x | _ => false
def D.str : D → ByteArray | .s x => x | _ => .empty
def D.rows : D → List (List D) | .l x => x | _ => []
def D.cells : D → List D | .r x => x | _ => []

@[simp] theorem D.int_i (n : Int) : (D.i n).int = n := rfl
@[simp] theorem D.bool_b (x : Bool) : (D.b x).bool = x := rfl
@[simp] theorem D.str_s (x : ByteArray) : (D.s x).str = x := rfl
@[simp] theorem D.rows_l (x : List (List D)) : (D.l x).rows = x := rfl
@[simp] theorem D.cells_r (x : List D) : (D.r x).cells = x := rfl

/-- arithmetic of two whole numbers, as the model has it (the divisor is not 0, the shift's count is not below 0) -/
def arith (op : BinOp) (k : IntKind) (x y : Int) : Int :=
  match op with
  | .add => k.wrap (x + y)
  | .sub => k.wrap (x - y)
  | .mul => k.wrap (x * y)
  | .quo => k.wrap (x.tdiv y)
  | .rem => x.tmod y
  | .and => k.wrap (BitVec.ofInt k.bits x &&& BitVec.ofInt k.bits y).toNat
  | .or => k.wrap (BitVec.ofInt k.bits x ||| BitVec.ofInt k.bits y).toNat
  | .xor => k.wrap (BitVec.ofInt k.bits x ^^^ BitVec.ofInt k.bits y).toNat
  | .andNot => k.wrap (BitVec.ofInt k.bits x &&& ~~~ BitVec.ofInt k.bits y).toNat
  | .shl => k.wrap (x * 2 ^ (min y.toNat k.bits))
  | .shr => x.fdiv (2 ^ (min y.toNat k.bits))
  | _ => 0

def compare (op : BinOp) (x y : Int) : Bool :=
  match op with
  | .eql => x == y
  | .neq => x != y
  | .lss => decide (x < y)
  | .leq => decide (x ≤ y)
  | .gtr => decide (x > y)
  | .geq => decide (x ≥ y)
  | _ => false

theorem leq_of {x y : Int} (h : compare .leq x y = true) : x ≤ y := of_decide_eq_true h
theorem lss_of {x y : Int} (h : compare .lss x y = true) : x < y := of_decide_eq_true h
theorem neq_of {x y : Int} (h : compare .neq x y = true) : x ≠ y := bne_iff_ne.1 h

def sless (x y : ByteArray) : Bool := Op.bytesLess x.toList y.toList
def sequal (x y : ByteArray) : Bool := x.toList == y.toList

def scompare (op : BinOp) (x y : ByteArray) : Bool :=
  match op with
  | .eql => sequal x y
  | .neq => !sequal x y
  | .lss => sless x y
  | .leq => sless x y || sequal x y
  | .gtr => !(sless x y || sequal x y)
  | .geq => !sless x y
  | _ => false

/-- expressions over numbered variables -/
inductive Ex where
  | var (i : Nat)
  | ilit (n : Int)
  | blit (x : Bool)
  | slit (x : List UInt8)
  | bin (op : BinOp) (k : IntKind) (a b : Ex)
  | cmp (op : BinOp) (a b : Ex)
  | scmp (op : BinOp) (a b : Ex)
  | scat (a b : Ex)
  | no (a : Ex)
  | both (a b : Ex)
  | one (a b : Ex)
  | beq (a b : Ex)
  | ite (c a b : Ex)
  | conv (k : IntKind) (a : Ex)
  | len (a : Ex)
  | slen (a : Ex)
  | byte (a i : Ex)
  | ssub (a lo hi : Ex)
  | cell (l i : Ex) (j : Nat)
  | sub (l lo hi : Ex)
  | app (l m : Ex)
  | nil
  | row (r : Ex)
  | rnil
  | rcons (x r : Ex)
  | upd (l i : Ex) (j : Nat) (v : Ex)
  | rep (n r : Ex)
  | bytes (a : Ex)
  | text (a : Ex)
  deriving DecidableEq

def bytesOf (s : ByteArray) : List (List D) := s.data.toList.map fun c => [D.i c.toNat]
def textOf (l : List (List D)) : ByteArray := ⟨(l.map fun r => UInt8.ofNat (r.getD 0 default).int.toNat).toArray⟩
def byteAt (s : ByteArray) (i : Int) : Int := ((s.data.toList.getD i.toNat 0).toNat : Int)
def cellAt (l : List (List D)) (i : Int) (j : Nat) : D := (l.getD i.toNat []).getD j default
def cut (l : List (List D)) (lo hi : Int) : List (List D) := (l.take hi.toNat).drop lo.toNat
def setAt (l : List (List D)) (i : Int) (j : Nat) (v : D) : List (List D) := l.set i.toNat ((l.getD i.toNat []).set j v)
def scut (s : ByteArray) (lo hi : Int) : ByteArray := s.extract lo.toNat hi.toNat

def Ex.den (e : List D) : Ex → D
  | .var i => e.getD i default
  | .ilit n => .i n
  | .blit x => .b x
  | .slit x => .s ⟨x.toArray⟩
  | .bin op k a b => .i (arith op k (a.den e).int (b.den e).int)
  | .cmp op a b => .b (compare op (a.den e).int (b.den e).int)
  | .scmp op a b => .b (scompare op (a.den e).str (b.den e).str)
  | .scat a b => .s ((a.den e).str ++ (b.den e).str)
  | .no a => .b (!(a.den e).bool)
  | .both a b => .b ((a.den e).bool && (b.den e).bool)
  | .one a b => .b ((a.den e).bool || (b.den e).bool)
  | .beq a b => .b ((a.den e).bool == (b.den e).bool)
  | .ite c a b => if (c.den e).bool then a.den e else b.den e
  | .conv k a => .i (k.wrap (a.den e).int)
  | .len a => .i ((a.den e).rows.length : Int)
  | .slen a => .i ((a.den e).str.size : Int)
  | .byte a i => .i (byteAt (a.den e).str (i.den e).int)
  | .ssub a lo hi => .s (scut (a.den e).str (lo.den e).int (hi.den e).int)
  | .cell l i j => cellAt (l.den e).rows (i.den e).int j
  | .sub l lo hi => .l (cut (l.den e).rows (lo.den e).int (hi.den e).int)
  | .app l m => .l ((l.den e).rows ++ (m.den e).rows)
  | .nil => .l []
  | .row r => .l [(r.den e).cells]
  | .rnil => .r []
  | .rcons x r => .r (x.den e :: (r.den e).cells)
  | .upd l i j v => .l (setAt (l.den e).rows (i.den e).int j (v.den e))
  | .rep n r => .l (List.replicate (n.den e).int.toNat (r.den e).cells)
  | .bytes a => .l (bytesOf (a.den e).str)
  | .text a => .s (textOf (a.den e).rows)

/-- only variables below n are named -/
def Ex.sc (n : Nat) : Ex → Bool
  | .var i => decide (i < n)
  | .ilit _ | .blit _ | .slit _ | .nil | .rnil => true
  | .bin _ _ a b | .cmp _ a b | .scmp _ a b | .scat a b | .both a b | .one a b | .beq a b | .byte a b | .app a b | .rcons a b | .rep a b => a.sc n && b.sc n
  | .no a | .conv _ a | .len a | .slen a | .row a | .bytes a | .text a => a.sc n
  | .ite a b c | .ssub a b c | .sub a b c | .upd a b _ c => a.sc n && b.sc n && c.sc n
  | .cell a b _ => a.sc n && b.sc n

theorem Ex.sc_mono {n m : Nat} (h : n ≤ m) : ∀ x : Ex, x.sc n = true → x.sc m = true := by
  intro x
  induction x <;> simp_all [Ex.sc] <;> omega

theorem Ex.den_ext (e f : List D) : ∀ x : Ex, x.sc e.length = true → x.den (e ++ f) = x.den e := by
  intro x
  induction x
  case var i =>
    intro h
    have h' : i < e.length := by simpa [Ex.sc] using h
    simp [Ex.den, List.getElem?_append_left h']
  all_goals simp_all [Ex.sc, Ex.den]

/-- terms: a leaf; a jump to a label; a test that must hold; a let; a call; a branch; a piece that goes on at its label; a loop -/
inductive Tm (L : Type) where
  | leaf (x : L)
  | jump (t : Nat) (outs : List Ex)
  | guard (c : Ex) (k : Tm L)
  | letx (x : Ex) (k : Tm L)
  | call (f : Nat) (args : List Ex) (k : Tm L)
  | ite (c : Ex) (a b : Tm L)
  | join (t : Nat) (m k : Tm L)
  | loop (t : Nat) (init : List Ex) (body : Tm L)

inductive Res (L : Type) where
  | leaf (x : L) (e : List D)
  | jump (t : Nat) (ds : List D)

def dens (e : List D) (l : List Ex) : List D := l.map (Ex.den e)

/-- a run of a term (in a loop: at a round's beginning, its state) -/
inductive Run {L : Type} (Φ : Nat → List D → Option (List D)) : Option (List D) → Tm L → List D → Res L → Prop where
  | leaf {x : L} {e : List D} : Run Φ none (.leaf x) e (.leaf x e)
  | jump {t : Nat} {outs : List Ex} {e : List D} : Run Φ none (.jump t outs) e (.jump t (dens e outs))
  | guard {c : Ex} {k : Tm L} {e : List D} {r : Res L} : (c.den e).bool = true → Run Φ none k e r → Run Φ none (.guard c k) e r
  | letx {x : Ex} {k : Tm L} {e : List D} {r : Res L} : Run Φ none k (e ++ [x.den e]) r → Run Φ none (.letx x k) e r
  | call {f : Nat} {args : List Ex} {k : Tm L} {e : List D} {ds : List D} {r : Res L} : Φ f (dens e args) = some ds → Run Φ none k (e ++ ds) r → Run Φ none (.call f args k) e r
  | iteT {c : Ex} {a b : Tm L} {e : List D} {r : Res L} : (c.den e).bool = true → Run Φ none a e r → Run Φ none (.ite c a b) e r
  | iteF {c : Ex} {a b : Tm L} {e : List D} {r : Res L} : (c.den e).bool = false → Run Φ none b e r → Run Φ none (.ite c a b) e r
  | joinL {t : Nat} {m k : Tm L} {e e' : List D} {x : L} : Run Φ none m e (.leaf x e') → Run Φ none (.join t m k) e (.leaf x e')
  | joinO {t u : Nat} {m k : Tm L} {e ds : List D} : u ≠ t → Run Φ none m e (.jump u ds) → Run Φ none (.join t m k) e (.jump u ds)
  | joinJ {t : Nat} {m k : Tm L} {e ds : List D} {r : Res L} : Run Φ none m e (.jump t ds) → Run Φ none k (e ++ ds) r → Run Φ none (.join t m k) e r
  | loop {t : Nat} {init : List Ex} {body : Tm L} {e : List D} {r : Res L} : Run Φ (some (dens e init)) (.loop t init body) e r → Run Φ none (.loop t init body) e r
  | loopL {t : Nat} {init : List Ex} {body : Tm L} {e st e' : List D} {x : L} : Run Φ none body (e ++ st) (.leaf x e') → Run Φ (some st) (.loop t init body) e (.leaf x e')
  | loopO {t u : Nat} {init : List Ex} {body : Tm L} {e st ds : List D} : u ≠ t → Run Φ none body (e ++ st) (.jump u ds) → Run Φ (some st) (.loop t init body) e (.jump u ds)
  | loopJ {t : Nat} {init : List Ex} {body : Tm L} {e st ds : List D} {r : Res L} : Run Φ none body (e ++ st) (.jump t ds) → Run Φ (some ds) (.loop t init body) e r → Run Φ (some st) (.loop t init body) e r

section den
variable {R : Type}

/-- so many rounds -/
def iter (F : (List D → Option R) → List D → Option R) : Nat → List D → Option R
  | 0 => fun _ => none
  | n + 1 => F (iter F n)

open Classical in
/-- rounds till there is an answer -/
noncomputable def fix (F : (List D → Option R) → List D → Option R) (st : List D) : Option R :=
  if h : ∃ n, (iter F n st).isSome = true then iter F h.choose st else none

theorem fix_some {F : (List D → Option R) → List D → Option R} {st : List D} {r : R} (h : fix F st = some r) : ∃ n, iter F n st = some r := by
  unfold fix at h
  split at h
  · exact ⟨_, h⟩
  · cases h

def upd (K : Nat → List D → Option R) (t : Nat) (k : List D → Option R) : Nat → List D → Option R := fun u => if u = t then k else K u

noncomputable def Tm.den {L : Type} (Φ : Nat → List D → Option (List D)) (kl : L → List D → Option R) : Tm L → (Nat → List D → Option R) → List D → Option R
  | .leaf x, _, e => kl x e
  | .jump t outs, K, e => K t (dens e outs)
  | .guard c k, K, e => if (c.den e).bool = true then k.den Φ kl K e else none
  | .letx x k, K, e => k.den Φ kl K (e ++ [x.den e])
  | .call f args k, K, e => (Φ f (dens e args)).bind fun ds => k.den Φ kl K (e ++ ds)
  | .ite c a b, K, e => if (c.den e).bool = true then a.den Φ kl K e else b.den Φ kl K e
  | .join t m k, K, e => m.den Φ kl (upd K t fun ds => k.den Φ kl K (e ++ ds)) e
  | .loop t init body, K, e => fix (fun rec st => body.den Φ kl (upd K t rec) (e ++ st)) (dens e init)

def Ends {L : Type} (kl : L → List D → Option R) (K : Nat → List D → Option R) (r : R) : Res L → Prop
  | .leaf x e => kl x e = some r
  | .jump t ds => K t ds = some r

/-- what a term means, some run of it gives -/
theorem run_of_den {L : Type} {Φ : Nat → List D → Option (List D)} {kl : L → List D → Option R} {r : R} : ∀ (t : Tm L) (K : Nat → List D → Option R) (e : List D),
    t.den Φ kl K e = some r → ∃ x, Run Φ none t e x ∧ Ends kl K r x := by
  intro t
  induction t with
  | leaf x => intro K e h; exact ⟨_, .leaf, h⟩
  | jump t outs => intro K e h; exact ⟨_, .jump, h⟩
  | guard c k ih =>
    intro K e h
    simp only [Tm.den] at h
    split at h
    · rename_i hc
      obtain ⟨x, h1, h2⟩ := ih K e h
      exact ⟨x, .guard hc h1, h2⟩
    · cases h
  | letx x k ih =>
    intro K e h
    obtain ⟨y, h1, h2⟩ := ih K _ h
    exact ⟨y, .letx h1, h2⟩
  | call f args k ih =>
    intro K e h
    simp only [Tm.den] at h
    obtain ⟨ds, h0, h⟩ := Option.bind_eq_some_iff.1 h
    obtain ⟨y, h1, h2⟩ := ih K _ h
    exact ⟨y, .call h0 h1, h2⟩
  | ite c a b iha ihb =>
    intro K e h
    simp only [Tm.den] at h
    split at h
    · rename_i hc
      obtain ⟨x, h1, h2⟩ := iha K e h
      exact ⟨x, .iteT hc h1, h2⟩
    · rename_i hc
      obtain ⟨x, h1, h2⟩ := ihb K e h
      exact ⟨x, .iteF (by simpa using hc) h1, h2⟩
  | join t m k ihm ihk =>
    intro K e h
    obtain ⟨x, h1, h2⟩ := ihm _ e h
    cases x with
    | leaf x e' => exact ⟨_, .joinL h1, h2⟩
    | jump u ds =>
      simp only [Ends, upd] at h2
      by_cases hu : u = t
      · subst hu
        simp only [if_true] at h2
        obtain ⟨y, h3, h4⟩ := ihk K _ h2
        exact ⟨y, .joinJ h1 h3, h4⟩
      · rw [if_neg hu] at h2
        exact ⟨_, .joinO hu h1, h2⟩
  | loop t init body ih =>
    intro K e h
    simp only [Tm.den] at h
    obtain ⟨n, hn⟩ := fix_some h
    have key : ∀ (n : Nat) (st : List D), iter (fun rec st => body.den Φ kl (upd K t rec) (e ++ st)) n st = some r →
        ∃ x, Run Φ (some st) (.loop t init body) e x ∧ Ends kl K r x := by
      intro n
      induction n with
      | zero => intro st h; simp [iter] at h
      | succ n ihn =>
        intro st h
        simp only [iter] at h
        obtain ⟨x, h1, h2⟩ := ih _ _ h
        cases x with
        | leaf x e' => exact ⟨_, .loopL h1, h2⟩
        | jump u ds =>
          simp only [Ends, upd] at h2
          by_cases hu : u = t
          · subst hu
            simp only [if_true] at h2
            obtain ⟨y, h3, h4⟩ := ihn ds h2
            exact ⟨y, .loopJ h1 h3, h4⟩
          · rw [if_neg hu] at h2
            exact ⟨_, .loopO hu h1, h2⟩
    obtain ⟨x, h1, h2⟩ := key n _ hn
    exact ⟨x, .loop h1, h2⟩

end den
end Glx
