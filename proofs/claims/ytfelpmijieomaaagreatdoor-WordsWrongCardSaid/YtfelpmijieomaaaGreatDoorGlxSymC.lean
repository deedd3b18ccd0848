/- Equality of structs in the picture; conversions. -/
import Derived.Test.YtfelpmijieomaaaGreatDoorGlxSymB
namespace Glx
open Go

def mkBoth (a b : Ex) : Ex := if b = .blit true then a else .both a b
theorem mkBoth_den (e : List D) (a b : Ex) : ((mkBoth a b).den e).bool = ((a.den e).bool && (b.den e).bool) := by
  unfold mkBoth
  split
  · rename_i h; subst h; simp [Ex.den]
  · rfl
theorem mkBoth_sc {n : Nat} {a b : Ex} (ha : a.sc n = true) (hb : b.sc n = true) : (mkBoth a b).sc n = true := by
  unfold mkBoth
  split
  · exact ha
  · simp [Ex.sc, ha, hb]

def eq1 : LTy → Ex → Ex → Option Ex
  | .int _, a, b => some (mkCmp .eql a b)
  | .bool, a, b => some (.beq a b)
  | .str, a, b => some (.scmp .eql a b)
  | .sl _, _, _ => none

def eqEx : List LTy → List SV → List SV → Option Ex
  | [], [], [] => some (.blit true)
  | t :: ts, a :: as, b :: bs => (toData t a).bind fun ea => (toData t b).bind fun eb => (eq1 t ea eb).bind fun e => (eqEx ts as bs).map (mkBoth e)
  | _, _, _ => none

section
variable {x : Env}

theorem GL.cons {a : SV} {as : List SV} {c : List Value} (h : GL x (a :: as) c.toArray) : ∃ v c', c = v :: c' ∧ G x a v ∧ GL x as c'.toArray := by
  cases c with
  | nil => have := h.1; simp at this
  | cons v c' =>
    refine ⟨v, c', rfl, ?_, by simpa using h.1, fun j s hj => ?_⟩
    · simpa using h.2 0 a rfl
    · simpa using h.2 (j + 1) s (by simpa using hj)

theorem eqEx_ok : ∀ {ts : List LTy} {as bs : List SV} {e : Ex}, eqEx ts as bs = some e → ∀ {c1 c2 : List Value}, GL x as c1.toArray → GL x bs c2.toArray →
    e.sc x.e.length = true ∧ (e.den x.e).bool = eqB c1 c2 ∧ TyL ts c1 ∧ TyL ts c2
  | [], [], [], e, h, c1, c2, h1, h2 => by
    simp only [eqEx, Option.some.injEq] at h
    subst h
    have e1 : c1 = [] := List.eq_nil_of_length_eq_zero (by simpa using h1.1)
    have e2 : c2 = [] := List.eq_nil_of_length_eq_zero (by simpa using h2.1)
    subst e1 e2
    exact ⟨rfl, rfl, trivial, trivial⟩
  | t :: ts, a :: as, b :: bs, e, h, c1, c2, h1, h2 => by
    simp only [eqEx] at h
    obtain ⟨ea, p1, h⟩ := Option.bind_eq_some_iff.1 h
    obtain ⟨eb, p2, h⟩ := Option.bind_eq_some_iff.1 h
    obtain ⟨e0, p3, h⟩ := Option.bind_eq_some_iff.1 h
    obtain ⟨er, p4, rfl⟩ := Option.map_eq_some_iff.1 h
    obtain ⟨u, c1', rfl, g1, r1⟩ := h1.cons
    obtain ⟨v, c2', rfl, g2, r2⟩ := h2.cons
    obtain ⟨q1, q2, q3, q4⟩ := eqEx_ok p4 r1 r2
    obtain ⟨s1, d1⟩ := toData_ok p1 g1
    obtain ⟨s2, d2⟩ := toData_ok p2 g2
    have : e0.sc x.e.length = true ∧ (e0.den x.e).bool = valEq u v ∧ Ty1 t u ∧ Ty1 t v := by
      cases t with
      | int k =>
        cases p3
        cases d1
        cases d2
        exact ⟨mkCmp_sc s1 s2, by rw [mkCmp_den]; rfl, ⟨_, rfl⟩, ⟨_, rfl⟩⟩
      | bool =>
        cases p3
        cases d1
        cases d2
        exact ⟨by simp [Ex.sc, s1, s2], rfl, ⟨_, rfl⟩, ⟨_, rfl⟩⟩
      | str =>
        cases p3
        cases d1
        cases d2
        exact ⟨by simp [Ex.sc, s1, s2], rfl, ⟨_, rfl⟩, ⟨_, rfl⟩⟩
      | sl T => cases p3
    obtain ⟨t1, t2, t3, t4⟩ := this
    exact ⟨mkBoth_sc t1 q1, by rw [mkBoth_den, t2, q2]; rfl, ⟨t3, q3⟩, ⟨t4, q4⟩⟩
  | [], [], _ :: _, _, h, _, _, _, _ => by simp [eqEx] at h
  | [], _ :: _, _, _, h, _, _, _, _ => by simp [eqEx] at h
  | _ :: _, [], _, _, h, _, _, _, _ => by simp [eqEx] at h
  | _ :: _, _ :: _, [], _, h, _, _, _, _ => by simp [eqEx] at h

def symEq (P : Program) (op : BinOp) (t : TypeId) (a b : List SV) : Option SV :=
  if P.eqGuardType P.depth t = true ∨ isRow P t ≠ some true then none else
  (eqTy P 40 t).bind fun ts => (eqEx ts a b).bind fun e => match op with
    | .eql => some (.bool e)
    | .neq => some (.bool (mkNo e))
    | _ => none

theorem symEq_ok {op : BinOp} {t : TypeId} {a b : List SV} {r : SV} (h : symEq x.P op t a b = some r) {c1 c2 : Array Value} (h1 : GL x a c1) (h2 : GL x b c2) (xo yo : Operand) (w : World) :
    (eqGuard op t xo yo (.agg c1) (.agg c2)).run x.P w = .ok () w ∧ ∃ v, (binOp op t (.agg c1) (.agg c2)).run x.P w = .ok v w ∧ G x r v := by
  unfold symEq at h
  split at h
  · cases h
  · rename_i hg
    simp only [not_or, Bool.not_eq_true, Decidable.not_not] at hg
    obtain ⟨ts, hts, h⟩ := Option.bind_eq_some_iff.1 h
    obtain ⟨e, he, h⟩ := Option.bind_eq_some_iff.1 h
    refine ⟨run_eqGuard_agg w op t xo yo c1 c2 hg.1, ?_⟩
    obtain ⟨q1, q2, q3, q4⟩ := eqEx_ok he (c1 := c1.toList) (c2 := c2.toList) (by simpa using h1) (by simpa using h2)
    have hrun := run_eqTy 40 t ts hts 9960 w c1.toList c2.toList (.agg c1) (.agg c2) q3 q4 (.inl ⟨hg.2, by simp⟩) (.inl ⟨hg.2, by simp⟩)
    split at h
    · cases h
      exact ⟨_, by rw [run_eql_struct, hrun]; rfl, q1, by rw [q2]⟩
    · cases h
      exact ⟨_, by rw [run_neq_struct, hrun]; rfl, by rw [mkNo_sc]; exact q1, by rw [mkNo_den, q2]⟩
    · cases h

/-! ### Conversions -/
def mkConv (k : IntKind) : Ex → Ex
  | .ilit n => .ilit (k.wrap n)
  | e => .conv k e
theorem mkConv_den (e : List D) (k : IntKind) (y : Ex) : ((mkConv k y).den e).int = k.wrap (y.den e).int := by cases y <;> rfl
theorem mkConv_sc (n : Nat) (k : IntKind) (y : Ex) : (mkConv k y).sc n = y.sc n := by cases y <;> rfl

/-- a slice's data, where it is read on the spot -/
def borrow (H : List SObj) : SV → Option (TypeId × Ex)
  | .sl T e => some (T, e)
  | .own o ver => match look H o with
    | .row T e u => if u = ver then some (T, e) else none
    | _ => none
  | _ => none

/-- what a borrowed slice reads as, its own block let in -/
theorem borrow_ok {w0 : World} {M : Nat → Prop} (hs : Sat x w0 M) {s : SV} {T : TypeId} {e : Ex} (h : borrow x.H s = some (T, e)) {v : Value} (hg : G x s v) :
    e.sc x.e.length = true ∧ Rd x.P (fun b => x.I b ∨ blkOf v = some b) x.w.heap (.sl T) v (e.den x.e) := by
  cases s with
  | sl T' e' => cases h; exact ⟨hg.1, hg.2.mono (fun _ => .inl) fun _ _ => rfl⟩
  | own o ver =>
    simp only [borrow] at h
    split at h
    · rename_i T' e' u hl
      simp only [Option.ite_none_right_eq_some, Option.some.injEq, Prod.mk.injEq] at h
      obtain ⟨hu, rfl, rfl⟩ := h
      have hv := (hg.2 _ _ u hl).2 hu
      have ho := hs.objs o
      rw [hl] at ho
      obtain ⟨hsc, ts, n, xs, h1, h2, h3, h4, _⟩ := ho
      refine ⟨hsc, ?_⟩
      rw [← hv] at h2
      rcases h2.2 with ⟨rfl, h6⟩ | ⟨g, cap, cur, rfl, _, h7, h8, _, h10, h11⟩
      · exact .nil (List.eq_nil_of_length_eq_zero (by omega))
      · refine .row h1 (.inr rfl) h7 h3 h8 (by rw [Nat.zero_add, h10]; exact Nat.mul_le_mul_right _ h8) h4.1 fun i j t hi ht => ?_
        have := (h4.2 i j t (by omega) ht).mono (I' := fun b => x.I b ∨ blkOf (.slice (some ⟨g, 0, none⟩) n cap) = some b) (h' := x.w.heap) (fun _ => .inl) fun _ _ => rfl
        have hx : xs.getD (i * ts.length + j) undef = cur.getD (0 + i * ts.length + j) undef := by
          have hj := (List.getElem?_eq_some_iff.1 ht).1
          have hmul : (i + 1) * ts.length ≤ n * ts.length := Nat.mul_le_mul_right _ hi
          rw [Nat.add_mul, Nat.one_mul] at hmul
          rw [← h11]
          simp only [List.getD_eq_getElem?_getD, List.getElem?_take, if_pos (show i * ts.length + j < n * ts.length by omega), Array.getElem?_toList, Array.getD_eq_getD_getElem?, Nat.zero_add]
        rwa [hx] at this
    · cases h
  | _ => cases h

def symConv (P : Program) (H : List SObj) (src dst : TypeId) (s : SV) : Option SV :=
  match P.underlying src, P.underlying dst, s with
  | some _, some (.int k), .int _ e => some (.int k (mkConv k e))
  | some .string, some .string, .str e => some (.str e)
  | some (.slice E), some .string, s => (borrow H s).bind fun (T, e) => if T = E ∧ tys P T = some [.int .u8] ∧ (match P.underlying E with | some (.int .u8) => true | _ => false) = true then some (.str (.text e)) else none
  | _, _, _ => none

theorem symConv_ok {w0 : World} {M : Nat → Prop} (hs : Sat x w0 M) {src dst : TypeId} {s r : SV} (h : symConv x.P x.H src dst s = some r) {v : Value} (hg : G x s v) :
    ∃ u, (convert src dst v).run x.P x.w = .ok u x.w ∧ G x r u := by
  unfold symConv at h
  split at h
  · rename_i d k _ e hsrc hdst
    cases h
    obtain ⟨h1, rfl⟩ := hg
    refine ⟨.int k (k.wrap (e.den x.e).int), ?_, by rw [mkConv_sc]; exact h1, by rw [mkConv_den]⟩
    simp [convert, run_underlying hsrc, run_underlying hdst, Conv.intToInt]
  · rename_i e hsrc hdst
    cases h
    obtain ⟨h1, rfl⟩ := hg
    exact ⟨_, by simp [convert, run_underlying hsrc, run_underlying hdst], h1, rfl⟩
  · rename_i E hsrc hdst
    obtain ⟨⟨T, e⟩, hb, h⟩ := Option.bind_eq_some_iff.1 h
    simp only [Option.ite_none_right_eq_some, Option.some.injEq] at h
    obtain ⟨⟨rfl, hts, hu8⟩, rfl⟩ := h
    obtain ⟨hsc, hrd⟩ := borrow_ok hs hb hg
    have hE : x.P.underlying T = some (.int .u8) := by
      split at hu8
      · assumption
      · cases hu8
    refine ⟨.string (textOf (e.den x.e).rows), ?_, hsc, rfl⟩
    cases hrd with
    | nil h0 =>
      rw [run_convert_bytes_nil x.w src T hsrc hE 0 0 dst hdst, h0]
      rfl
    | row k1 k2 k3 k4 k5 k6 k7 k8 =>
      rename_i ts b off n cap c E fz
      rw [hts] at k1
      cases k1
      have := run_convert_bytes_arg (P := x.P) x.w src T hsrc hE b off n cap ((e.den x.e).rows.map fun r => (r.getD 0 default).int) (by simpa using k4) (fun i hi => by
        have h9 := k8 i 0 (.int .u8) hi rfl
        simp only [List.length_singleton, Nat.mul_one, Nat.add_zero] at h9 k6
        rw [cell_of_row x.w b (off + i) c E fz k3]
        have hlt : off + i < c.size := by omega
        have hlr : i < (e.den x.e).rows.length := by omega
        simp only [Array.getElem?_eq_getElem hlt]
        simp only [Array.getD_eq_getD_getElem?, Array.getElem?_eq_getElem hlt, Option.getD_some] at h9
        generalize c[off + i] = q at h9 ⊢
        cases h9
        simp [hlr]) dst hdst
      rw [this]
      simp [strOfNums, textOf, Function.comp_def]
  · cases h

end
end Glx
