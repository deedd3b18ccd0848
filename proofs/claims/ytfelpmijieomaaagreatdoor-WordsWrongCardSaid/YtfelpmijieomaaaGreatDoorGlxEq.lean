/- '==' of structs and arrays of numbers, bools and texts: cell by cell. -/
import Derived.Test.YtfelpmijieomaaaGreatDoorGlxOpC
import Derived.ChangeKeysEq
import Derived.Laws.StructEq
namespace Glx
open Go

mutual
/-- the cells of a type whose values '==' compares cell by cell -/
def eqTy (P : Program) : Nat → TypeId → Option (List LTy)
  | 0, _ => none
  | n + 1, t => match P.underlying t with
    | some (.int k) => some [.int k]
    | some .bool => some [.bool]
    | some .string => some [.str]
    | some (.struct fs) => if P.stoodInHeld t then none else eqFs P n 0 fs.toList
    | some (.array m e) => (eqTy P n e).bind fun l => if (P.info? e).map (·.size) = some l.length ∧ l ≠ [] then some (List.replicate m l).flatten else none
    | _ => none
def eqFs (P : Program) : Nat → Nat → List Field → Option (List LTy)
  | 0, _, _ => none
  | _ + 1, _, [] => some []
  | n + 1, acc, f :: fs => if f.name ≠ "_" ∧ f.offset = acc then
      (eqTy P n f.type).bind fun a => if (P.info? f.type).map (·.size) = some a.length ∧ a ≠ [] then (eqFs P n (acc + a.length) fs).map (a ++ ·) else none
    else none
end

def valEq : Value → Value → Bool
  | .int _ a, .int _ b => a == b
  | .bool a, .bool b => a == b
  | .string a, .string b => a.toList == b.toList
  | _, _ => false

def eqB : List Value → List Value → Bool
  | [], [] => true
  | a :: as, b :: bs => valEq a b && eqB as bs
  | _, _ => false

def Ty1 : LTy → Value → Prop
  | .int k, v => ∃ n, v = .int k n
  | .bool, v => ∃ b, v = .bool b
  | .str, v => ∃ s, v = .string s
  | .sl _, _ => False

def TyL : List LTy → List Value → Prop
  | [], [] => True
  | t :: ts, v :: vs => Ty1 t v ∧ TyL ts vs
  | _, _ => False

theorem TyL.length : ∀ {ts : List LTy} {vs : List Value}, TyL ts vs → ts.length = vs.length
  | [], [], _ => rfl
  | _ :: _, _ :: _, h => by simp [TyL.length h.2]
  | [], _ :: _, h => h.elim
  | _ :: _, [], h => h.elim

theorem TyL.append : ∀ {a b : List LTy} {vs : List Value}, TyL (a ++ b) vs → TyL a (vs.take a.length) ∧ TyL b (vs.drop a.length)
  | [], _, _, h => ⟨by simp [TyL], by simpa using h⟩
  | _ :: a, b, [], h => h.elim
  | _ :: a, b, v :: vs, h => by
    obtain ⟨h1, h2⟩ := TyL.append (a := a) (b := b) h.2
    exact ⟨⟨h.1, h1⟩, h2⟩

theorem eqB_append : ∀ {a b c d : List Value}, a.length = c.length → eqB (a ++ b) (c ++ d) = (eqB a c && eqB b d)
  | [], _, [], _, _ => by simp [eqB]
  | x :: a, b, y :: c, d, h => by
    simp only [List.cons_append, eqB]
    rw [eqB_append (by simpa using h), Bool.and_assoc]
  | [], _, _ :: _, _, h => by simp at h
  | _ :: _, _, [], _, h => by simp at h

/-- a value and its cells -/
def ValOf (P : Program) (t : TypeId) (c : List Value) (v : Value) : Prop := (isRow P t = some true ∧ v = .agg c.toArray) ∨ (isRow P t = some false ∧ c = [v])

theorem run_part' {P : Program} {t : TypeId} {i : TypeInfo} (hi : P.info? t = some i) {b : Bool} (hb : isRow P t = some b) {xs : Array Value} {off : Nat} (hn : off + i.size ≤ xs.size) (h1 : b = false → i.size = 1) (w : World) :
    ∃ v, (part t xs off).run P w = .ok v w ∧ ValOf P t ((xs.toList.drop off).take i.size) v := by
  cases b with
  | true =>
    refine ⟨.agg (xs.extract off (off + i.size)), by simp [part, run_isAgg' hb, run_sizeOf' hi], .inl ⟨hb, ?_⟩⟩
    congr 1
    apply Array.ext'
    rw [Array.toList_extract]
    simp [List.extract]
  | false =>
    have hs := h1 rfl
    have hlt : off < xs.size := by omega
    refine ⟨xs[off], by simp [part, run_isAgg' hb, hlt], .inr ⟨hb, ?_⟩⟩
    rw [hs]
    have hl : off < xs.toList.length := by simpa using hlt
    rw [List.drop_eq_getElem_cons hl]
    simp

theorem isRow_of {P : Program} {t : TypeId} {d : TypeDesc} (h : P.underlying t = some d) : isRow P t = some (rowD d) := by
  simp [isRow, h]

theorem drop_take_drop {α : Type} (l : List α) (a n : Nat) : l.drop (a + n) = (l.drop a).drop n := by rw [List.drop_drop]

mutual
theorem run_eqTy {P : Program} : ∀ (n : Nat) (t : TypeId) (ts : List LTy), eqTy P n t = some ts → ∀ (d : Nat) (w : World) (c1 c2 : List Value) (v1 v2 : Value), TyL ts c1 → TyL ts c2 → ValOf P t c1 v1 → ValOf P t c2 v2 →
    (Op.equalIn (d + n) t v1 v2).run P w = .ok (eqB c1 c2) w
  | 0, _, _, h => by simp [eqTy] at h
  | n + 1, t, ts, h => by
    intro d w c1 c2 v1 v2 h1 h2 h3 h4
    simp only [eqTy] at h
    have scalar : ∀ (l : LTy), ts = [l] → isRow P t = some false → ∃ a b, c1 = [a] ∧ c2 = [b] ∧ v1 = a ∧ v2 = b ∧ Ty1 l a ∧ Ty1 l b := by
      rintro l rfl hr
      rcases h3 with ⟨h5, _⟩ | ⟨_, rfl⟩
      · rw [hr] at h5; cases h5
      · rcases h4 with ⟨h5, _⟩ | ⟨_, rfl⟩
        · rw [hr] at h5; cases h5
        · exact ⟨v1, v2, rfl, rfl, rfl, rfl, h1.1, h2.1⟩
    split at h
    · rename_i k hu
      cases h
      obtain ⟨a, b, rfl, rfl, rfl, rfl, ⟨p, rfl⟩, ⟨q, rfl⟩⟩ := scalar _ rfl (isRow_of hu)
      rw [show d + (n + 1) = (d + n) + 1 from rfl, run_equalIn_int w (d + n) t k k p q hu]
      simp [eqB, valEq]
    · rename_i hu
      cases h
      obtain ⟨a, b, rfl, rfl, rfl, rfl, ⟨p, rfl⟩, ⟨q, rfl⟩⟩ := scalar _ rfl (isRow_of hu)
      rw [show d + (n + 1) = (d + n) + 1 from rfl, run_equalIn_bool' w (d + n) t p q hu]
      simp [eqB, valEq]
    · rename_i hu
      cases h
      obtain ⟨a, b, rfl, rfl, rfl, rfl, ⟨p, rfl⟩, ⟨q, rfl⟩⟩ := scalar _ rfl (isRow_of hu)
      rw [show d + (n + 1) = (d + n) + 1 from rfl, run_equalIn_string w (d + n) t p q hu]
      simp [eqB, valEq]
    · rename_i fs hu
      split at h
      · cases h
      · rename_i hst
        have hr := isRow_of hu
        rcases h3 with ⟨_, rfl⟩ | ⟨h5, _⟩
        · rcases h4 with ⟨_, rfl⟩ | ⟨h5, _⟩
          · have hf : P.fieldsOf t = fs := by simp [Program.fieldsOf, hu]
            rw [show d + (n + 1) = (d + n) + 1 from rfl, run_equalIn_struct w (d + n) t _ _ (by rw [hf]; exact hu) (by simpa using hst), hf]
            have := run_eqFs n 0 fs.toList ts h d w c1 c2 (by simpa using h1) (by simpa using h2)
            simpa using this
          · rw [hr] at h5; cases h5
        · rw [hr] at h5; cases h5
    · rename_i m e hu
      obtain ⟨l, hl, h⟩ := Option.bind_eq_some_iff.1 h
      split at h
      · rename_i hsz
        cases h
        obtain ⟨hsz, hne⟩ := hsz
        have hpos : 0 < l.length := List.length_pos_iff.2 hne
        obtain ⟨i, hi, his⟩ := Option.map_eq_some_iff.1 hsz
        have hr := isRow_of hu
        rcases h3 with ⟨_, rfl⟩ | ⟨h5, _⟩
        · rcases h4 with ⟨_, rfl⟩ | ⟨h5, _⟩
          · rw [show d + (n + 1) = (d + n) + 1 from rfl, run_equalIn_array w (d + n) _ _ hu hi]
            have hce : P.cellsOf e = l.length := by simp [Program.cellsOf, hi, his]
            have hrow : ∃ b, isRow P e = some b ∧ (b = false → i.size = 1) := by
              cases n with
              | zero => simp [eqTy] at hl
              | succ n =>
                simp only [eqTy] at hl
                cases hue : P.underlying e with
                | none => simp [hue] at hl
                | some q =>
                  rw [hue] at hl
                  refine ⟨_, isRow_of hue, ?_⟩
                  rw [his]
                  cases q <;> (try simp at hl) <;> simp [rowD]
                  all_goals (subst hl; rfl)
            obtain ⟨b, hb, hb1⟩ := hrow
            have key : ∀ (m : Nat) (is : List Nat) (k : Nat) (c1 c2 : List Value), is = List.range' k m → TyL (List.replicate m l).flatten (c1.drop (k * l.length)) → TyL (List.replicate m l).flatten (c2.drop (k * l.length)) →
                (Op.eqItems (d + n) e (P.cellsOf e) c1.toArray c2.toArray is).run P w = .ok (eqB (c1.drop (k * l.length)) (c2.drop (k * l.length))) w := by
              intro m
              induction m with
              | zero =>
                intro is k c1 c2 hk h1 h2
                subst hk
                simp only [List.replicate_zero, List.flatten_nil] at h1 h2
                have e1 := TyL.length h1
                have e2 := TyL.length h2
                rw [List.eq_nil_of_length_eq_zero e1.symm, List.eq_nil_of_length_eq_zero e2.symm]
                simp [Op.eqItems, eqB]
              | succ m ih =>
                intro is k c1 c2 hk h1 h2
                subst hk
                rw [List.replicate_succ, List.flatten_cons] at h1 h2
                have g1 := TyL.append h1
                have g2 := TyL.append h2
                have n1 := TyL.length h1
                have n2 := TyL.length h2
                simp only [List.length_append, List.length_drop] at n1 n2
                obtain ⟨p, hp, hpv⟩ := run_part' hi hb (xs := c1.toArray) (off := k * l.length) (by simp only [List.size_toArray]; omega) hb1 w
                obtain ⟨q, hq, hqv⟩ := run_part' hi hb (xs := c2.toArray) (off := k * l.length) (by simp only [List.size_toArray]; omega) hb1 w
                simp only [his] at hpv hqv
                have hE := run_eqTy n e l hl d w _ _ p q g1.1 g2.1 (by simpa using hpv) (by simpa using hqv)
                have d1 : c1.drop (k * l.length) = (c1.drop (k * l.length)).take l.length ++ c1.drop ((k + 1) * l.length) := by
                  rw [Nat.add_mul, Nat.one_mul, drop_take_drop, List.take_append_drop]
                have d2 : c2.drop (k * l.length) = (c2.drop (k * l.length)).take l.length ++ c2.drop ((k + 1) * l.length) := by
                  rw [Nat.add_mul, Nat.one_mul, drop_take_drop, List.take_append_drop]
                have hlen : ((c1.drop (k * l.length)).take l.length).length = ((c2.drop (k * l.length)).take l.length).length := by
                  rw [← TyL.length g1.1, ← TyL.length g2.1]
                have hih := ih _ (k + 1) c1 c2 rfl (by rw [Nat.add_mul, Nat.one_mul, drop_take_drop]; exact g1.2) (by rw [Nat.add_mul, Nat.one_mul, drop_take_drop]; exact g2.2)
                rw [d1, d2, eqB_append hlen]
                simp only [List.range'_succ, Op.eqItems, Sem.run_bind, hce, hp, hq, hE, Result.andThen_ok]
                rw [← hce]
                cases hq2 : eqB ((c1.drop (k * l.length)).take l.length) ((c2.drop (k * l.length)).take l.length) with
                | false => rw [hce]; simp [hq2]
                | true => rw [hce] at hih ⊢; simpa [hq2] using hih
            have := key m (List.range m) 0 c1 c2 (List.range_eq_range' ..) (by simpa using h1) (by simpa using h2)
            simpa using this
          · rw [hr] at h5; cases h5
        · rw [hr] at h5; cases h5
      · cases h
    · cases h
theorem run_eqFs {P : Program} : ∀ (n acc : Nat) (fs : List Field) (ts : List LTy), eqFs P n acc fs = some ts → ∀ (d : Nat) (w : World) (c1 c2 : List Value), TyL ts (c1.drop acc) → TyL ts (c2.drop acc) →
    (Op.eqFields (d + n) c1.toArray c2.toArray fs).run P w = .ok (eqB (c1.drop acc) (c2.drop acc)) w
  | 0, _, _, _, h => by simp [eqFs] at h
  | n + 1, acc, [], ts, h => by
    intro d w c1 c2 h1 h2
    simp only [eqFs, Option.some.injEq] at h
    subst h
    have e1 := TyL.length h1
    have e2 := TyL.length h2
    rw [List.eq_nil_of_length_eq_zero e1.symm, List.eq_nil_of_length_eq_zero e2.symm]
    simp [Op.eqFields, eqB]
  | n + 1, acc, f :: fs, ts, h => by
    intro d w c1 c2 h1 h2
    simp only [eqFs] at h
    split at h
    · rename_i hn
      obtain ⟨hname, hoff⟩ := hn
      obtain ⟨a, ha, h⟩ := Option.bind_eq_some_iff.1 h
      split at h
      · rename_i hsz
        obtain ⟨hsz, hne⟩ := hsz
        have hpos : 0 < a.length := List.length_pos_iff.2 hne
        obtain ⟨i, hi, his⟩ := Option.map_eq_some_iff.1 hsz
        obtain ⟨r, hr, rfl⟩ := Option.map_eq_some_iff.1 h
        have g1 := TyL.append h1
        have g2 := TyL.append h2
        have n1 := TyL.length h1
        have n2 := TyL.length h2
        simp only [List.length_append, List.length_drop] at n1 n2
        have hrow : ∃ b, isRow P f.type = some b ∧ (b = false → i.size = 1) := by
          cases n with
          | zero => simp [eqTy] at ha
          | succ n =>
            simp only [eqTy] at ha
            cases hue : P.underlying f.type with
            | none => simp [hue] at ha
            | some q =>
              rw [hue] at ha
              refine ⟨_, isRow_of hue, ?_⟩
              rw [his]
              cases q <;> (try simp at ha) <;> simp [rowD]
              all_goals (subst ha; rfl)
        obtain ⟨b, hb, hb1⟩ := hrow
        obtain ⟨p, hp, hpv⟩ := run_part' hi hb (xs := c1.toArray) (off := acc) (by simp only [List.size_toArray]; omega) hb1 w
        obtain ⟨q, hq, hqv⟩ := run_part' hi hb (xs := c2.toArray) (off := acc) (by simp only [List.size_toArray]; omega) hb1 w
        simp only [his] at hpv hqv
        have hE := run_eqTy n f.type a ha (d + 1) w _ _ p q g1.1 g2.1 (by simpa using hpv) (by simpa using hqv)
        have hF := run_eqFs n (acc + a.length) fs r hr (d + 1) w c1 c2 (by rw [drop_take_drop]; exact g1.2) (by rw [drop_take_drop]; exact g2.2)
        have d1 : c1.drop acc = (c1.drop acc).take a.length ++ c1.drop (acc + a.length) := by rw [drop_take_drop, List.take_append_drop]
        have d2 : c2.drop acc = (c2.drop acc).take a.length ++ c2.drop (acc + a.length) := by rw [drop_take_drop, List.take_append_drop]
        have hlen : ((c1.drop acc).take a.length).length = ((c2.drop acc).take a.length).length := by rw [← TyL.length g1.1, ← TyL.length g2.1]
        rw [d1, d2, eqB_append hlen, show d + (n + 1) = d + 1 + n by omega]
        subst hoff
        simp only [Op.eqFields, ne_eq, hname, not_false_eq_true, if_true, Sem.run_bind, hp, hq, hE, Result.andThen_ok]
        cases hq2 : eqB ((c1.drop f.offset).take a.length) ((c2.drop f.offset).take a.length) with
        | false => simp
        | true => simpa using hF
      · cases h
    · cases h
end

end Glx
