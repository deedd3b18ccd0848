/- More operations that only compute: choices, equality of structs, conversions, lengths, the greatest and the least. -/
import Derived.Test.YtfelpmijieomaaaGreatDoorGlxEq
import Derived.Laws.BytesArg
namespace Glx
open Go

/-- one of two cells -/
def mergeSV (n : Nat) (c : Ex) (a b : SV) : Option SV :=
  if a = b then some a else match a, b with
  | .int k u, .int k' v => if k = k' ∧ u.sc n = true ∧ v.sc n = true then some (.int k (.ite c u v)) else none
  | .bool u, .bool v => if u.sc n = true ∧ v.sc n = true then some (.bool (mkIteB c u v)) else none
  | .str u, .str v => if u.sc n = true ∧ v.sc n = true then some (.str (.ite c u v)) else none
  | .sl T u, .sl T' v => if T = T' ∧ u.sc n = true ∧ v.sc n = true then some (.sl T (.ite c u v)) else none
  | .nils, .sl T v => if v.sc n = true then some (.sl T (.ite c .nil v)) else none
  | .sl T u, .nils => if u.sc n = true then some (.sl T (.ite c u .nil)) else none
  | _, _ => none

def mergeL (n : Nat) (c : Ex) : List SV → List SV → Option (List SV)
  | [], [] => some []
  | a :: as, b :: bs => (mergeSV n c a b).bind fun s => (mergeL n c as bs).map (s :: ·)
  | _, _ => none

def merge1 (n : Nat) (c : Ex) : S1 → S1 → Option S1
  | .one a, .one b => (mergeSV n c a b).map .one
  | .agg a, .agg b => (mergeL n c a b).map .agg
  | _, _ => none

section
variable {x : Env} {c : Ex} {n : Nat}

theorem mergeSV_l {a b s : SV} (h : mergeSV n c a b = some s) (hn : n ≤ x.e.length) (hs : c.sc x.e.length = true) (hc : (c.den x.e).bool = true) {v : Value} (hg : G x a v) : G x s v := by
  unfold mergeSV at h
  split at h
  · cases h; exact hg
  · split at h <;> simp only [Option.ite_none_right_eq_some, Option.some.injEq, reduceCtorEq] at h
    · obtain ⟨⟨rfl, h1, h2⟩, rfl⟩ := h
      exact ⟨by simp [Ex.sc, hs, hg.1, Ex.sc_mono hn _ h2], by simpa [Ex.den, hc] using hg.2⟩
    · obtain ⟨⟨h1, h2⟩, rfl⟩ := h
      exact ⟨mkIteB_sc hs hg.1 (Ex.sc_mono hn _ h2), by rw [mkIteB_den, if_pos hc]; exact hg.2⟩
    · obtain ⟨⟨h1, h2⟩, rfl⟩ := h
      exact ⟨by simp [Ex.sc, hs, hg.1, Ex.sc_mono hn _ h2], by simpa [Ex.den, hc] using hg.2⟩
    · obtain ⟨⟨rfl, h1, h2⟩, rfl⟩ := h
      exact ⟨by simp [Ex.sc, hs, hg.1, Ex.sc_mono hn _ h2], by simpa [Ex.den, hc] using hg.2⟩
    · obtain ⟨h2, rfl⟩ := h
      obtain rfl := hg
      exact ⟨by simp [Ex.sc, hs, Ex.sc_mono hn _ h2], by simp only [Ex.den, hc, if_true]; exact .nil rfl⟩
    · obtain ⟨h1, rfl⟩ := h
      exact ⟨by simp [Ex.sc, hs, hg.1], by simpa [Ex.den, hc] using hg.2⟩

theorem mergeSV_r {a b s : SV} (h : mergeSV n c a b = some s) (hn : n ≤ x.e.length) (hs : c.sc x.e.length = true) (hc : (c.den x.e).bool = false) {v : Value} (hg : G x b v) : G x s v := by
  unfold mergeSV at h
  split at h
  · rename_i hab; cases h; rw [hab]; exact hg
  · split at h <;> simp only [Option.ite_none_right_eq_some, Option.some.injEq, reduceCtorEq] at h
    · obtain ⟨⟨rfl, h1, h2⟩, rfl⟩ := h
      exact ⟨by simp [Ex.sc, hs, hg.1, Ex.sc_mono hn _ h1], by simpa [Ex.den, hc] using hg.2⟩
    · obtain ⟨⟨h1, h2⟩, rfl⟩ := h
      exact ⟨mkIteB_sc hs (Ex.sc_mono hn _ h1) hg.1, by rw [mkIteB_den, if_neg (by simp [hc])]; exact hg.2⟩
    · obtain ⟨⟨h1, h2⟩, rfl⟩ := h
      exact ⟨by simp [Ex.sc, hs, hg.1, Ex.sc_mono hn _ h1], by simpa [Ex.den, hc] using hg.2⟩
    · obtain ⟨⟨rfl, h1, h2⟩, rfl⟩ := h
      exact ⟨by simp [Ex.sc, hs, hg.1, Ex.sc_mono hn _ h1], by simpa [Ex.den, hc] using hg.2⟩
    · obtain ⟨h2, rfl⟩ := h
      exact ⟨by simp [Ex.sc, hs, hg.1], by simpa [Ex.den, hc] using hg.2⟩
    · obtain ⟨h1, rfl⟩ := h
      obtain rfl := hg
      exact ⟨by simp [Ex.sc, hs, Ex.sc_mono hn _ h1], by simp only [Ex.den, hc, Bool.false_eq_true, if_false]; exact .nil rfl⟩

theorem mergeL_spec : ∀ {as bs ss : List SV}, mergeL n c as bs = some ss → as.length = ss.length ∧ bs.length = ss.length ∧
    ∀ (j : Nat) (a b s : SV), as[j]? = some a → bs[j]? = some b → ss[j]? = some s → mergeSV n c a b = some s
  | [], [], ss, h => by simp only [mergeL, Option.some.injEq] at h; subst h; simp
  | a :: as, b :: bs, ss, h => by
    simp only [mergeL] at h
    obtain ⟨s, h1, h2⟩ := Option.bind_eq_some_iff.1 h
    obtain ⟨ss', h3, rfl⟩ := Option.map_eq_some_iff.1 h2
    obtain ⟨p, q, r⟩ := mergeL_spec h3
    refine ⟨by simp [p], by simp [q], fun j a' b' s' h4 h5 h6 => ?_⟩
    cases j with
    | zero => simp at h4 h5 h6; subst h4 h5 h6; exact h1
    | succ j => exact r j a' b' s' (by simpa using h4) (by simpa using h5) (by simpa using h6)
  | [], _ :: _, _, h => by simp [mergeL] at h
  | _ :: _, [], _, h => by simp [mergeL] at h

theorem mergeL_l {as bs ss : List SV} (h : mergeL n c as bs = some ss) (hn : n ≤ x.e.length) (hs : c.sc x.e.length = true) (hc : (c.den x.e).bool = true) {v : Array Value} (hg : GL x as v) : GL x ss v := by
  obtain ⟨p, q, r⟩ := mergeL_spec h
  refine ⟨by rw [hg.1, p], fun j s hj => ?_⟩
  have hjs := (List.getElem?_eq_some_iff.1 hj).1
  have ha := List.getElem?_eq_getElem (l := as) (i := j) (by omega)
  have hb := List.getElem?_eq_getElem (l := bs) (i := j) (by omega)
  exact mergeSV_l (r j _ _ s ha hb hj) hn hs hc (hg.2 j _ ha)

theorem mergeL_r {as bs ss : List SV} (h : mergeL n c as bs = some ss) (hn : n ≤ x.e.length) (hs : c.sc x.e.length = true) (hc : (c.den x.e).bool = false) {v : Array Value} (hg : GL x bs v) : GL x ss v := by
  obtain ⟨p, q, r⟩ := mergeL_spec h
  refine ⟨by rw [hg.1, q], fun j s hj => ?_⟩
  have hjs := (List.getElem?_eq_some_iff.1 hj).1
  have ha := List.getElem?_eq_getElem (l := as) (i := j) (by omega)
  have hb := List.getElem?_eq_getElem (l := bs) (i := j) (by omega)
  exact mergeSV_r (r j _ _ s ha hb hj) hn hs hc (hg.2 j _ hb)

theorem merge1_l {a b s : S1} (h : merge1 n c a b = some s) (hn : n ≤ x.e.length) (hs : c.sc x.e.length = true) (hc : (c.den x.e).bool = true) {v : Value} (hg : G1 x a v) : G1 x s v := by
  cases a <;> cases b <;> simp only [merge1, Option.map_eq_some_iff, reduceCtorEq] at h
  · obtain ⟨s', h, rfl⟩ := h; exact mergeSV_l h hn hs hc hg
  · obtain ⟨s', h, rfl⟩ := h
    obtain ⟨q, rfl, hg⟩ := hg
    exact ⟨q, rfl, mergeL_l h hn hs hc hg⟩

theorem merge1_r {a b s : S1} (h : merge1 n c a b = some s) (hn : n ≤ x.e.length) (hs : c.sc x.e.length = true) (hc : (c.den x.e).bool = false) {v : Value} (hg : G1 x b v) : G1 x s v := by
  cases a <;> cases b <;> simp only [merge1, Option.map_eq_some_iff, reduceCtorEq] at h
  · obtain ⟨s', h, rfl⟩ := h; exact mergeSV_r h hn hs hc hg
  · obtain ⟨s', h, rfl⟩ := h
    obtain ⟨q, rfl, hg⟩ := hg
    exact ⟨q, rfl, mergeL_r h hn hs hc hg⟩

end

/-- 'c ? a : b' of the model -/
def symPick (n : Nat) (c : SV) (a b : S1) : Option S1 :=
  match c with
  | .bool (.blit true) => some a
  | .bool (.blit false) => some b
  | .bool e => merge1 n e a b
  | _ => none

theorem symPick_ok {x : Env} {n : Nat} {c : SV} {a b s : S1} (h : symPick n c a b = some s) (hn : n ≤ x.e.length) {vc va vb : Value} (hc : G x c vc) (ha : G1 x a va) (hb : G1 x b vb) :
    ∃ t, vc = .bool t ∧ G1 x s (if t then va else vb) := by
  unfold symPick at h
  split at h
  · cases h; obtain ⟨_, rfl⟩ := hc; exact ⟨true, rfl, ha⟩
  · cases h; obtain ⟨_, rfl⟩ := hc; exact ⟨false, rfl, hb⟩
  · rename_i e _ _
    obtain ⟨h1, rfl⟩ := hc
    refine ⟨_, rfl, ?_⟩
    cases hd : (e.den x.e).bool with
    | true => exact merge1_l h hn h1 hd ha
    | false => exact merge1_r h hn h1 hd hb
  · cases h

def symUn (op : UnOp) : SV → Option SV
  | .int k e => match op with
    | .neg => some (.int k (mkBin .sub k (.ilit 0) e))
    | .xor => some (.int k (.bin .xor k (.ilit (if k.signed then -1 else k.max)) e))
    | _ => none
  | .bool e => match op with
    | .not => some (.bool (mkNo e))
    | _ => none
  | _ => none

theorem symUn_ok {x : Env} {op : UnOp} {s r : SV} (h : symUn op s = some r) {v : Value} (hg : G x s v) (w : World) : ∃ u, (Op.unary op v).run x.P w = .ok u w ∧ G x r u := by
  unfold symUn at h
  split at h
  · rename_i k e
    obtain ⟨h1, rfl⟩ := hg
    split at h
    · cases h
      refine ⟨_, rfl, mkBin_sc rfl h1, ?_⟩
      rw [mkBin_den]; rfl
    · cases h
      refine ⟨_, rfl, by simp [Ex.sc, h1], rfl⟩
    · cases h
  · rename_i e
    obtain ⟨h1, rfl⟩ := hg
    split at h
    · cases h
      exact ⟨_, rfl, by rw [mkNo_sc]; exact h1, by rw [mkNo_den]⟩
    · cases h
  · cases h

/-- lengths: of a slice of whichever kind, of a text -/
def lenEx (H : List SObj) : SV → Option Ex
  | .nils => some (.ilit 0)
  | .sl _ e => some (mkLen e)
  | .str e => some (.slen e)
  | .own o ver => match look H o with
    | .row _ e u => if u = ver then some (mkLen e) else none
    | _ => none
  | _ => none

theorem lenEx_ok {x : Env} {w0 : World} {M : Nat → Prop} (hs : Sat x w0 M) {s : SV} {e : Ex} (h : lenEx x.H s = some e) {v : Value} (hg : G x s v) :
    e.sc x.e.length = true ∧ ((∃ t, v = .string t ∧ (t.size : Int) = (e.den x.e).int) ∨ (∃ a n c, v = .slice a n c ∧ (n : Int) = (e.den x.e).int)) := by
  cases s with
  | nils => cases h; obtain rfl := hg; exact ⟨rfl, .inr ⟨_, _, _, rfl, rfl⟩⟩
  | sl T e =>
    cases h
    refine ⟨mkLen_sc hg.1, .inr ?_⟩
    rw [mkLen_den]
    cases hg.2 with
    | nil h0 => exact ⟨_, _, _, rfl, by rw [h0]; rfl⟩
    | row _ _ _ h4 => exact ⟨_, _, _, rfl, by rw [h4]⟩
  | str e => cases h; obtain ⟨h1, rfl⟩ := hg; exact ⟨h1, .inl ⟨_, rfl, rfl⟩⟩
  | own o ver =>
    simp only [lenEx] at h
    split at h
    · rename_i T e u hl
      simp only [Option.ite_none_right_eq_some, Option.some.injEq] at h
      obtain ⟨hu, rfl⟩ := h
      have hv := (hg.2 T e u hl).2 hu
      have ho := hs.objs o
      rw [hl] at ho
      obtain ⟨hsc, ts, n, xs, h1, h2, h3, _⟩ := ho
      refine ⟨mkLen_sc hsc, .inr ?_⟩
      rw [mkLen_den, h3, hv]
      rcases h2.2 with ⟨h5, h6⟩ | ⟨g, cap, cur, h5, _⟩
      · rw [h5, h6]; exact ⟨_, _, _, rfl, rfl⟩
      · rw [h5]; exact ⟨_, _, _, rfl, rfl⟩
    · cases h
  | _ => cases h

def symLen (P : Program) (H : List SObj) (t : TypeId) (s : S1) : Option SV :=
  match P.underlying t, s with
  | some .string, .one (.str e) => some (.int .i64 (.slen e))
  | some (.slice _), .one (.str _) => none
  | some (.slice _), .one s => (lenEx H s).map (.int .i64 ·)
  | some (.array n _), _ => some (.int .i64 (.ilit n))
  | _, _ => none

theorem symLen_ok {x : Env} {w0 : World} {M : Nat → Prop} (hs : Sat x w0 M) {t ty : TypeId} {s : S1} {r : SV} (h : symLen x.P x.H t s = some r) {v : Value} (hg : G1 x s v) (w : World) :
    ∃ u, (Builtin.len_ #[t] ty #[v]).run x.P w = .ok u w ∧ G x r u := by
  unfold symLen at h
  split at h
  · rename_i e hu
    cases h
    obtain ⟨h1, rfl⟩ := hg
    exact ⟨_, by simp [Builtin.len_, run_underlying hu]; rfl, h1, rfl⟩
  · cases h
  · rename_i T s hns hu
    obtain ⟨e, h1, rfl⟩ := Option.map_eq_some_iff.1 h
    obtain ⟨h2, h3⟩ := lenEx_ok hs h1 hg
    rcases h3 with ⟨q, rfl, h3⟩ | ⟨a, n, c, rfl, h3⟩
    · exfalso
      cases s with
      | str e => exact hns e rfl
      | nils => cases hg
      | sl T e => cases hg.2
      | own o ver =>
        simp only [lenEx] at h1
        split at h1
        · rename_i T e u hl
          simp only [Option.ite_none_right_eq_some, Option.some.injEq] at h1
          have hv := (hg.2 T e u hl).2 h1.1
          have ho := hs.objs o
          rw [hl] at ho
          obtain ⟨_, ts, n, xs, _, h5, _⟩ := ho
          rw [← hv] at h5
          rcases h5.2 with ⟨h6, _⟩ | ⟨g, cap, cur, h6, _⟩ <;> cases h6
        · cases h1
      | _ => cases h1
    · exact ⟨_, by simp [Builtin.len_, run_underlying hu]; rfl, h2, by rw [← h3]; rfl⟩
  · rename_i n T hu
    cases h
    exact ⟨_, by simp [Builtin.len_, run_underlying hu]; rfl, rfl, rfl⟩
  · cases h

/-- the greatest, or the least, of two -/
def symExt (most : Bool) : List SV → Option SV
  | [.int k a, .int k' b] => if k = k' then some (.int k (.ite (mkCmp (if most then .gtr else .lss) b a) b a)) else none
  | _ => none

theorem symExt_ok {x : Env} {most : Bool} {a b r : SV} (h : symExt most [a, b] = some r) {va vb : Value} (ha : G x a va) (hb : G x b vb) (ts : Array TypeId) (ty : TypeId) (w : World) :
    ∃ u, ((if most then Builtin.max_ ts ty #[va, vb] else Builtin.min_ ts ty #[va, vb])).run x.P w = .ok u w ∧ G x r u := by
  unfold symExt at h
  split at h
  · rename_i k e k' f heq
    simp only [List.cons.injEq, and_true] at heq
    obtain ⟨rfl, rfl⟩ := heq
    simp only [Option.ite_none_right_eq_some, Option.some.injEq] at h
    obtain ⟨rfl, rfl⟩ := h
    obtain ⟨h1, rfl⟩ := ha
    obtain ⟨h2, rfl⟩ := hb
    cases most with
    | true =>
      refine ⟨_, by simp [Builtin.max_, Builtin.max2]; rfl, by simp [Ex.sc, h1, h2, mkCmp_sc h2 h1], ?_⟩
      simp only [Ex.den, if_true, mkCmp_den]
      congr 1
      by_cases hc : (e.den x.e).int < (f.den x.e).int
      · rw [if_pos hc, if_pos (by simp [compare, hc])]
      · rw [if_neg hc, if_neg (by simp [compare, hc])]
    | false =>
      refine ⟨_, by simp [Builtin.min_, Builtin.min2]; rfl, by simp [Ex.sc, h1, h2, mkCmp_sc h2 h1], ?_⟩
      simp only [Ex.den, Bool.false_eq_true, if_false, mkCmp_den]
      congr 1
      by_cases hc : (f.den x.e).int < (e.den x.e).int
      · rw [if_pos hc, if_pos (by simp [compare, hc])]
      · rw [if_neg hc, if_neg (by simp [compare, hc])]
  · cases h

end Glx
