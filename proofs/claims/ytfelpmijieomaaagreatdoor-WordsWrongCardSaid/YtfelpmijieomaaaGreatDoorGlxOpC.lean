/- More operations that only compute: pieces of slices and texts, choices, conversions, lengths. -/
import Derived.Test.YtfelpmijieomaaaGreatDoorGlxOpB
namespace Glx
open Go

section
variable {x : Env}

def OG (x : Env) : Option SV → Option Value → Prop
  | none, none => True
  | some s, some v => G x s v
  | _, _ => False

theorem bound_ok {d l : Ex} {s : Option SV} {v : Option Value} (h : bound d s = some l) (hg : OG x s v) : (v = none ∧ l = d) ∨ ∃ k, v = some (.int k (l.den x.e).int) ∧ l.sc x.e.length = true := by
  unfold bound at h
  split at h
  · cases v with
    | none => exact .inl ⟨rfl, by simpa using h.symm⟩
    | some v => exact hg.elim
  · cases v with
    | none => exact hg.elim
    | some v => cases h; obtain ⟨h1, rfl⟩ := hg; exact .inr ⟨_, rfl, h1⟩
  · cases h

theorem three_ok {e : List D} {a b c d f g : Ex} (hg : ∀ q ∈ gds [mkCmp .leq a b, mkCmp .leq c d, mkCmp .leq f g], (q.den e).bool = true) :
    (a.den e).int ≤ (b.den e).int ∧ (c.den e).int ≤ (d.den e).int ∧ (f.den e).int ≤ (g.den e).int := by
  have h := gds_ok hg
  have h1 := h _ (List.mem_cons_self ..)
  have h2 := h _ (List.mem_cons_of_mem _ (List.mem_cons_self ..))
  have h3 := h _ (List.mem_cons_of_mem _ (List.mem_cons_of_mem _ (List.mem_singleton.2 rfl)))
  rw [mkCmp_den] at h1 h2 h3
  exact ⟨leq_of h1, leq_of h2, leq_of h3⟩

/-- bounds that are met -/
theorem run_sliceBounds {P : Program} {isS : Bool} {len cap : Nat} {lo hi : Option Value} {l h : Int} (hl : lo = none ∧ l = 0 ∨ ∃ k, lo = some (.int k l)) (hh : hi = none ∧ h = len ∨ ∃ k, hi = some (.int k h))
    (h0 : 0 ≤ l) (h1 : l ≤ h) (h2 : h ≤ cap) (w : World) : (Instr.sliceBounds isS len cap lo hi none).run P w = .ok (l.toNat, h.toNat, cap) w := by
  have hhn : ((h.toNat : Nat) : Int) = h := Int.toNat_of_nonneg (by omega)
  rcases hl with ⟨rfl, rfl⟩ | ⟨k, rfl⟩ <;> rcases hh with ⟨rfl, rfl⟩ | ⟨k', rfl⟩ <;>
    simp [Instr.sliceBounds, Instr.sliceBound, asIntOf, h0, h1, h2, hhn] <;> omega

theorem cut_length {l : List (List D)} {a b : Int} (h0 : 0 ≤ a) (h1 : a ≤ b) (h2 : b ≤ l.length) : (cut l a b).length = b.toNat - a.toNat := by
  simp only [cut, List.length_drop, List.length_take]; omega

theorem cut_get {l : List (List D)} {a b : Int} {i : Nat} (h : i < b.toNat - a.toNat) : (cut l a b).getD i [] = l.getD (a.toNat + i) [] := by
  simp only [cut, List.getD_eq_getElem?_getD, List.getElem?_drop, List.getElem?_take]
  rw [if_pos (by omega)]

theorem Rd.cut {P : Program} {I : Nat → Prop} {h : Array Obj} {T : TypeId} {a : Option Addr} {n cap : Nat} {d : D} (hr : Rd P I h (.sl T) (.slice a n cap) d) {ts : List LTy} (hts : tys P T = some ts)
    {lo hi : Int} (h0 : 0 ≤ lo) (h1 : lo ≤ hi) (h2 : hi ≤ d.rows.length) :
    Rd P I h (.sl T) (.slice (if cap = lo.toNat then a else a.map (·.add (lo.toNat * ts.length))) (hi.toNat - lo.toNat) (cap - lo.toNat)) (.l (Glx.cut d.rows lo hi)) ∧ hi ≤ n ∧ n ≤ cap := by
  cases hr with
  | nil hn =>
    rw [hn] at h2 ⊢
    simp only [List.length_nil, Int.natCast_zero] at h2
    have : lo = 0 := by omega
    have : hi = 0 := by omega
    subst lo hi
    simp
    exact .nil rfl
  | row k1 k2 k3 k4 k5 k6 k7 k8 =>
    rename_i ts' b off c E fz
    rw [hts] at k1
    cases k1
    refine ⟨?_, by omega, k5⟩
    have hlen := cut_length h0 h1 h2
    have key : ∀ q, Rd P I h (.sl T) (.slice (some ⟨b, off + lo.toNat * ts.length, none⟩) (hi.toNat - lo.toNat) q) (.l (Glx.cut d.rows lo hi)) ∨ ¬ (hi.toNat - lo.toNat ≤ q) := by
      intro q
      by_cases hq : hi.toNat - lo.toNat ≤ q
      · left
        have hm : (lo.toNat + (hi.toNat - lo.toNat)) * ts.length ≤ n * ts.length := Nat.mul_le_mul_right _ (by omega)
        rw [Nat.add_mul] at hm
        refine .row hts k2 k3 hlen hq (by omega) (fun r hr => k7 r (List.mem_of_mem_take (List.mem_of_mem_drop hr))) fun i j t hi' ht => ?_
        simp only [D.rows_l, cut_get hi']
        have := k8 (lo.toNat + i) j t (by omega) ht
        rwa [show off + (lo.toNat + i) * ts.length + j = off + lo.toNat * ts.length + i * ts.length + j by rw [Nat.add_mul]; omega] at this
      · exact .inr hq
    by_cases hc : cap = lo.toNat
    · rw [if_pos hc]
      have hz : hi.toNat - lo.toNat = 0 := by omega
      rw [hz, hc, Nat.sub_self]
      have hnil : Glx.cut d.rows lo hi = [] := List.eq_nil_of_length_eq_zero (by rw [hlen, hz])
      rw [hnil]
      exact .row hts k2 k3 rfl (Nat.le_refl _) (by omega) (by simp) (fun i _ _ hi' => absurd hi' (by omega))
    · rw [if_neg hc]
      have := (key (cap - lo.toNat)).resolve_right (by omega)
      simpa [Addr.add_mid] using this

theorem symSlice_ok {w0 : World} {M : Nat → Prop} (hs : Sat x w0 M) {t : TypeId} {s r : SV} {lo hi : Option SV} {gs : List Ex} (h : symSlice x.P x.H t s lo hi = some (gs, r)) {va : Value} {vl vh : Option Value}
    (ha : G x s va) (hlo : OG x lo vl) (hhi : OG x hi vh) (hg : ∀ c ∈ gs, (c.den x.e).bool = true) : ∃ v, (Instr.sliceAt t va vl vh none).run x.P x.w = .ok v x.w ∧ G x r v := by
  cases s with
  | str e =>
    simp only [symSlice, Option.ite_none_right_eq_some] at h
    obtain ⟨hu, h⟩ := h
    have hu := isStr_spec hu
    obtain ⟨l, h1, h⟩ := Option.bind_eq_some_iff.1 h
    obtain ⟨m, h2, h⟩ := Option.map_eq_some_iff.1 h
    cases h
    obtain ⟨he, rfl⟩ := ha
    obtain ⟨g1, g2, g3⟩ := three_ok hg
    have b1 := bound_ok h1 hlo
    have b2 := bound_ok h2 hhi
    have hb := run_sliceBounds (P := x.P) (isS := false) (len := (e.den x.e).str.size) (cap := (e.den x.e).str.size) (lo := vl) (hi := vh) (l := (l.den x.e).int) (h := (m.den x.e).int)
      (by rcases b1 with ⟨q1, rfl⟩ | ⟨k, q1, _⟩; exact .inl ⟨q1, rfl⟩; exact .inr ⟨k, q1⟩) (by rcases b2 with ⟨q1, rfl⟩ | ⟨k, q1, _⟩; exact .inl ⟨q1, rfl⟩; exact .inr ⟨k, q1⟩) g1 g2 g3 x.w
    refine ⟨.string (scut (e.den x.e).str (l.den x.e).int (m.den x.e).int), ?_, ?_, rfl⟩
    · simp [Instr.sliceAt, run_underlying hu, Instr.slice, hb, scut]
    · have s1 : l.sc x.e.length = true := by rcases b1 with ⟨_, rfl⟩ | ⟨_, _, q⟩; rfl; exact q
      have s2 : m.sc x.e.length = true := by rcases b2 with ⟨_, rfl⟩ | ⟨_, _, q⟩; exact he; exact q
      simp [Ex.sc, he, s1, s2]
  | sl T e =>
    simp only [symSlice, Option.ite_none_right_eq_some] at h
    obtain ⟨hu, h⟩ := h
    have hu := sliceOf_spec hu
    obtain ⟨ts, hts, h⟩ := Option.bind_eq_some_iff.1 h
    obtain ⟨inf, hinf, hsz, _⟩ := tys_size hts
    obtain ⟨he, hrd⟩ := ha
    obtain ⟨a, n, cap, rfl⟩ : ∃ a n cap, va = .slice a n cap := by cases hrd; exact ⟨_, _, _, rfl⟩; exact ⟨_, _, _, rfl⟩
    have hn : (e.den x.e).rows.length = n := by
      cases hrd with
      | nil h0 => rw [h0]; rfl
      | row _ _ _ h4 => exact h4
    have go : ∀ (l m : Ex), bound (.ilit 0) lo = some l → bound (mkLen e) hi = some m → gs = gds [mkCmp .leq (.ilit 0) l, mkCmp .leq l m, mkCmp .leq m (mkLen e)] → r = .sl T (.sub e l m) →
        ∃ v, (Instr.sliceAt t (.slice a n cap) vl vh none).run x.P x.w = .ok v x.w ∧ G x r v := by
      rintro l m h1 h2 rfl rfl
      obtain ⟨g1, g2, g3⟩ := three_ok hg
      rw [mkLen_den] at g3
      have b1 := bound_ok h1 hlo
      have b2 := bound_ok h2 hhi
      obtain ⟨hcut, hle, hcap⟩ := hrd.cut hts (lo := (l.den x.e).int) (hi := (m.den x.e).int) g1 g2 g3
      have hb := run_sliceBounds (P := x.P) (isS := true) (len := n) (cap := cap) (lo := vl) (hi := vh) (l := (l.den x.e).int) (h := (m.den x.e).int)
        (by rcases b1 with ⟨q1, rfl⟩ | ⟨k, q1, _⟩; exact .inl ⟨q1, rfl⟩; exact .inr ⟨k, q1⟩)
        (by rcases b2 with ⟨q1, rfl⟩ | ⟨k, q1, _⟩; exact .inl ⟨q1, by rw [mkLen_den, hn]⟩; exact .inr ⟨k, q1⟩) g1 g2 (by omega) x.w
      refine ⟨_, ?_, ?_, hcut⟩
      · simp [Instr.sliceAt, run_underlying hu, Instr.slice, hb, run_sizeOf' hinf, hsz]
      · have s1 : l.sc x.e.length = true := by rcases b1 with ⟨_, rfl⟩ | ⟨_, _, q⟩; rfl; exact q
        have s2 : m.sc x.e.length = true := by rcases b2 with ⟨_, rfl⟩ | ⟨_, _, q⟩; exact mkLen_sc he; exact q
        simp [Ex.sc, he, s1, s2]
    split at h
    · simp only [Option.some.injEq, Prod.mk.injEq] at h
      obtain ⟨rfl, rfl⟩ := h
      cases vl with
      | some _ => exact hlo.elim
      | none =>
        cases vh with
        | some _ => exact hhi.elim
        | none =>
          have hcap : n ≤ cap := by
            cases hrd with
            | nil _ => exact Nat.le_refl _
            | row _ _ _ _ h5 => exact h5
          have hb := run_sliceBounds (P := x.P) (isS := true) (len := n) (cap := cap) (lo := none) (hi := none) (l := 0) (h := n) (.inl ⟨rfl, rfl⟩) (.inl ⟨rfl, rfl⟩) (Int.le_refl _) (by omega) (by omega) x.w
          refine ⟨.slice a n cap, ?_, he, hrd⟩
          simp only [Instr.sliceAt, run_underlying hu, Instr.slice, hb, run_sizeOf' hinf, Sem.run_bind, Sem.run_pure, Result.andThen_ok]
          have : a.map (fun q => q.add 0) = a := by
            cases a with
            | none => rfl
            | some q => simp [Addr.add]
          simp [this]
    · obtain ⟨l, h1, h⟩ := Option.bind_eq_some_iff.1 h
      obtain ⟨m, h2, h⟩ := Option.map_eq_some_iff.1 h
      simp only [Prod.mk.injEq] at h
      exact go l m h1 h2 h.1.symm h.2.symm
  | ptr o off =>
    simp only [symSlice] at h
    split at h
    · rename_i n T T' l hu hl
      obtain ⟨ts, hts, h⟩ := Option.bind_eq_some_iff.1 h
      split at h
      · rename_i ty
        simp only [Option.ite_none_right_eq_some, Option.map_eq_some_iff, Prod.mk.injEq] at h
        obtain ⟨hn, ds, hds, rfl, rfl⟩ := h
        cases vl with
        | some _ => exact hlo.elim
        | none =>
        cases vh with
        | some _ => exact hhi.elim
        | none =>
        obtain ⟨inf, hinf, hsz, _⟩ := tys_size hts
        obtain ⟨b, hb, rfl⟩ := ha.2 _ _ _ hl
        have ho := hs.objs o
        rw [hl] at ho
        obtain ⟨b', c, h1, h2, h3, h4, _⟩ := ho
        have : b = b' := by simp only at hb; rw [h1] at hb; simpa using hb.symm
        subst this
        have hb2 := run_sliceBounds (P := x.P) (isS := false) (len := n) (cap := n) (lo := none) (hi := none) (l := 0) (h := n) (.inl ⟨rfl, rfl⟩) (.inl ⟨rfl, rfl⟩) (Int.le_refl _) (by omega) (by omega) x.w
        obtain ⟨q1, q2, q3⟩ := toDatas_ok hds
        have hlen : ds.length = n := by rw [q2, ← q1]; simp
        -- the rows that are written out
        have hfold : ∀ (ds : List Ex) (a : Ex), ((ds.foldl (fun a d => .app a (.row (.rcons d .rnil))) a).den x.e).rows = (a.den x.e).rows ++ ds.map fun d => [d.den x.e] := by
          intro ds
          induction ds with
          | nil => intro a; simp
          | cons d ds ih => intro a; rw [List.foldl_cons, ih]; simp [Ex.den]
        have hscf : ∀ (ds : List Ex) (a : Ex), a.sc x.e.length = true → (∀ d ∈ ds, d.sc x.e.length = true) → (ds.foldl (fun a d => .app a (.row (.rcons d .rnil))) a).sc x.e.length = true := by
          intro ds
          induction ds with
          | nil => intro a ha _; exact ha
          | cons d ds ih => intro a ha hd; exact ih _ (by simp [Ex.sc, ha, hd d (List.mem_cons_self ..)]) fun d' hd' => hd d' (List.mem_cons_of_mem _ hd')
        have hall : ∀ j d, ds[j]? = some d → d.sc x.e.length = true ∧ Rd x.P x.I x.w.heap ty (c.getD (off + j) undef) (d.den x.e) := by
          intro j d hj
          have hjn : j < n := by have := (List.getElem?_eq_some_iff.1 hj).1; omega
          have hjl : off + j < l.length := by omega
          have e1 : ((l.drop off).take n)[j]? = some l[off + j] := by simp [hjn, List.getElem?_drop, hjl]
          have e2 : (List.replicate n ty)[j]? = some ty := by simp [hjn]
          exact toData_ok (q3 j ty _ d e2 e1 hj) (h3.2 (off + j) _ (List.getElem?_eq_getElem hjl))
        refine ⟨.slice (some ⟨b, off, none⟩) n n, ?_, ?_, ?_⟩
        · have he : (if n = 0 then (⟨b, off, none⟩ : Addr) else (⟨b, off, none⟩ : Addr).add (0 * inf.size)) = ⟨b, off, none⟩ := by split <;> simp [Addr.add]
          simp [Instr.sliceAt, run_underlying hu, Instr.sureAddr, hb2, run_sizeOf' hinf]
          simpa using he
        · exact hscf ds .nil rfl fun d hd => by
            obtain ⟨j, hj, rfl⟩ := List.getElem_of_mem hd
            exact (hall j _ (List.getElem?_eq_getElem hj)).1
        · have hrows : ((ds.foldl (fun a d => Ex.app a (.row (.rcons d .rnil))) .nil).den x.e).rows = ds.map fun d => [d.den x.e] := by rw [hfold]; rfl
          refine .row hts (h4 rfl) h2 (by rw [hrows]; simpa using hlen) (Nat.le_refl _) (by have := h3.1; simp only [List.length_singleton]; omega) ?_ ?_
          · intro r hr
            rw [hrows] at hr
            obtain ⟨d, _, rfl⟩ := List.mem_map.1 hr
            rfl
          · intro i j t hi' ht
            have hj : j = 0 := by have := (List.getElem?_eq_some_iff.1 ht).1; simp only [List.length_singleton] at this; omega
            subst hj
            simp only [List.getElem?_cons_zero, Option.some.injEq] at ht
            subst ht
            rw [hrows]
            have hlt : i < ds.length := by omega
            have := (hall i _ (List.getElem?_eq_getElem hlt)).2
            simpa [hlt] using this
      · cases h
    · cases h
  | _ => cases h

end
end Glx
