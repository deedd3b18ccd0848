import Derived.Test.YtfelpmijieomaaaGreatDoorGlx0
import Derived.Great.BuildSlice
import Derived.Calls
namespace Glx
open Go

section
variable {x : Env} {w0 : World} {M : Nat → Prop}

theorem RdRows.set {P : Program} {I : Nat → Prop} {h : Array Obj} {ts : List LTy} {xs : List Value} {rows : List (List D)} (hr : RdRows P I h ts xs rows) (hx : xs.length = rows.length * ts.length)
    {i j : Nat} (hi : i < rows.length) {t : LTy} (ht : ts[j]? = some t) {v : Value} {d : D} (hd : Rd P I h t v d) : RdRows P I h ts (xs.set (i * ts.length + j) v) (setAt rows (i : Int) j d) := by
  have hj : j < ts.length := (List.getElem?_eq_some_iff.1 ht).1
  have hrow : (rows.getD i []).length = ts.length := by
    rw [List.getD_eq_getElem?_getD, List.getElem?_eq_getElem hi]
    exact hr.1 _ (List.getElem_mem hi)
  have hmul : (i + 1) * ts.length ≤ rows.length * ts.length := Nat.mul_le_mul_right _ hi
  rw [Nat.add_mul, Nat.one_mul] at hmul
  refine ⟨fun r hm => ?_, fun i2 j2 t2 hi2 ht2 => ?_⟩
  · simp only [setAt, Int.toNat_natCast] at hm
    rcases List.mem_or_eq_of_mem_set hm with h1 | h1
    · exact hr.1 r h1
    · rw [h1, List.length_set, hrow]
  · simp only [setAt, Int.toNat_natCast, List.length_set] at hi2 ⊢
    have hj2 : j2 < ts.length := (List.getElem?_eq_some_iff.1 ht2).1
    have hold := hr.2 i2 j2 t2 hi2 ht2
    by_cases hii : i2 = i
    · subst hii
      have hrows : (rows.set i2 ((rows.getD i2 []).set j d)).getD i2 [] = (rows.getD i2 []).set j d := by
        rw [List.getD_eq_getElem?_getD, List.getElem?_set_self hi]; rfl
      rw [hrows]
      by_cases hjj : j2 = j
      · subst hjj
        rw [ht] at ht2
        cases ht2
        have e1 : (xs.set (i2 * ts.length + j2) v).getD (i2 * ts.length + j2) undef = v := by
          rw [List.getD_eq_getElem?_getD, List.getElem?_set_self (by omega)]; rfl
        have e2 : ((rows.getD i2 []).set j2 d).getD j2 default = d := by
          rw [List.getD_eq_getElem?_getD, List.getElem?_set_self (by omega)]; rfl
        rw [e1, e2]
        exact hd
      · have e1 : (xs.set (i2 * ts.length + j) v).getD (i2 * ts.length + j2) undef = xs.getD (i2 * ts.length + j2) undef := by
          simp only [List.getD_eq_getElem?_getD]
          rw [List.getElem?_set_ne (by omega)]
        have e2 : ((rows.getD i2 []).set j d).getD j2 default = (rows.getD i2 []).getD j2 default := by
          simp only [List.getD_eq_getElem?_getD]
          rw [List.getElem?_set_ne (by omega)]
        rw [e1, e2]
        exact hold
    · have hne : i * ts.length + j ≠ i2 * ts.length + j2 := by
        intro he
        rcases Nat.lt_or_gt_of_ne hii with h1 | h1
        · have : (i2 + 1) * ts.length ≤ i * ts.length := Nat.mul_le_mul_right _ h1
          rw [Nat.add_mul, Nat.one_mul] at this
          omega
        · have : (i + 1) * ts.length ≤ i2 * ts.length := Nat.mul_le_mul_right _ h1
          rw [Nat.add_mul, Nat.one_mul] at this
          omega
      have e1 : (xs.set (i * ts.length + j) v).getD (i2 * ts.length + j2) undef = xs.getD (i2 * ts.length + j2) undef := by
        simp only [List.getD_eq_getElem?_getD]
        rw [List.getElem?_set_ne hne]
      have e2 : (rows.set i ((rows.getD i []).set j d)).getD i2 [] = rows.getD i2 [] := by
        simp only [List.getD_eq_getElem?_getD]
        rw [List.getElem?_set_ne (Ne.symm hii)]
      rw [e1, e2]
      exact hold

theorem setAt_length (rows : List (List D)) (i : Int) (j : Nat) (d : D) : (setAt rows i j d).length = rows.length := by simp [setAt]

theorem take_cons_drop {α : Type} (l : List α) (p : Nat) (v : α) (vs : List α) (hp : p < l.length) :
    l.take p ++ (v :: vs) ++ l.drop (p + (v :: vs).length) = (l.set p v).take (p + 1) ++ vs ++ (l.set p v).drop (p + 1 + vs.length) := by
  have h1 : (l.set p v).take (p + 1) = l.take p ++ [v] := by
    rw [List.take_succ_eq_append_getElem (by simpa using hp)]
    simp [List.take_set_of_le]
  have h2 : (l.set p v).drop (p + 1 + vs.length) = l.drop (p + 1 + vs.length) := by rw [List.drop_set_of_lt (by omega)]
  rw [h1, h2]
  simp only [List.length_cons, List.append_assoc, List.cons_append, List.nil_append]
  congr 4
  omega

/-- several cells of one row -/
theorem updEx_ok {ts : List LTy} {ix : Ex} {i : Nat} (hix : ix.sc x.e.length = true) (hi : (ix.den x.e).int = i) : ∀ (ds : List Ex) (vs : List Value) (off : Nat) (e : Ex) (xs : List Value),
    e.sc x.e.length = true → xs.length = (e.den x.e).rows.length * ts.length → i < (e.den x.e).rows.length → RdRows x.P x.I x.w.heap ts xs (e.den x.e).rows → off + ds.length ≤ ts.length → ds.length = vs.length →
    (∀ j t d v, ts[off + j]? = some t → ds[j]? = some d → vs[j]? = some v → d.sc x.e.length = true ∧ Rd x.P x.I x.w.heap t v (d.den x.e)) →
    (updEx e ix off ds).sc x.e.length = true ∧ ((updEx e ix off ds).den x.e).rows.length = (e.den x.e).rows.length ∧
      RdRows x.P x.I x.w.heap ts (xs.take (i * ts.length + off) ++ vs ++ xs.drop (i * ts.length + off + vs.length)) ((updEx e ix off ds).den x.e).rows
  | [], [], off, e, xs, h1, h2, h3, h4, _, _, _ => by
    refine ⟨h1, rfl, ?_⟩
    simpa [updEx] using h4
  | d :: ds, v :: vs, off, e, xs, h1, h2, h3, h4, h5, h6, h7 => by
    simp only [List.length_cons] at h5 h6
    have ht := List.getElem?_eq_getElem (l := ts) (i := off) (by omega)
    obtain ⟨hd, hrd⟩ := h7 0 _ d v ht rfl rfl
    have hmul : (i + 1) * ts.length ≤ (e.den x.e).rows.length * ts.length := Nat.mul_le_mul_right _ h3
    rw [Nat.add_mul, Nat.one_mul] at hmul
    have hset := h4.set h2 h3 ht hrd
    have hden : ((Ex.upd e ix off d).den x.e).rows = setAt (e.den x.e).rows (i : Int) off (d.den x.e) := by simp [Ex.den, hi]
    have ih := updEx_ok (ts := ts) hix hi ds vs (off + 1) (.upd e ix off d) (xs.set (i * ts.length + off) v) (by simp [Ex.sc, h1, hix, hd]) (by rw [hden, setAt_length]; simpa using h2)
      (by rw [hden, setAt_length]; exact h3) (by rw [hden]; exact hset) (by omega) (by omega) (fun j t d' v' q1 q2 q3 => h7 (j + 1) t d' v' (by rw [← q1]; congr 1; omega) (by simpa using q2) (by simpa using q3))
    refine ⟨ih.1, by rw [updEx, ih.2.1, hden, setAt_length], ?_⟩
    rw [take_cons_drop xs _ v vs (by omega)]
    have := ih.2.2
    rw [show i * ts.length + (off + 1) = i * ts.length + off + 1 by omega] at this
    exact this
  | [], _ :: _, _, _, _, _, _, _, _, _, h6, _ => by simp at h6
  | _ :: _, [], _, _, _, _, _, _, _, _, h6, _ => by simp at h6

theorem store_row_ok (hs : Sat x w0 M) {o ver off : Nat} {ix : Ex} {T : TypeId} {e : Ex} (hl : look x.H o = .row T e ver) {ts : List LTy} (hts : tys x.P T = some ts) {t : TypeId} {inf : TypeInfo} (hi : x.P.info? t = some inf) {s : S1}
    (hn : s.cells.length = inf.size) (hfit : off + inf.size ≤ ts.length) (hsol : s.cells.all (solid x.H) = true) {ds : List Ex} (hds : toDatas ((ts.drop off).take inf.size) s.cells = some ds)
    {va v : Value} (ha : G x (.oel o ver ix off) va) (hg : G1 x s v) :
    ∃ w', (Instr.storeAt t va v).run x.P x.w = .ok () w' ∧ Sat (x.set o (x.ν o) (.row T (updEx e ix off ds) ver) w') w0 M ∧ Ext x (x.set o (x.ν o) (.row T (updEx e ix off ds) ver) w') := by
  obtain ⟨hix, _, hval⟩ := ha
  obtain ⟨ts', b, n, cap, q1, q2, q3, q4, rfl⟩ := (hval T e ver hl).2 rfl
  rw [hts] at q1
  cases q1
  have ho := hs.objs o
  rw [hl] at ho
  obtain ⟨hsc, ts', n', xs, p1, p2, p3, p4, p5⟩ := ho
  rw [hts] at p1
  cases p1
  have hown := p2
  rw [q2] at p2
  obtain ⟨hxl, r2⟩ := p2
  rcases r2 with ⟨r2, _⟩ | ⟨g, cap', cur, r2, r3, r4, r5, r6, r7, r8⟩
  · cases r2
  simp only [Value.slice.injEq, Option.some.injEq, Addr.mk.injEq, and_true] at r2
  obtain ⟨rfl, rfl, rfl⟩ := r2
  obtain ⟨g1, g2⟩ := cells_ok hs hsol hg
  have hvn : v.cells.size = inf.size := by rw [g1.1, hn]
  have hin : (ix.den x.e).int.toNat < n := by omega
  have hmul : ((ix.den x.e).int.toNat + 1) * ts.length ≤ n * ts.length := Nat.mul_le_mul_right _ hin
  have hmul2 : n * ts.length ≤ cap * ts.length := Nat.mul_le_mul_right _ r5
  rw [Nat.add_mul, Nat.one_mul] at hmul
  have hrun := run_store_cells (P := x.P) r4 (t := t) hi (off := (ix.den x.e).int.toNat * ts.length + off) hvn (by omega) g2
  obtain ⟨t1, t2, t3⟩ := toDatas_ok hds
  have hup := updEx_ok (x := x) (ts := ts) (ix := ix) (i := (ix.den x.e).int.toNat) hix (by omega) ds v.cells.toList off e xs hsc (by rw [p3]; exact hxl) (by omega) p4 (by rw [t2, hn]; exact hfit) (by simp [t2, hn, hvn]) (fun j t' d v' h1 h2 h3 => by
    have hjs : j < s.cells.length := by rw [← t2]; exact (List.getElem?_eq_some_iff.1 h2).1
    have e1 : ((ts.drop off).take inf.size)[j]? = some t' := by rw [List.getElem?_take, if_pos (by omega), List.getElem?_drop]; exact h1
    have hd := t3 j t' _ d e1 (List.getElem?_eq_getElem hjs) h2
    have hgg := g1.2 j _ (List.getElem?_eq_getElem hjs)
    have hv' : v.cells.getD j undef = v' := by
      have hj' : j < v.cells.size := by omega
      rw [Array.getElem?_toList, Array.getElem?_eq_getElem hj'] at h3
      simp only [Option.some.injEq] at h3
      simp [Array.getD_eq_getD_getElem?, hj', h3]
    rw [hv'] at hgg
    exact toData_ok hd hgg)
  have hfin : (x.w.setRow b (cur.toList.take ((ix.den x.e).int.toNat * ts.length + off) ++ v.cells.toList ++ cur.toList.drop ((ix.den x.e).int.toNat * ts.length + off + v.cells.toList.length)).toArray).ownsRow 0 T ts.length (.slice (some ⟨b, 0, none⟩) n cap) n
      (xs.take ((ix.den x.e).int.toNat * ts.length + off) ++ v.cells.toList ++ xs.drop ((ix.den x.e).int.toNat * ts.length + off + v.cells.toList.length)) := by
    have hvl : v.cells.toList.length = inf.size := by simpa using hvn
    refine ⟨?_, .inr ⟨b, cap, _, rfl, Nat.zero_le _, setRow_heap x.w b cur _ T (0, 0) r4, r5, r6, ?_, ?_⟩⟩
    · simp only [List.length_append, List.length_take, List.length_drop, hvl]; omega
    · simp only [List.size_toArray, List.length_append, List.length_take, List.length_drop, Array.length_toList, hvl]; omega
    · rw [← r8]
      apply List.ext_getElem?
      intro j
      have hcl : cur.toList.length = cap * ts.length := by simpa using r7
      by_cases hj : j < n * ts.length
      · rw [List.getElem?_take, if_pos hj]
        have a1 := take_mid (l := cur.toList) (m := v.cells.toList) (off := (ix.den x.e).int.toNat * ts.length + off) (j := j) undef (by omega)
        have a2 := take_mid (l := cur.toList.take (n * ts.length)) (m := v.cells.toList) (off := (ix.den x.e).int.toNat * ts.length + off) (j := j) undef (by rw [List.length_take]; omega)
        have b1 : j < (cur.toList.take ((ix.den x.e).int.toNat * ts.length + off) ++ v.cells.toList ++ cur.toList.drop ((ix.den x.e).int.toNat * ts.length + off + v.cells.toList.length)).length := by
          simp only [List.length_append, List.length_take, List.length_drop, hvl]; omega
        have b2 : j < ((cur.toList.take (n * ts.length)).take ((ix.den x.e).int.toNat * ts.length + off) ++ v.cells.toList ++ (cur.toList.take (n * ts.length)).drop ((ix.den x.e).int.toNat * ts.length + off + v.cells.toList.length)).length := by
          simp only [List.length_append, List.length_take, List.length_drop, hvl]; omega
        rw [List.toList_toArray, List.getElem?_eq_getElem b1, List.getElem?_eq_getElem b2]
        rw [List.getD_eq_getElem?_getD, List.getElem?_eq_getElem b1] at a1
        rw [List.getD_eq_getElem?_getD, List.getElem?_eq_getElem b2] at a2
        simp only [Option.getD_some] at a1 a2
        rw [a1, a2]
        have : (cur.toList.take (n * ts.length)).getD j undef = cur.toList.getD j undef := by simp only [List.getD_eq_getElem?_getD, List.getElem?_take, if_pos hj]
        rw [this]
      · rw [List.getElem?_take, if_neg hj, List.getElem?_eq_none]
        simp only [List.length_append, List.length_take, List.length_drop, hvl]; omega
  have hnb : (x.ν o).ownBlock = some b := by rw [q2]; rfl
  have hgrow : x.w.grownBy (x.w.setRow b (cur.toList.take ((ix.den x.e).int.toNat * ts.length + off) ++ v.cells.toList ++ cur.toList.drop ((ix.den x.e).int.toNat * ts.length + off + v.cells.toList.length)).toArray) (x.ν o).ownBlock :=
    ⟨rfl, rfl, rfl, by simp [World.setRow], fun k _ hk => setRow_other _ _ _ _ (fun hkb => hk (by rw [hnb, hkb]))⟩
  refine ⟨_, hrun, ?_⟩
  have hfinal := mod_row (v := x.ν o) (u := ver) hs hl hts hup.1 (by rw [q2]; exact hfin) hgrow (fun b' h => .inl h) (by rw [hup.2.1, p3]) (Nat.le_refl _) (fun _ => rfl) hup.2.2
  exact ⟨hfinal.1, hfinal.2.1⟩

end
end Glx
namespace Glx
open Go

section
variable {x : Env} {w0 : World} {M : Nat → Prop}

/-! ### Structs, arrays -/
def symFill (place : Nat → Option (Nat × Nat)) : List SV → List (Nat × S1) → Option (List SV)
  | l, [] => some l
  | l, (i, s) :: rest => match place i with
    | none => none
    | some (off, size) => if s.cells.length = size ∧ off + size ≤ l.length then symFill place (l.take off ++ s.cells ++ l.drop (off + size)) rest else none

theorem GL_patch {l m : List SV} {c d : Array Value} {off : Nat} (h1 : GL x l c) (h2 : GL x m d) (hfit : off + m.length ≤ l.length) :
    GL x (l.take off ++ m ++ l.drop (off + m.length)) (d.zipIdx.foldl (fun cs (c, j) => cs.setIfInBounds (off + j) c) c) := by
  have hf := Great.foldl_set off d.toList 0 c
  have hz : d.zipIdx.foldl (fun cs (c, j) => cs.setIfInBounds (off + j) c) c = (d.toList.zipIdx 0).foldl (fun cs (y : Value × Nat) => cs.setIfInBounds (off + y.2) y.1) c := by
    rw [← Array.foldl_toList, Array.toList_zipIdx]
  rw [hz]
  have hdl : d.toList.length = m.length := by rw [Array.length_toList, h2.1]
  refine ⟨?_, fun j s hj => ?_⟩
  · rw [hf.1]
    simp only [List.length_append, List.length_take, List.length_drop, h1.1]; omega
  · have hjl : j < l.length := by
      have := (List.getElem?_eq_some_iff.1 hj).1
      simp only [List.length_append, List.length_take, List.length_drop] at this
      omega
    have e2 := take_mid (l := l) (m := m) (off := off) (j := j) SV.top hfit
    rw [List.getD_eq_getElem?_getD, hj] at e2
    simp only [Option.getD_some] at e2
    subst e2
    rw [Array.getD_eq_getD_getElem?, hf.2 j]
    simp only [Nat.add_zero, hdl]
    split
    · rename_i h3
      rw [if_neg (by omega)]
      have := h1.2 j _ (List.getElem?_eq_getElem hjl)
      simpa [hjl, Array.getD_eq_getD_getElem?, List.getD_eq_getElem?_getD] using this
    · split
      · rename_i h3 h4
        rw [if_pos ⟨by omega, h4, by rw [h1.1]; exact hjl⟩, Array.getElem?_toList]
        have hjm : j - off < m.length := by omega
        have := h2.2 (j - off) _ (List.getElem?_eq_getElem hjm)
        simpa [hjm, Array.getD_eq_getD_getElem?, List.getD_eq_getElem?_getD] using this
      · rename_i h3 h4
        rw [if_neg (by omega)]
        have := h1.2 j _ (List.getElem?_eq_getElem hjl)
        simpa [hjl, Array.getD_eq_getD_getElem?, List.getD_eq_getElem?_getD] using this

/-- parts and their values -/
def PartsOk (x : Env) : List (Nat × S1) → List (Nat × Value) → Prop
  | [], [] => True
  | (i, s) :: ps, (j, v) :: vs => i = j ∧ GL x s.cells v.cells ∧ PartsOk x ps vs
  | _, _ => False

theorem symFill_ok {place : Nat → Option (Nat × Nat)} : ∀ {ps : List (Nat × S1)} {vs : List (Nat × Value)} {l r : List SV} {c : Array Value}, symFill place l ps = some r → PartsOk x ps vs → GL x l c →
    ∃ d, Instr.fill place c vs = some d ∧ GL x r d
  | [], [], l, r, c, h, _, hl => by
    simp only [symFill, Option.some.injEq] at h
    subst h
    exact ⟨c, rfl, hl⟩
  | (i, s) :: ps, (j, v) :: vs, l, r, c, h, hp, hl => by
    obtain ⟨rfl, hg, hp⟩ := hp
    simp only [symFill] at h
    split at h
    · cases h
    · rename_i off size hpl
      split at h
      · rename_i hc
        obtain ⟨h1, h2⟩ := hc
        subst h1
        obtain ⟨d, hd, hr⟩ := symFill_ok h hp (GL_patch hl hg h2)
        refine ⟨d, ?_, hr⟩
        simp only [Instr.fill, hpl]
        rw [if_neg (by simp [hg.1, hl.1]; omega)]
        exact hd
      · cases h
  | [], _ :: _, _, _, _, _, hp, _ => hp.elim
  | _ :: _, [], _, _, _, _, hp, _ => hp.elim

def symBuild (P : Program) (t : TypeId) (ps : List (Nat × S1)) : Option (List SV) :=
  (P.info? t).bind fun it => it.zero.bind fun z => (constS1 z).bind fun s0 =>
  match P.underlying t, s0 with
  | some (.struct fields), .agg l0 => (fields.toList.mapM fun f => (P.info? f.type).map fun i => (f.offset, i.size)).bind fun places => symFill (places[·]?) l0 ps
  | some (.array _ e), .agg l0 => (P.info? e).bind fun ie => symFill (fun i => some (i * ie.size, ie.size)) l0 ps
  | _, _ => none

theorem symBuild_ok {t : TypeId} {ps : List (Nat × S1)} {l : List SV} (h : symBuild x.P t ps = some l) {vs : Array (Nat × Value)} (hp : PartsOk x ps vs.toList) (w : World) :
    ∃ c, (Instr.build t vs).run x.P w = .ok (.agg c) w ∧ GL x l c := by
  unfold symBuild at h
  obtain ⟨it, hit, h⟩ := Option.bind_eq_some_iff.1 h
  obtain ⟨z, hz, h⟩ := Option.bind_eq_some_iff.1 h
  obtain ⟨s0, hs0, h⟩ := Option.bind_eq_some_iff.1 h
  have hg0 := constS1_ok (x := x) hs0
  split at h
  · rename_i fields l0 hu
    obtain ⟨places, hpl, h2⟩ := Option.bind_eq_some_iff.1 h
    obtain ⟨c0, rfl, hl0⟩ := hg0
    obtain ⟨d, hd, hr⟩ := symFill_ok h2 hp hl0
    exact ⟨d, run_build w t vs d (by simp only [Program.built, hit, hu, hz, hpl, Value.cells]; rw [← hd]; congr 1; funext i; exact List.getElem?_toArray), hr⟩
  · rename_i n e l0 hu
    obtain ⟨ie, hie, h2⟩ := Option.bind_eq_some_iff.1 h
    obtain ⟨c0, rfl, hl0⟩ := hg0
    obtain ⟨d, hd, hr⟩ := symFill_ok h2 hp hl0
    exact ⟨d, run_build w t vs d (by simp only [Program.built, hit, hu, hz, hie, Value.cells]; exact hd), hr⟩
  · cases h

/-! ### Rows side by side -/
theorem RdRows.append {P : Program} {I : Nat → Prop} {h : Array Obj} {ts : List LTy} {xs ys : List Value} {rows more : List (List D)} (h1 : RdRows P I h ts xs rows) (hx : xs.length = rows.length * ts.length)
    (h2 : RdRows P I h ts ys more) : RdRows P I h ts (xs ++ ys) (rows ++ more) := by
  refine ⟨fun r hr => (List.mem_append.1 hr).elim (h1.1 r) (h2.1 r), fun i j t hi ht => ?_⟩
  have hj := (List.getElem?_eq_some_iff.1 ht).1
  by_cases hir : i < rows.length
  · have hmul : (i + 1) * ts.length ≤ rows.length * ts.length := Nat.mul_le_mul_right _ hir
    rw [Nat.add_mul, Nat.one_mul] at hmul
    have := h1.2 i j t hir ht
    simp only [List.getD_eq_getElem?_getD] at this ⊢
    rw [List.getElem?_append_left (by omega), List.getElem?_append_left hir]
    exact this
  · have hmul : rows.length * ts.length ≤ i * ts.length := Nat.mul_le_mul_right _ (by omega)
    simp only [List.length_append] at hi
    have := h2.2 (i - rows.length) j t (by omega) ht
    simp only [List.getD_eq_getElem?_getD] at this ⊢
    rw [List.getElem?_append_right (by omega), List.getElem?_append_right (by omega)]
    rw [Nat.sub_mul] at this
    rw [show i * ts.length + j - xs.length = i * ts.length - rows.length * ts.length + j by omega]
    exact this

/-- the rows that are written out -/
def rowsEx : List (List Ex) → Ex → Ex
  | [], a => a
  | r :: rs, a => rowsEx rs (.app a (.row (rowEx r)))

theorem rowEx_den (e : List D) : ∀ l : List Ex, ((rowEx l).den e).cells = l.map (Ex.den e)
  | [] => rfl
  | d :: l => by simp [rowEx, Ex.den, rowEx_den e l]
theorem rowEx_sc {n : Nat} : ∀ {l : List Ex}, (∀ d ∈ l, d.sc n = true) → (rowEx l).sc n = true
  | [], _ => rfl
  | d :: l, h => by simp [rowEx, Ex.sc, h d (List.mem_cons_self ..), rowEx_sc (l := l) fun d' hd => h d' (List.mem_cons_of_mem _ hd)]
theorem rowsEx_den (e : List D) : ∀ (rs : List (List Ex)) (a : Ex), ((rowsEx rs a).den e).rows = (a.den e).rows ++ rs.map fun r => r.map (Ex.den e)
  | [], a => by simp [rowsEx]
  | r :: rs, a => by rw [rowsEx, rowsEx_den e rs]; simp [Ex.den, rowEx_den]
theorem rowsEx_sc {n : Nat} : ∀ {rs : List (List Ex)} {a : Ex}, a.sc n = true → (∀ r ∈ rs, ∀ d ∈ r, d.sc n = true) → (rowsEx rs a).sc n = true
  | [], a, ha, _ => ha
  | r :: rs, a, ha, h => rowsEx_sc (rs := rs) (by simp [Ex.sc, ha, rowEx_sc (h r (List.mem_cons_self ..))]) fun r' hr => h r' (List.mem_cons_of_mem _ hr)

/-- the data of the parts of a slice that is written out: numbered from 0, each of an element's cells -/
def litRows (ts : List LTy) : Nat → List (Nat × S1) → Option (List (List Ex))
  | _, [] => some []
  | n, (i, s) :: ps => if i = n then (toDatas ts s.cells).bind fun r => (litRows ts (n + 1) ps).map (r :: ·) else none

theorem litRows_ok {ts : List LTy} : ∀ {ps : List (Nat × S1)} {n : Nat} {rs : List (List Ex)} {vs : List (Nat × Value)}, litRows ts n ps = some rs → PartsOk x ps vs →
    vs = ((vs.map (·.2)).zipIdx n).map (fun y => (y.2, y.1)) ∧ (∀ v ∈ vs.map (·.2), v.cells.size = ts.length) ∧ rs.length = vs.length ∧ (∀ r ∈ rs, ∀ d ∈ r, d.sc x.e.length = true) ∧
      RdRows x.P x.I x.w.heap ts ((vs.map (·.2)).flatMap fun v => v.cells.toList) (rs.map fun r => r.map (Ex.den x.e))
  | [], n, rs, [], h, _ => by
    simp only [litRows, Option.some.injEq] at h
    subst h
    simp [RdRows]
  | (i, s) :: ps, n, rs, (j, v) :: vs, h, hp => by
    obtain ⟨rfl, hg, hp⟩ := hp
    simp only [litRows, Option.ite_none_right_eq_some] at h
    obtain ⟨rfl, h⟩ := h
    obtain ⟨r, hr, h⟩ := Option.bind_eq_some_iff.1 h
    obtain ⟨rs', hrs, rfl⟩ := Option.map_eq_some_iff.1 h
    obtain ⟨a, b, c, d, e⟩ := litRows_ok hrs hp
    obtain ⟨t1, t2, t3⟩ := toDatas_ok hr
    have hcell : ∀ j' t' d', ts[j']? = some t' → r[j']? = some d' → d'.sc x.e.length = true ∧ Rd x.P x.I x.w.heap t' (v.cells.getD j' undef) (d'.den x.e) := by
      intro j' t' d' q1 q2
      have hj : j' < s.cells.length := by rw [← t2]; exact (List.getElem?_eq_some_iff.1 q2).1
      have := t3 j' t' _ d' q1 (List.getElem?_eq_getElem hj) q2
      exact toData_ok this (hg.2 j' _ (List.getElem?_eq_getElem hj))
    have hvs : v.cells.size = ts.length := by rw [hg.1, t1]
    refine ⟨?_, ?_, ?_, ?_, ?_⟩
    · simp only [List.map_cons, List.zipIdx_cons]
      rw [← a]
    · intro u hu
      rcases List.mem_cons.1 hu with h1 | h1
      · subst h1; exact hvs
      · exact b u h1
    · simp [c]
    · intro r' hr' d' hd'
      rcases List.mem_cons.1 hr' with h1 | h1
      · subst h1
        obtain ⟨j', hj', rfl⟩ := List.getElem_of_mem hd'
        have hjt : j' < ts.length := by omega
        exact (hcell j' _ _ (List.getElem?_eq_getElem hjt) (List.getElem?_eq_getElem hj')).1
      · exact d r' h1 d' hd'
    · simp only [List.map_cons, List.flatMap_cons]
      have h1 : RdRows x.P x.I x.w.heap ts v.cells.toList [r.map (Ex.den x.e)] := by
        refine ⟨fun q hq => by rw [List.mem_singleton] at hq; subst hq; simp [t2, t1], fun i' j' t' hi ht => ?_⟩
        have hi0 : i' = 0 := by simp only [List.length_singleton] at hi; omega
        subst hi0
        have hjt := (List.getElem?_eq_some_iff.1 ht).1
        have hjr : j' < r.length := by omega
        have := (hcell j' t' _ ht (List.getElem?_eq_getElem hjr)).2
        simpa [hjr, Array.getD_eq_getD_getElem?, List.getD_eq_getElem?_getD] using this
      exact h1.append (by simp [hvs]) e

theorem buildSlice_ok (hs : Sat x w0 M) {k : Nat} (hk : look x.H k = .unborn) {t T : TypeId} (ht : sliceOf x.P t = some T) {ts : List LTy} (hts : tys x.P T = some ts) {n : Nat} {ps : List (Nat × S1)} {rs : List (List Ex)}
    (hr : litRows ts 0 ps = some rs) (hn : ps.length = n) (hpos : n ≠ 0) (hbig : n * ts.length ≤ 16777216) (hz : ((x.P.info? T).bind (·.zero)).isSome = true) {vs : Array (Nat × Value)} (hp : PartsOk x ps vs.toList) :
    ∃ u w', (Instr.buildSlice t n vs).run x.P x.w = .ok u w' ∧ Sat (x.set k u (.row T (rowsEx rs .nil) 0) w') w0 M ∧ Ext x (x.set k u (.row T (rowsEx rs .nil) 0) w') ∧ G (x.set k u (.row T (rowsEx rs .nil) 0) w') (.own k 0) u := by
  obtain ⟨a, b, c, d, e⟩ := litRows_ok hr hp
  obtain ⟨inf, hinf, hsz, hne⟩ := tys_size hts
  have hposts : 0 < ts.length := List.length_pos_iff.2 hne
  obtain ⟨z, hzz⟩ := Option.isSome_iff_exists.1 hz
  rw [hinf, Option.bind_some] at hzz
  have hlen : ∀ (ps : List (Nat × S1)) (vs : List (Nat × Value)), PartsOk x ps vs → ps.length = vs.length := by
    intro ps
    induction ps with
    | nil => intro vs h; cases vs with | nil => rfl | cons _ _ => exact h.elim
    | cons p ps ih => intro vs h; cases vs with | nil => exact h.elim | cons _ _ => simp [ih _ h.2.2]
  have hvn : vs.toList.length = n := by rw [← hlen _ _ hp, hn]
  have hmap : (vs.toList.map (·.2)).length = n := by simpa using hvn
  have hfill := Great.fill_whole hposts (vs.toList.map (·.2)) ((Array.range (n * inf.size)).map (z.cells[· % z.cells.size]!)) b (by rw [hmap]; simp [hsz])
  rw [← a] at hfill
  have hmulpos : 0 < n * ts.length := Nat.mul_pos (by omega) hposts
  have hrun := run_buildSlice (P := x.P) x.w t T n vs _ inf z (sliceOf_spec ht) hinf hzz (by rw [hsz]; omega) (by rw [hsz]; omega) (by rw [← hsz] at hfill; exact hfill)
  have hflat : ((vs.toList.map (·.2)).flatMap fun v => v.cells.toList).length = n * ts.length := by
    have : ∀ (l : List Value), (∀ v ∈ l, v.cells.size = ts.length) → (l.flatMap fun v => v.cells.toList).length = l.length * ts.length := by
      intro l
      induction l with
      | nil => intro _; simp
      | cons v l ih => intro h; simp [ih fun v' hv => h v' (List.mem_cons_of_mem _ hv), h v (List.mem_cons_self ..), Nat.add_mul]; omega
    rw [this _ b, hmap]
  have hown := World.ownsRow_lit (base := 0) (e := T) (size := ts.length) x.w ((vs.toList.map (·.2)).flatMap fun v => v.cells.toList).toArray n (Nat.zero_le _) (by simp [maxLen]; have := Nat.le_mul_of_pos_right n hposts; omega) (by simpa using hflat)
  have hrows : ((rowsEx rs .nil).den x.e).rows = rs.map fun r => r.map (Ex.den x.e) := by rw [rowsEx_den]; rfl
  obtain ⟨q1, q2, q3⟩ := new_row (v := .slice (some ⟨x.w.heap.size, 0, none⟩) n n) hs hk hts (e := rowsEx rs .nil) (rowsEx_sc rfl d) hown (World.grownBy_alloc _ _ _) (fun b hb => by cases hb; exact Nat.le_refl _)
    (by rw [hrows]; simp [c]; simpa using hvn) (by rw [hrows]; simpa using e)
  exact ⟨_, _, hrun, q1, q2, q3⟩

end
end Glx
namespace Glx
open Go

section
variable {P : Program}

theorem append_blk {w : World} {base : Nat} {t ty e : TypeId} {i : TypeInfo} {z : Value} (ht : P.underlying t = some (.slice e)) (hi : P.info? e = some i) (hz : i.zero = some z)
    {v : Value} {n : Nat} {xs : List Value} (hown : w.ownsRow base e i.size v n xs) {a : Addr} {m c : Nat} {news : List Value} (hl : news.length = m * i.size) (hnews : ∀ j u, news[j]? = some u → w.cell? (a.add j) = some u)
    (h1 : ∀ u ∈ news, u.oneCell' = true) (h63 : n + m ≤ maxLen) (hbytes : (n + m) * i.bytes ≤ 140737488355328) {v' : Value} {w' : World}
    (hrun : (Builtin.append_ #[t, t] ty #[v, .slice (some a) m c]).run P w = .ok v' w') (hnil : v' = .slice none 0 0 ↔ v = .slice none 0 0 ∧ m = 0) :
    ∀ b, v'.ownBlock = some b → v.ownBlock = some b ∨ w.heap.size ≤ b := by
  intro b hb
  rcases hown.2 with ⟨rfl, rfl⟩ | ⟨g, cap, cur, rfl, hbg, hg, hnc, hcm, hcs, htake⟩
  · by_cases hm : m = 0
    · rw [hnil.2 ⟨rfl, hm⟩] at hb; cases hb
    · have hr := run_append_nil (P := P) w t ty e i z ht hi hz a m c news hl hnews (by omega) (by simp only [maxLen] at h63; omega) (by have hb := hbytes; simp only [Nat.zero_add] at hb; omega)
      rw [hr] at hrun
      simp only [Result.ok.injEq] at hrun
      rw [← hrun.1] at hb
      cases hb
      exact .inr (Nat.le_refl _)
  · by_cases hroom : n + m ≤ cap
    · have hfit : n * i.size + news.length ≤ cur.size := by rw [hl, hcs, ← Nat.add_mul]; exact Nat.mul_le_mul_right _ hroom
      have hr := run_append_room (P := P) w t ty e i ht hi g n cap cur hg a m c news hl hnews h1 hroom hfit
      rw [hr] at hrun
      simp only [Result.ok.injEq] at hrun
      rw [← hrun.1] at hb
      cases hb
      exact .inl rfl
    · have holds : ∀ j u, xs[j]? = some u → w.cell? ((⟨g, 0, none⟩ : Addr).add j) = some u := hown.cells (g := g) rfl
      have hr := run_append_grow (P := P) w t ty e i z ht hi hz ⟨g, 0, none⟩ n cap xs hown.1 holds a m c news hl hnews (by omega) (by simp only [maxLen] at h63; omega) (growslice_fits (by omega) hbytes)
      rw [hr] at hrun
      simp only [Result.ok.injEq] at hrun
      rw [← hrun.1] at hb
      cases hb
      exact .inr (Nat.le_refl _)

theorem append_blk_string {w : World} {base : Nat} {t u ty e : TypeId} {i : TypeInfo} {z : Value} (ht : P.underlying t = some (.slice e)) (hu : P.underlying u = some .string) (hi : P.info? e = some i) (hz : i.zero = some z) (hs1 : i.size = 1) (hby : i.bytes = 1)
    {v : Value} {n : Nat} {xs : List Value} (hown : w.ownsRow base e 1 v n xs) {s : ByteArray} (h63 : n + s.size ≤ maxLen) (hbytes : n + s.size ≤ 140737488355328) {v' : Value} {w' : World}
    (hrun : (Builtin.append_ #[t, u] ty #[v, .string s]).run P w = .ok v' w') (hnil : v' = .slice none 0 0 ↔ v = .slice none 0 0 ∧ s.size = 0) :
    ∀ b, v'.ownBlock = some b → v.ownBlock = some b ∨ w.heap.size ≤ b := by
  intro b hb
  rcases hown.2 with ⟨rfl, rfl⟩ | ⟨g, cap, cur, rfl, hbg, hg, hnc, hcm, hcs, htake⟩
  · by_cases hm : s.size = 0
    · rw [hnil.2 ⟨rfl, hm⟩] at hb; cases hb
    · have hr := run_append_nil_string (P := P) w t u ty e i z ht hu hi hz s (by omega) (by simp only [maxLen] at h63; omega) (by rw [hby]; omega)
      rw [hr] at hrun
      simp only [Result.ok.injEq] at hrun
      rw [← hrun.1] at hb
      cases hb
      exact .inr (Nat.le_refl _)
  · by_cases hroom : n + s.size ≤ cap
    · have hr := Lib.run_append_room_string (P := P) w t u ty e i ht hu hi hs1 g n cap cur hg s hroom (by omega)
      rw [hr] at hrun
      simp only [Result.ok.injEq] at hrun
      rw [← hrun.1] at hb
      cases hb
      exact .inl rfl
    · have holds : ∀ j u, xs[j]? = some u → w.cell? ((⟨g, 0, none⟩ : Addr).add j) = some u := hown.cells (g := g) rfl
      have hr := Lib.run_append_grow_string (P := P) w t u ty e i z ht hu hi hz ⟨g, 0, none⟩ n cap xs (by rw [hs1]; exact hown.1) holds s (by omega) (by simp only [maxLen] at h63; omega) (growslice_fits (by omega) (by rw [hby]; omega))
      rw [hr] at hrun
      simp only [Result.ok.injEq] at hrun
      rw [← hrun.1] at hb
      cases hb
      exact .inr (Nat.le_refl _)

theorem Rd.oneCell {I : Nat → Prop} {h : Array Obj} {t : LTy} {v : Value} {d : D} (hr : Rd P I h t v d) : v.oneCell' = true := by cases hr <;> rfl

theorem RdRows.oneCell {I : Nat → Prop} {h : Array Obj} {ts : List LTy} {xs : List Value} {rows : List (List D)} (hr : RdRows P I h ts xs rows) (hl : xs.length = rows.length * ts.length) : ∀ u ∈ xs, u.oneCell' = true := by
  intro u hu
  obtain ⟨p, hp, rfl⟩ := List.getElem_of_mem hu
  have hpos : 0 < ts.length := by
    rcases Nat.eq_zero_or_pos ts.length with h0 | h0
    · rw [h0, Nat.mul_zero] at hl; omega
    · exact h0
  have hi : p / ts.length < rows.length := by
    rw [hl] at hp
    exact Nat.div_lt_of_lt_mul (by rw [Nat.mul_comm]; exact hp)
  have hj : p % ts.length < ts.length := Nat.mod_lt _ hpos
  have := hr.2 (p / ts.length) (p % ts.length) _ hi (List.getElem?_eq_getElem hj)
  have hpe : p / ts.length * ts.length + p % ts.length = p := by rw [Nat.mul_comm]; exact Nat.div_add_mod p ts.length
  rw [hpe, List.getD_eq_getElem?_getD, List.getElem?_eq_getElem hp] at this
  exact this.oneCell

end

section
variable {x : Env} {w0 : World} {M : Nat → Prop}

/-- a slice that is read on the spot: where it lies, and what its cells are -/
theorem borrow_reads (hs : Sat x w0 M) {s : SV} {T : TypeId} {e : Ex} (h : borrow x.H s = some (T, e)) {v : Value} (hg : G x s v) :
    e.sc x.e.length = true ∧ ((v = .slice none 0 0 ∧ (e.den x.e).rows = []) ∨ ∃ ts a n cap news, tys x.P T = some ts ∧ v = .slice (some a) n cap ∧ (e.den x.e).rows.length = n ∧ news.length = n * ts.length ∧
      (∀ j u, news[j]? = some u → x.w.cell? (a.add j) = some u) ∧ RdRows x.P x.I x.w.heap ts news (e.den x.e).rows) := by
  have go : ∀ {I : Nat → Prop} {ts : List LTy} {b off n cap : Nat} {c : Array Value} {E : TypeId} {fz : Nat × Nat}, tys x.P T = some ts → x.w.heap[b]? = some (.cells c E fz) → (e.den x.e).rows.length = n → off + n * ts.length ≤ c.size →
      RdRows x.P I x.w.heap ts ((c.toList.drop off).take (n * ts.length)) (e.den x.e).rows → (∃ news : List Value, news.length = n * ts.length ∧ (∀ j u, news[j]? = some u → x.w.cell? ((⟨b, off, none⟩ : Addr).add j) = some u) ∧ RdRows x.P I x.w.heap ts news (e.den x.e).rows) := by
    intro I ts b off n cap c E fz h1 h2 h3 h4 h5
    refine ⟨(c.toList.drop off).take (n * ts.length), by simp; omega, fun j u hj => ?_, h5⟩
    obtain ⟨h6, h7⟩ := getElem?_drop_take hj
    rw [Addr.add_mid, cell_of_row x.w b (off + j) c E fz h2]
    simpa using h6
  cases s with
  | sl T' e' =>
    cases h
    refine ⟨hg.1, ?_⟩
    cases hg.2 with
    | nil h0 => exact .inl ⟨rfl, h0⟩
    | empty k0 h0 => exact .inr ⟨_, _, 0, 0, [], k0, rfl, by rw [h0]; rfl, by simp, by simp, by rw [h0]; exact ⟨by simp, fun i _ _ hi => absurd hi (by simp)⟩⟩
    | row k1 k2 k3 k4 k5 k6 k7 k8 =>
      rename_i ts b off n cap c E fz
      obtain ⟨news, n1, n2, n3⟩ := go (cap := cap) k1 k3 k4 k6 (I := x.I) ⟨k7, fun i j t hi ht => by
        have := k8 i j t (by omega) ht
        have hj := (List.getElem?_eq_some_iff.1 ht).1
        have hmul : (i + 1) * ts.length ≤ n * ts.length := Nat.mul_le_mul_right _ (by omega)
        rw [Nat.add_mul, Nat.one_mul] at hmul
        have hx : ((c.toList.drop off).take (n * ts.length)).getD (i * ts.length + j) undef = c.getD (off + i * ts.length + j) undef := by
          simp only [List.getD_eq_getElem?_getD, List.getElem?_take, if_pos (show i * ts.length + j < n * ts.length by omega), List.getElem?_drop, Array.getElem?_toList, Array.getD_eq_getD_getElem?]
          congr 2
          omega
        rwa [hx]⟩
      exact .inr ⟨ts, ⟨b, off, none⟩, n, cap, news, k1, rfl, k4, n1, n2, n3⟩
  | own o ver =>
    simp only [borrow] at h
    split at h
    · rename_i T' e' u hl
      simp only [Option.ite_none_right_eq_some, Option.some.injEq, Prod.mk.injEq] at h
      obtain ⟨hu, rfl, rfl⟩ := h
      have hv := (hg.2 _ _ u hl).2 hu
      have ho := hs.objs o
      rw [hl] at ho
      obtain ⟨hsc, ts, n, xs, h1, h2, h3, h4, _⟩ := ho
      refine ⟨hsc, ?_⟩
      rw [← hv] at h2
      rcases h2.2 with ⟨rfl, h6⟩ | ⟨g, cap, cur, rfl, _, h7, h8, _, h10, h11⟩
      · exact .inl ⟨rfl, List.eq_nil_of_length_eq_zero (by omega)⟩
      · obtain ⟨news, n1, n2, n3⟩ := go (cap := cap) (off := 0) h1 h7 h3 (by rw [Nat.zero_add, h10]; exact Nat.mul_le_mul_right _ h8) (I := x.I) (by rw [List.drop_zero, h11]; exact h4)
        exact .inr ⟨ts, ⟨g, 0, none⟩, n, cap, news, h1, rfl, h3, n1, n2, n3⟩
    · cases h
  | _ => cases h

def mkApp (a b : Ex) : Ex := if a = .nil then b else .app a b
theorem mkApp_den (e : List D) (a b : Ex) : ((mkApp a b).den e).rows = (a.den e).rows ++ (b.den e).rows := by
  unfold mkApp
  split
  · rename_i h; subst h; simp [Ex.den]
  · rfl
theorem mkApp_sc {n : Nat} {a b : Ex} (ha : a.sc n = true) (hb : b.sc n = true) : (mkApp a b).sc n = true := by
  unfold mkApp
  split
  · exact hb
  · simp [Ex.sc, ha, hb]

/-- what is appended, as rows -/
def appSrc (P : Program) (H : List SObj) (T : TypeId) (inf : TypeInfo) (ts : List LTy) (t0 t1 : TypeId) (y : SV) : Option Ex :=
  if t1 = t0 then match y with
    | .nils => some .nil
    | _ => (borrow H y).bind fun (T', e) => if T' = T then some e else none
  else match y with
    | .str e => if isStr P t1 = true ∧ ts = [.int .u8] ∧ inf.bytes = 1 ∧ (match inf.zero with | some (.int .u8 0) => true | _ => false) = true then some (.bytes e) else none
    | _ => none

def symAppend (P : Program) (H : List SObj) (t0 t1 : TypeId) (s y : SV) : Option (List Ex × Option Nat × SObj) :=
  (sliceOf P t0).bind fun T => (tys P T).bind fun ts => (P.info? T).bind fun inf => inf.zero.bind fun z =>
  if z.cells.size = ts.length ∧ 0 < inf.bytes then
    (appSrc P H T inf ts t0 t1 y).bind fun src => match s with
      | .nils => some (gds [mkCmp .leq (mkLen (mkApp .nil src)) (.ilit (140737488355328 / inf.bytes : Nat))], none, .row T (mkApp .nil src) 0)
      | .own o ver => match look H o with
        | .row T' e u => if u = ver ∧ T' = T then some (gds [mkCmp .leq (mkLen (mkApp e src)) (.ilit (140737488355328 / inf.bytes : Nat))], some o, .row T (mkApp e src) (ver + 1)) else none
        | _ => none
      | _ => none
  else none

/-- what append does to a value that owns a row -/
theorem append_run (hs : Sat x w0 M) {T : TypeId} {ts : List LTy} {inf : TypeInfo} {z : Value} {t0 t1 ty : TypeId} {y : SV} {src : Ex} (ht : x.P.underlying t0 = some (.slice T)) (hts : tys x.P T = some ts) (hi : x.P.info? T = some inf)
    (hz : inf.zero = some z) (hzs : z.cells.size = ts.length) (hb : 0 < inf.bytes) (hsrc : appSrc x.P x.H T inf ts t0 t1 y = some src) {v vy : Value} (hy : G x y vy) {base : Ex} (hbs : base.sc x.e.length = true) {n : Nat} {xs : List Value}
    (hown : x.w.ownsRow 0 T ts.length v n xs) (hn : (base.den x.e).rows.length = n) (hrd : RdRows x.P x.I x.w.heap ts xs (base.den x.e).rows)
    (hg : ((mkLen (mkApp base src)).den x.e).int ≤ ((140737488355328 / inf.bytes : Nat) : Int)) :
    ∃ v' w' n' xs', (Builtin.append_ #[t0, t1] ty #[v, vy]).run x.P x.w = .ok v' w' ∧ w'.ownsRow 0 T ts.length v' n' xs' ∧ x.w.grownBy w' v.ownBlock ∧ (∀ b, v'.ownBlock = some b → v.ownBlock = some b ∨ x.w.heap.size ≤ b) ∧
      (mkApp base src).sc x.e.length = true ∧ ((mkApp base src).den x.e).rows.length = n' ∧ RdRows x.P x.I x.w.heap ts xs' ((mkApp base src).den x.e).rows := by
  obtain ⟨inf', hi', hsz, hne⟩ := tys_size hts
  rw [hi] at hi'
  cases hi'
  have hpos : 0 < ts.length := List.length_pos_iff.2 hne
  rw [mkLen_den, mkApp_den, List.length_append] at hg
  have hbound : ∀ q : Nat, ((q : Nat) : Int) ≤ ((140737488355328 / inf.bytes : Nat) : Int) → q * inf.bytes ≤ 140737488355328 := fun q hq => (Nat.le_div_iff_mul_le hb).1 (by omega)
  have hsmall : ∀ q : Nat, q * inf.bytes ≤ 140737488355328 → q ≤ 140737488355328 := fun q hq => Nat.le_trans (Nat.le_mul_of_pos_right q hb) hq
  unfold appSrc at hsrc
  split at hsrc
  · rename_i h01
    subst h01
    have main : ∀ (e : Ex), borrow x.H y = some (T, e) → src = e → ∃ v' w' n' xs', (Builtin.append_ #[t1, t1] ty #[v, vy]).run x.P x.w = .ok v' w' ∧ w'.ownsRow 0 T ts.length v' n' xs' ∧ x.w.grownBy w' v.ownBlock ∧ (∀ b, v'.ownBlock = some b → v.ownBlock = some b ∨ x.w.heap.size ≤ b) ∧
        (mkApp base src).sc x.e.length = true ∧ ((mkApp base src).den x.e).rows.length = n' ∧ RdRows x.P x.I x.w.heap ts xs' ((mkApp base src).den x.e).rows := by
      rintro e hbor rfl
      obtain ⟨hsc, hr⟩ := borrow_reads hs hbor hy
      rcases hr with ⟨rfl, hr⟩ | ⟨ts', a, m, cap, news, k1, rfl, k2, k3, k4, k5⟩
      · refine ⟨v, x.w, n, xs, run_append_owned_none x.w 0 t1 ty T inf ts.length ht hi v n xs hown, hown, ⟨rfl, rfl, rfl, Nat.le_refl _, fun _ _ _ => rfl⟩, fun b h => .inl h, mkApp_sc hbs hsc, ?_, ?_⟩
        · rw [mkApp_den, hr, List.append_nil]; exact hn
        · rw [mkApp_den, hr, List.append_nil]; exact hrd
      · rw [hts] at k1
        cases k1
        have hby := hbound (n + m) (by omega)
        have hsm := hsmall _ hby
        have h1 := k5.oneCell (by rw [k2]; exact k3)
        obtain ⟨v', w', r1, r2, r3, r4⟩ := run_append_own (P := x.P) x.w 0 t1 ty T inf z ts.length inf.bytes ht hi hz hsz rfl hzs hpos v n xs hown a m cap news k3 k4 h1 (by simp only [maxLen]; omega) hby (Nat.zero_le _)
        refine ⟨v', w', n + m, xs ++ news, r1, r2, r3, append_blk ht hi hz (by rw [hsz]; exact hown) (by rw [hsz]; exact k3) k4 h1 (by simp only [maxLen]; omega) hby r1 r4, mkApp_sc hbs hsc, ?_, ?_⟩
        · rw [mkApp_den, List.length_append, hn, k2]
        · rw [mkApp_den]
          exact hrd.append (by rw [hn]; exact hown.1) k5
    split at hsrc
    · cases hsrc
      obtain rfl := hy
      refine ⟨v, x.w, n, xs, run_append_owned_none x.w 0 t1 ty T inf ts.length ht hi v n xs hown, hown, ⟨rfl, rfl, rfl, Nat.le_refl _, fun _ _ _ => rfl⟩, fun b h => .inl h, mkApp_sc hbs rfl, ?_, ?_⟩
      · rw [mkApp_den]; simpa [Ex.den] using hn
      · rw [mkApp_den]; simpa [Ex.den] using hrd
    · obtain ⟨⟨T', e⟩, h1, h2⟩ := Option.bind_eq_some_iff.1 hsrc
      simp only [Option.ite_none_right_eq_some, Option.some.injEq] at h2
      obtain ⟨rfl, rfl⟩ := h2
      exact main e h1 rfl
  · split at hsrc
    · rename_i e
      simp only [Option.ite_none_right_eq_some, Option.some.injEq] at hsrc
      obtain ⟨⟨hu, rfl, hby1, hz0⟩, rfl⟩ := hsrc
      obtain ⟨hsc, rfl⟩ := hy
      have hu := isStr_spec hu
      have hzz : inf.zero = some (.int .u8 0) := by
        split at hz0
        · assumption
        · cases hz0
      have hs1 : inf.size = 1 := by rw [hsz]; rfl
      have hsl : (((Ex.bytes e).den x.e).rows).length = (e.den x.e).str.size := by simp [Ex.den, bytesOf]
      rw [hsl] at hg
      have hby := hbound (n + (e.den x.e).str.size) (by omega)
      rw [hby1, Nat.mul_one] at hby
      have hml : n + (e.den x.e).str.size ≤ maxLen := by simp only [maxLen]; omega
      obtain ⟨v', w', r1, r2, r3, r4⟩ := Lib.run_append_own_string (P := x.P) x.w 0 t0 t1 ty T inf ht hu hi hzz hs1 hby1 v n xs hown (e.den x.e).str hml hby (Nat.zero_le _)
      refine ⟨v', w', n + (e.den x.e).str.size, xs ++ Lib.strCells (e.den x.e).str, r1, r2, r3, append_blk_string ht hu hi hz hs1 hby1 hown hml hby r1 r4, mkApp_sc hbs (by simp [Ex.sc, hsc]), ?_, ?_⟩
      · rw [mkApp_den, List.length_append, hn, hsl]
      · rw [mkApp_den]
        refine hrd.append (by rw [hn]; exact hown.1) ⟨?_, fun i j t hi ht => ?_⟩
        · intro r hr
          simp only [Ex.den, D.rows_l, bytesOf, List.mem_map] at hr
          obtain ⟨_, _, rfl⟩ := hr
          rfl
        · have hj : j = 0 := by have := (List.getElem?_eq_some_iff.1 ht).1; simp only [List.length_singleton] at this; omega
          subst hj
          simp only [List.getElem?_cons_zero, Option.some.injEq] at ht
          subst ht
          have hi' : i < (e.den x.e).str.data.size := by rw [hsl] at hi; exact hi
          have g0 : (e.den x.e).str.data[i]? = some (e.den x.e).str.data[i] := Array.getElem?_eq_getElem hi'
          have e1 : (Lib.strCells (e.den x.e).str).getD (i * [LTy.int .u8].length + 0) undef = .int .u8 ((e.den x.e).str.data[i].toNat) := by
            simp [Lib.strCells, g0]
          have e2 : ((((Ex.bytes e).den x.e).rows).getD i []).getD 0 default = D.i ((e.den x.e).str.data[i].toNat) := by
            simp [Ex.den, bytesOf, g0]
          rw [e1, e2]
          exact @Rd.int _ _ _ .u8 (D.i ((e.den x.e).str.data[i].toNat))
    · cases hsrc

end
end Glx
namespace Glx
open Go

/-- where a wanted block comes from: a block of the walk's own, or nil (a slice) -/
abbrev Src := List (Option (Option Nat))

def src (σ : Src) (k : Nat) : Option (Option Nat) := (σ[k]?).join

def fitE (nb : Nat) (us : List Ex) (t e : Ex) : Bool :=
  (match t with
    | .var i => decide (nb ≤ i) && (us[i - nb]? == some e)
    | _ => false) || (t == e && e.sc nb)

def curVer (H : List SObj) (o ver : Nat) : Bool := match look H o with | .row _ _ u => u == ver | _ => false

def isCells : SObj → Bool | .cells .. => true | _ => false

def fitP (σ : Src) (H' H : List SObj) : List (Nat × Nat) → List (Nat × Nat) → Bool
  | [], [] => true
  | p :: t, q :: s => isCells (look H' p.1) && isCells (look H q.1) && p.2 == q.2 && src σ p.1 == some (some q.1) && fitP σ H' H t s
  | _, _ => false

def fitSV (nb : Nat) (us : List Ex) (σ : Src) (H' H : List SObj) (t s : SV) : Bool :=
  match t, s with
  | .top, _ => true
  | .int k t, .int k' e => k == k' && fitE nb us t e
  | .bool t, .bool e => fitE nb us t e
  | .str t, .str e => fitE nb us t e
  | .sl T t, .sl T' e => T == T' && fitE nb us t e
  | .sl _ t, .nils => fitE nb us t .nil
  | .nils, .nils => true
  | .nilp, .nilp => true
  | .nilf, .nilf => true
  | .ifc t, .ifc e => fitE nb us t e
  | .ptr o' off', .ptr o off => off' == off && src σ o' == some (some o) && isCells (look H' o') && isCells (look H o)
  | .own o' u', .own o u => src σ o' == some (some o) && curVer H' o' u' && curVer H o u
  | .own o' u', .nils => src σ o' == some none && curVer H' o' u'
  | .fn f a c, .fn f' a' c' => f == f' && fitP σ H' H a a' && fitP σ H' H c c'
  | .pel T l i off, .pel T' l' i' off' => T == T' && off == off' && fitE nb us l l' && fitE nb us i i'
  | _, _ => false

def fitL (nb : Nat) (us : List Ex) (σ : Src) (H' H : List SObj) : List SV → List SV → Bool
  | [], [] => true
  | t :: ts, s :: ss => fitSV nb us σ H' H t s && fitL nb us σ H' H ts ss
  | _, _ => false

def fit1 (nb : Nat) (us : List Ex) (σ : Src) (H' H : List SObj) : S1 → S1 → Bool
  | .one .top, _ => true
  | .one t, .one s => fitSV nb us σ H' H t s
  | .agg t, .agg s => fitL nb us σ H' H t s
  | _, _ => false

def fit1s (nb : Nat) (us : List Ex) (σ : Src) (H' H : List SObj) : List S1 → List S1 → Bool
  | [], [] => true
  | t :: ts, s :: ss => fit1 nb us σ H' H t s && fit1s nb us σ H' H ts ss
  | _, _ => false

def fitS (nb : Nat) (us : List Ex) (σ : Src) (H' H : List SObj) : Slot → Slot → Bool
  | .v (.one .top), _ => true
  | .v t, .v s => fit1 nb us σ H' H t s
  | .tup t, .tup s => fit1s nb us σ H' H t s
  | _, _ => false

def fitObj (P : Program) (nb : Nat) (us : List Ex) (σ : Src) (H' H : List SObj) (k : Nat) : SObj → Bool
  | .dead | .unborn => true
  | .cells T l fz => match src σ k with
    | some (some o) => match look H o with
      | .cells T' l' fz' => T == T' && fz == fz' && fitL nb us σ H' H l l'
      | _ => false
    | _ => false
  | .row T t _ => match src σ k with
    | some (some o) => match look H o with
      | .row T' e _ => T == T' && fitE nb us t e
      | _ => false
    | some none => (tys P T).isSome && fitE nb us t .nil
    | none => false

def nuOf (x : Env) (σ : Src) (k : Nat) : Value := match src σ k with
  | some (some o) => x.ν o
  | _ => .slice none 0 0

def Env.fit (x : Env) (nb : Nat) (us : List Ex) (σ : Src) (H' : List SObj) (bor : Nat → Prop) : Env :=
  { x with I := fun b => x.I b ∨ bor b, ν := nuOf x σ, H := H', e := x.e.take nb ++ dens x.e us }

section
variable {x : Env} {nb : Nat} {us : List Ex} {σ : Src} {H' : List SObj} {bor : Nat → Prop}

theorem fitE_ok {t e : Ex} (h : fitE nb us t e = true) (hn : nb ≤ x.e.length) : t.sc (x.e.take nb ++ dens x.e us).length = true ∧ t.den (x.e.take nb ++ dens x.e us) = e.den x.e := by
  unfold fitE at h
  rw [Bool.or_eq_true] at h
  rcases h with h | h
  · split at h
    · rename_i i
      simp only [Bool.and_eq_true, decide_eq_true_eq, beq_iff_eq] at h
      obtain ⟨h1, h2⟩ := h
      have hi : i - nb < us.length := (List.getElem?_eq_some_iff.1 h2).1
      have hl : (x.e.take nb).length = nb := by simp; omega
      refine ⟨by simp [Ex.sc, dens]; omega, ?_⟩
      simp only [Ex.den, List.getD_eq_getElem?_getD]
      rw [List.getElem?_append_right (by omega), hl]
      simp [dens, h2]
    · cases h
  · simp only [Bool.and_eq_true, beq_iff_eq] at h
    obtain ⟨rfl, hs⟩ := h
    have hl : (x.e.take nb).length = nb := by simp; omega
    refine ⟨Ex.sc_mono (by simp; omega) _ hs, ?_⟩
    rw [Ex.den_ext _ _ t (by rw [hl]; exact hs)]
    have := Ex.den_ext (x.e.take nb) (x.e.drop nb) t (by rw [hl]; exact hs)
    rw [List.take_append_drop] at this
    exact this.symm

theorem isCells_spec {s : SObj} (h : isCells s = true) : ∃ T l fz, s = .cells T l fz := by
  cases s <;> first | exact ⟨_, _, _, rfl⟩ | cases h

theorem nuOf_some {k o : Nat} (h : src σ k = some (some o)) : nuOf x σ k = x.ν o := by simp [nuOf, h]
theorem nuOf_none {k : Nat} (h : src σ k = some none) : nuOf x σ k = .slice none 0 0 := by simp [nuOf, h]

theorem ptrTo_fit {o' o off : Nat} (h1 : src σ o' = some (some o)) (h2 : isCells (look H' o') = true) (h3 : isCells (look x.H o) = true) {v : Value} (hg : ptrTo x (o, off) v) : ptrTo (x.fit nb us σ H' bor) (o', off) v := by
  obtain ⟨T, l, fz, hl⟩ := isCells_spec h3
  obtain ⟨T', l', fz', hl'⟩ := isCells_spec h2
  obtain ⟨b, hb, hv⟩ := hg.2 T l fz hl
  refine ⟨by simp [Env.fit, hl', SObj.born], fun _ _ _ _ => ⟨b, ?_, hv⟩⟩
  simp only [Env.fit, nuOf_some h1]
  exact hb

theorem fitP_ok : ∀ {t s : List (Nat × Nat)} {c : List Value}, fitP σ H' x.H t s = true → ptrsTo x s c.toArray → ptrsTo (x.fit nb us σ H' bor) t c.toArray
  | [], [], c, _, hg => ⟨hg.1, fun j p hj => by simp at hj⟩
  | p :: t, q :: s, c, h, hg => by
    simp only [fitP, Bool.and_eq_true, beq_iff_eq] at h
    obtain ⟨⟨⟨⟨h1, h2⟩, h3⟩, h4⟩, h5⟩ := h
    cases c with
    | nil => have := hg.1; simp at this
    | cons v c =>
      have ih := fitP_ok h5 (c := c) ⟨by have := hg.1; simpa using this, fun j r hj => by simpa using hg.2 (j + 1) r (by simpa using hj)⟩
      refine ⟨by have := ih.1; simpa using this, fun j r hj => ?_⟩
      cases j with
      | zero =>
        simp only [List.getElem?_cons_zero, Option.some.injEq] at hj
        subst hj
        have hq := hg.2 0 q rfl
        have : ptrTo (x.fit nb us σ H' bor) (p.1, q.2) v := ptrTo_fit h4 h1 h2 (by simpa using hq)
        rw [← h3] at this
        simpa using this
      | succ j => simpa using ih.2 j r (by simpa using hj)
  | [], _ :: _, _, h, _ => by simp [fitP] at h
  | _ :: _, [], _, h, _ => by simp [fitP] at h

theorem fitSV_ok {t s : SV} (h : fitSV nb us σ H' x.H t s = true) (hn : nb ≤ x.e.length) {v : Value} (hg : G x s v) : G (x.fit nb us σ H' bor) t v := by
  unfold fitSV at h
  split at h
  · trivial
  · simp only [Bool.and_eq_true, beq_iff_eq] at h
    obtain ⟨rfl, h⟩ := h
    obtain ⟨h1, h2⟩ := fitE_ok h hn
    exact ⟨h1, by show v = .int _ (Ex.den _ _).int; simp only [Env.fit]; rw [h2]; exact hg.2⟩
  · obtain ⟨h1, h2⟩ := fitE_ok h hn
    exact ⟨h1, by show v = .bool (Ex.den _ _).bool; simp only [Env.fit]; rw [h2]; exact hg.2⟩
  · obtain ⟨h1, h2⟩ := fitE_ok h hn
    exact ⟨h1, by show v = .string (Ex.den _ _).str; simp only [Env.fit]; rw [h2]; exact hg.2⟩
  · simp only [Bool.and_eq_true, beq_iff_eq] at h
    obtain ⟨rfl, h⟩ := h
    obtain ⟨h1, h2⟩ := fitE_ok h hn
    refine ⟨h1, ?_⟩
    simp only [Env.fit]
    rw [h2]
    exact hg.2.mono (fun _ => .inl) fun _ _ => rfl
  · obtain ⟨h1, h2⟩ := fitE_ok h hn
    obtain rfl := hg
    refine ⟨h1, ?_⟩
    simp only [Env.fit]
    rw [h2]
    exact .nil rfl
  · exact hg
  · exact hg
  · exact hg
  · obtain ⟨h1, h2⟩ := fitE_ok h hn
    exact ⟨h1, by simp only [Env.fit]; rw [h2]; exact hg.2⟩
  · simp only [Bool.and_eq_true, beq_iff_eq] at h
    obtain ⟨⟨⟨rfl, h1⟩, h2⟩, h3⟩ := h
    exact ptrTo_fit h1 h2 h3 hg
  · rename_i o' u' o u
    simp only [Bool.and_eq_true, beq_iff_eq] at h
    obtain ⟨⟨h1, h2⟩, h3⟩ := h
    unfold curVer at h2 h3
    split at h2
    · rename_i T' e' w' hl'
      split at h3
      · rename_i T e w hl
        have hv := (hg.2 T e w hl).2 (by simpa using h3)
        refine ⟨by simp [Env.fit, hl', SObj.born], fun T2 e2 u2 hl2 => ?_⟩
        simp only [Env.fit] at hl2
        rw [hl'] at hl2
        cases hl2
        have h2 : w' = u' := by simpa using h2
        exact ⟨by omega, fun _ => by simp only [Env.fit, nuOf_some h1]; exact hv⟩
      · cases h3
    · cases h2
  · rename_i o' u'
    simp only [Bool.and_eq_true, beq_iff_eq] at h
    obtain ⟨h1, h2⟩ := h
    unfold curVer at h2
    split at h2
    · rename_i T' e' w' hl'
      refine ⟨by simp [Env.fit, hl', SObj.born], fun T2 e2 u2 hl2 => ?_⟩
      simp only [Env.fit] at hl2
      rw [hl'] at hl2
      cases hl2
      have h2 : w' = u' := by simpa using h2
      exact ⟨by omega, fun _ => by simp only [Env.fit, nuOf_none h1]; exact hg⟩
    · cases h2
  · simp only [Bool.and_eq_true, beq_iff_eq] at h
    obtain ⟨⟨rfl, h1⟩, h2⟩ := h
    obtain ⟨a, c, hv, g1, g2⟩ := hg
    exact ⟨a, c, hv, by simpa using fitP_ok (c := a.toList) h1 (by simpa using g1), by simpa using fitP_ok (c := c.toList) h2 (by simpa using g2)⟩
  · simp only [Bool.and_eq_true, beq_iff_eq] at h
    obtain ⟨⟨⟨rfl, rfl⟩, h1⟩, h2⟩ := h
    obtain ⟨a1, a2⟩ := fitE_ok h1 hn
    obtain ⟨b1, b2⟩ := fitE_ok h2 hn
    obtain ⟨_, _, ts, b, o, n, cap, q1, q2, q3, q4, q5⟩ := hg
    refine ⟨a1, b1, ts, b, o, n, cap, q1, ?_, ?_⟩
    · simp only [Env.fit]; rw [a2]; exact q2.mono (fun _ => .inl) fun _ _ => rfl
    · simp only [Env.fit]; rw [b2]; exact ⟨q3, q4, q5⟩
  · cases h

theorem fitL_ok : ∀ {t s : List SV} {c : List Value}, fitL nb us σ H' x.H t s = true → nb ≤ x.e.length → GL x s c.toArray → GL (x.fit nb us σ H' bor) t c.toArray
  | [], [], c, _, _, hg => ⟨hg.1, fun j p hj => by simp at hj⟩
  | p :: t, q :: s, c, h, hn, hg => by
    simp only [fitL, Bool.and_eq_true] at h
    obtain ⟨v, c', rfl, g1, g2⟩ := hg.cons
    have ih := fitL_ok h.2 hn g2
    have hv := fitSV_ok (bor := bor) h.1 hn g1
    refine ⟨by have := ih.1; simpa using this, fun j r hj => ?_⟩
    cases j with
    | zero => simp only [List.getElem?_cons_zero, Option.some.injEq] at hj; subst hj; simpa using hv
    | succ j => simpa using ih.2 j r (by simpa using hj)
  | [], _ :: _, _, h, _, _ => by simp [fitL] at h
  | _ :: _, [], _, h, _, _ => by simp [fitL] at h

theorem fit1_ok {t s : S1} (h : fit1 nb us σ H' x.H t s = true) (hn : nb ≤ x.e.length) {v : Value} (hg : G1 x s v) : G1 (x.fit nb us σ H' bor) t v := by
  unfold fit1 at h
  split at h
  · trivial
  · exact fitSV_ok (bor := bor) h hn hg
  · obtain ⟨c, hv, hl⟩ := hg
    exact ⟨c, hv, by simpa using fitL_ok (c := c.toList) (bor := bor) h hn (by simpa using hl)⟩
  · cases h

theorem fit1s_ok : ∀ {t s : List S1} {c : List Value}, fit1s nb us σ H' x.H t s = true → nb ≤ x.e.length → (c.length = s.length ∧ ∀ j r, s[j]? = some r → G1 x r (c.getD j undef)) →
    (c.length = t.length ∧ ∀ j r, t[j]? = some r → G1 (x.fit nb us σ H' bor) r (c.getD j undef))
  | [], [], c, _, _, hg => ⟨hg.1, fun j p hj => by simp at hj⟩
  | p :: t, q :: s, c, h, hn, hg => by
    simp only [fit1s, Bool.and_eq_true] at h
    cases c with
    | nil => have := hg.1; simp at this
    | cons v c =>
      have ih := fit1s_ok h.2 hn (c := c) ⟨by have := hg.1; simpa using this, fun j r hj => by simpa using hg.2 (j + 1) r (by simpa using hj)⟩
      have hv := fit1_ok (bor := bor) h.1 hn (hg.2 0 q rfl)
      refine ⟨by simp [ih.1], fun j r hj => ?_⟩
      cases j with
      | zero => simp only [List.getElem?_cons_zero, Option.some.injEq] at hj; subst hj; simpa using hv
      | succ j => simpa using ih.2 j r (by simpa using hj)
  | [], _ :: _, _, h, _, _ => by simp [fit1s] at h
  | _ :: _, [], _, h, _, _ => by simp [fit1s] at h

theorem fitS_ok {t s : Slot} (h : fitS nb us σ H' x.H t s = true) (hn : nb ≤ x.e.length) {v : Value} (hg : GS x s v) : GS (x.fit nb us σ H' bor) t v := by
  unfold fitS at h
  split at h
  · trivial
  · exact fit1_ok (bor := bor) h hn hg
  · obtain ⟨c, hv, h1, h2⟩ := hg
    have := fit1s_ok (bor := bor) h hn (c := c.toList) ⟨by simpa using h1, fun j r hj => by simpa using h2 j r hj⟩
    exact ⟨c, hv, by simpa using this.1, fun j r hj => by simpa using this.2 j r hj⟩
  · cases h

/-- the wanted blocks are as they are wanted -/
theorem fitObj_ok {w0 : World} {M : Nat → Prop} (hs : Sat x w0 M) {k : Nat} {s : SObj} (h : fitObj x.P nb us σ H' x.H k s = true) (hn : nb ≤ x.e.length)
    (hbor : ∀ o b, src σ k = some (some o) → blkOf (x.ν o) = some b → (look x.H o).loose = true → ¬ bor b) : ObjOk (x.fit nb us σ H' bor) k s := by
  cases s with
  | dead => trivial
  | unborn => trivial
  | cells T l fz =>
    simp only [fitObj] at h
    split at h
    · rename_i o hsrc
      split at h
      · rename_i T' l' fz' hl
        simp only [Bool.and_eq_true, beq_iff_eq] at h
        obtain ⟨⟨rfl, rfl⟩, h⟩ := h
        have ho := hs.objs o
        rw [hl] at ho
        obtain ⟨b, c, h1, h2, h3, h4, h5⟩ := ho
        refine ⟨b, c, by simp only [Env.fit, nuOf_some hsrc]; exact h1, h2, by simpa using fitL_ok (c := c.toList) (bor := bor) h hn (by simpa using h3), fun e => .inl (h4 e), fun e hi => ?_⟩
        rcases hi with hi | hi
        · exact h5 e hi
        · exact hbor o b hsrc (by rw [h1]; rfl) (by rw [hl, e]; rfl) hi
      · cases h
    · cases h
  | row T t u =>
    simp only [fitObj] at h
    split at h
    · rename_i o hsrc
      split at h
      · rename_i T' e u' hl
        simp only [Bool.and_eq_true, beq_iff_eq] at h
        obtain ⟨rfl, h⟩ := h
        have ho := hs.objs o
        rw [hl] at ho
        obtain ⟨hsc, ts, n, xs, h1, h2, h3, h4, h5⟩ := ho
        obtain ⟨a1, a2⟩ := fitE_ok h hn
        refine ⟨a1, ts, n, xs, h1, by simp only [Env.fit, nuOf_some hsrc]; exact h2, ?_, ?_, fun b hb hi => ?_⟩
        · simp only [Env.fit]; rw [a2]; exact h3
        · simp only [Env.fit]; rw [a2]; exact h4.mono (fun _ => .inl) fun _ _ => rfl
        · simp only [Env.fit, nuOf_some hsrc] at hb
          rcases hi with hi | hi
          · exact h5 b hb hi
          · exact hbor o b hsrc (blkOf_own hb) (by rw [hl]; rfl) hi
      · cases h
    · rename_i hsrc
      simp only [Bool.and_eq_true] at h
      obtain ⟨hts, h⟩ := h
      obtain ⟨ts, hts⟩ := Option.isSome_iff_exists.1 hts
      obtain ⟨a1, a2⟩ := fitE_ok h hn
      refine ⟨a1, ts, 0, [], hts, by simp only [Env.fit, nuOf_none hsrc]; exact World.ownsRow_nil _ _ _ _, ?_, ?_, fun b hb => ?_⟩
      · simp only [Env.fit]; rw [a2]; rfl
      · simp only [Env.fit]; rw [a2]; exact ⟨by simp [Ex.den], fun i j t hi => by simp [Ex.den] at hi⟩
      · simp only [Env.fit, nuOf_none hsrc] at hb; cases hb
    · cases h

end
end Glx
namespace Glx
open Go

def nodup : List Nat → Bool
  | [] => true
  | a :: l => !l.contains a && nodup l

theorem nodup_spec : ∀ {l : List Nat}, nodup l = true → ∀ (i j : Nat) (a : Nat), l[i]? = some a → l[j]? = some a → i = j
  | [], _, _, _, _, h, _ => by simp at h
  | b :: l, h, i, j, a, hi, hj => by
    simp only [nodup, Bool.and_eq_true, Bool.not_eq_true', List.contains_eq_mem, decide_eq_false_iff_not] at h
    cases i with
    | zero =>
      cases j with
      | zero => rfl
      | succ j =>
        simp only [List.getElem?_cons_zero, Option.some.injEq, List.getElem?_cons_succ] at hi hj
        subst hi
        exact absurd (List.mem_of_getElem? hj) h.1
    | succ i =>
      cases j with
      | zero =>
        simp only [List.getElem?_cons_zero, Option.some.injEq, List.getElem?_cons_succ] at hi hj
        subst hj
        exact absurd (List.mem_of_getElem? hi) h.1
      | succ j =>
        simp only [List.getElem?_cons_succ] at hi hj
        rw [nodup_spec h.2 i j a hi hj]

/-- the sources of the wanted live blocks, by number -/
def srcs (σ : Src) (H' : List SObj) : List Nat := (List.range H'.length).filterMap fun k => if (look H' k).live then (src σ k).join else none

theorem mem_srcs {σ : Src} {H' : List SObj} {k o : Nat} (hl : (look H' k).live = true) (h : src σ k = some (some o)) : o ∈ srcs σ H' := by
  have hk : k < H'.length := by
    rcases Nat.lt_or_ge k H'.length with h1 | h1
    · exact h1
    · simp [look, List.getD_eq_getElem?_getD, List.getElem?_eq_none h1, SObj.live] at hl
  exact List.mem_filterMap.2 ⟨k, List.mem_range.2 hk, by simp [hl, h]⟩

theorem srcs_inj : ∀ {σ : Src} {H' : List SObj}, nodup (srcs σ H') = true → ∀ (k k' o : Nat), (look H' k).live = true → (look H' k').live = true → src σ k = some (some o) → src σ k' = some (some o) → k = k' := by
  intro σ H' h k k' o h1 h2 h3 h4
  have lt : ∀ k, (look H' k).live = true → k < H'.length := by
    intro k hl
    rcases Nat.lt_or_ge k H'.length with h1 | h1
    · exact h1
    · simp [look, List.getD_eq_getElem?_getD, List.getElem?_eq_none h1, SObj.live] at hl
  -- a list of distinct numbers: a filtered range bears no number at two places
  have key : ∀ (l : List Nat), l.Nodup → nodup (l.filterMap fun k => if (look H' k).live then (src σ k).join else none) = true → k ∈ l → k' ∈ l → k = k' := by
    intro l
    induction l with
    | nil => intro _ _ h; cases h
    | cons a l ih =>
      intro hd hn hk hk'
      rw [List.nodup_cons] at hd
      have tail : nodup (l.filterMap fun k => if (look H' k).live then (src σ k).join else none) = true := by
        rw [List.filterMap_cons] at hn
        split at hn
        · exact hn
        · simp only [nodup, Bool.and_eq_true] at hn; exact hn.2
      have head : ∀ q, (look H' q).live = true → src σ q = some (some o) → a = k ∨ a = k' → q ∈ l → (look H' a).live = true → src σ a = some (some o) → False := by
        intro q hq1 hq2 _ hql ha1 ha2
        rw [List.filterMap_cons] at hn
        simp only [ha1, if_true, ha2, Option.join_some, nodup, Bool.and_eq_true, Bool.not_eq_true', List.contains_eq_mem, decide_eq_false_iff_not] at hn
        exact hn.1 (List.mem_filterMap.2 ⟨q, hql, by simp [hq1, hq2]⟩)
      rcases List.mem_cons.1 hk with e1 | hk2
      · rcases List.mem_cons.1 hk' with e2 | hk3
        · exact e1.trans e2.symm
        · exact (head k' h2 h4 (.inl e1.symm) hk3 (e1 ▸ h1) (e1 ▸ h3)).elim
      · rcases List.mem_cons.1 hk' with e2 | hk3
        · exact (head k h1 h3 (.inr e2.symm) hk2 (e2 ▸ h2) (e2 ▸ h4)).elim
        · exact ih hd.2 tail hk2 hk3
  exact key (List.range H'.length) List.nodup_range h (List.mem_range.2 (lt k h1)) (List.mem_range.2 (lt k' h2))

def fitAll (P : Program) (nb : Nat) (us : List Ex) (σ : Src) (H' H : List SObj) : Bool :=
  nodup (srcs σ H') && (List.range H'.length).all fun k => fitObj P nb us σ H' H k (look H' k)

def Mof (x : Env) (b : Nat) : Prop := ∃ o, (look x.H o).loose = true ∧ blkOf (x.ν o) = some b

section
variable {x : Env} {nb : Nat} {us : List Ex} {σ : Src} {H' : List SObj} {bor : Nat → Prop} {w0 : World} {M : Nat → Prop}

theorem look_lt {H : List SObj} {k : Nat} (h : (look H k).born = true) : k < H.length := by
  rcases Nat.lt_or_ge k H.length with h1 | h1
  · exact h1
  · simp [look, List.getD_eq_getElem?_getD, List.getElem?_eq_none h1, SObj.born] at h

theorem fitObj_src {k : Nat} {s : SObj} (h : fitObj x.P nb us σ H' x.H k s = true) (hl : s.live = true) : src σ k = some none ∨ ∃ o, src σ k = some (some o) ∧ (look x.H o).live = true ∧ (s.loose = true → (look x.H o).loose = true) := by
  cases s with
  | dead => cases hl
  | unborn => cases hl
  | cells T l fz =>
    simp only [fitObj] at h
    split at h
    · rename_i o hsrc
      split at h
      · rename_i T' l' fz' hlk
        simp only [Bool.and_eq_true, beq_iff_eq] at h
        obtain ⟨⟨rfl, rfl⟩, h⟩ := h
        exact .inr ⟨o, hsrc, by rw [hlk]; rfl, fun h => by rw [hlk]; exact h⟩
      · cases h
    · cases h
  | row T t u =>
    simp only [fitObj] at h
    split at h
    · rename_i o hsrc
      split at h
      · rename_i T' e u' hlk
        exact .inr ⟨o, hsrc, by rw [hlk]; rfl, fun _ => by rw [hlk]; rfl⟩
      · cases h
    · rename_i hsrc; exact .inl hsrc
    · cases h

/-- another picture of the same memory -/
theorem fit_sat (hs : Sat x w0 M) (h : fitAll x.P nb us σ H' x.H = true) (hn : nb ≤ x.e.length) (hborlt : ∀ b, bor b → b < x.w.heap.size)
    (hbor : ∀ k o b, (look H' k).live = true → src σ k = some (some o) → blkOf (x.ν o) = some b → (look x.H o).loose = true → ¬ bor b) {w1 : World} {M1 : Nat → Prop} (hf : Fr w1 M1 x.w)
    (hm : ∀ k b, (look H' k).loose = true → blkOf (nuOf x σ k) = some b → M1 b ∨ w1.heap.size ≤ b) : Sat (x.fit nb us σ H' bor) w1 M1 := by
  simp only [fitAll, Bool.and_eq_true, List.all_eq_true, List.mem_range] at h
  obtain ⟨hinj, hall⟩ := h
  have hob : ∀ k, fitObj x.P nb us σ H' x.H k (look H' k) = true := by
    intro k
    rcases Nat.lt_or_ge k H'.length with h1 | h1
    · exact hall k h1
    · simp [look, List.getD_eq_getElem?_getD, List.getElem?_eq_none h1, fitObj]
  refine ⟨fun k => ?_, fun k k' b hne h1 h2 h3 => ?_, fun b hb => ?_, fun k b h1 h2 => hm k b h1 h2, hf, hs.glob.mono (fun _ => .inl) fun _ _ => rfl⟩
  · show ObjOk _ k (look H' k)
    by_cases hl : (look H' k).live = true
    · exact fitObj_ok hs (hob k) hn fun o b h1 h2 h3 => hbor k o b hl h1 h2 h3
    · cases hk : look H' k <;> rw [hk] at hl <;> first | trivial | exact absurd rfl hl
  · have h1' : (look H' k).live = true := h1
    have h2' : (look H' k').live = true := h2
    simp only [Env.fit] at h3 ⊢
    rcases fitObj_src (hob k) h1' with a1 | ⟨o, a1, a2, _⟩
    · rw [nuOf_none a1] at h3; cases h3
    · rcases fitObj_src (hob k') h2' with b1 | ⟨o', b1, b2, _⟩
      · rw [nuOf_none b1]; intro h; cases h
      · rw [nuOf_some a1] at h3
        rw [nuOf_some b1]
        refine hs.apart o o' b (fun e => hne ?_) a2 b2 h3
        subst e
        exact srcs_inj hinj k k' o h1' h2' a1 b1
  · rcases hb with hb | hb
    · exact hs.ibound b hb
    · exact hborlt b hb

end

/-! ### What a function promises -/
structure Sig where
  inS : List Slot
  inH : List SObj
  inN : Nat
  outS : Slot
  outH : List SObj
  outN : Nat

/-- what is left behind -/
structure Left (s : Sig) (x y : Env) : Prop where
  P : y.P = x.P
  H : y.H = s.outH
  sat : Sat y x.w (Mof x)
  I : ∀ b, x.I b → y.I b
  back : ∀ b, y.I b → x.I b ∨ x.w.heap.size ≤ b ∨ Mof x b
  same : ∀ o T l fz, look s.outH o = .cells T l fz → o < s.inH.length → y.ν o = x.ν o

def Impl (P : Program) (K : FuncId) (s : Sig) (f : List D → Option (List D)) : Prop :=
  ∀ (x : Env) (args : Array Value), x.P = P → x.H = s.inH → x.e.length = s.inN → Sat x x.w (Mof x) → args.size = s.inS.length → (∀ i t, s.inS[i]? = some t → GS x t (args.getD i undef)) →
    ∀ r, f x.e = some r → r.length = s.outN ∧ Calls P K args x.w fun e w' => ∃ v y, e = .returned v ∧ y.w = w' ∧ y.e = r ∧ Left s x y ∧ GS y s.outS v

end Glx
namespace Glx
open Go

/-- what a call is handed, and where what it leaves goes -/
structure Hand where
  us : List Ex
  σ : Src
  bor : List Nat
  k0 : Nat
  base : Nat

def Sig.cnt (s : Sig) : Nat := s.outH.length - s.inH.length
/-- the block of the callee's that is one of the caller's -/
def Hand.corr (h : Hand) (s : Sig) (p : Nat) : Option Nat :=
  if h.k0 ≤ p ∧ p < h.k0 + s.cnt then some (s.inH.length + (p - h.k0)) else (List.range s.inH.length).find? fun k => (look s.inH k).live && (src h.σ k == some (some p))
def Hand.tau (h : Hand) (s : Sig) (k : Nat) : Nat := if k < s.inH.length then ((src h.σ k).join).getD 0 else h.k0 + (k - s.inH.length)

def renE (base : Nat) : Ex → Option Ex
  | .var i => some (.var (base + i))
  | _ => none

def Hand.ren (h : Hand) (s : Sig) : SV → SV
  | .int k e => match renE h.base e with | some e => .int k e | none => .top
  | .bool e => match renE h.base e with | some e => .bool e | none => .top
  | .str e => match renE h.base e with | some e => .str e | none => .top
  | .sl T e => match renE h.base e with | some e => .sl T e | none => .top
  | .ptr o off => if isCells (look s.outH o) then .ptr (h.tau s o) off else .top
  | .own o u => if curVer s.outH o u then .own (h.tau s o) u else .top
  | .nils => .nils
  | .nilp => .nilp
  | .nilf => .nilf
  | .ifc e => match renE h.base e with | some e => .ifc e | none => .top
  | _ => .top

def Hand.renObj (h : Hand) (s : Sig) : SObj → SObj
  | .cells T l false => .cells T (l.map (h.ren s)) false
  | .row T e u => match renE h.base e with | some e => .row T e u | none => .dead
  | _ => .dead

theorem Hand.renObj_born (h : Hand) (s : Sig) (o : SObj) : (h.renObj s o).born = true := by
  cases o with
  | cells T l fz => cases fz <;> rfl
  | row T e u =>
    simp only [Hand.renObj]
    cases renE h.base e <;> rfl
  | _ => rfl

def Hand.ren1 (h : Hand) (s : Sig) : S1 → S1
  | .one v => .one (h.ren s v)
  | .agg l => .agg (l.map (h.ren s))

def Hand.renS (h : Hand) (s : Sig) : Slot → Slot
  | .v t => .v (h.ren1 s t)
  | .tup l => .tup (l.map (h.ren1 s))

def Hand.after (h : Hand) (s : Sig) (H : List SObj) : List SObj :=
  (List.range (max H.length (h.k0 + s.cnt))).map fun p => match h.corr s p with
    | some k => h.renObj s (look s.outH k)
    | none => look H p

def plainSV : SV → Bool
  | .int .. | .bool _ | .str _ | .ptr .. | .nilp | .nilf | .ifc _ | .top => true
  | _ => false
def plain1 : S1 → Bool
  | .one s => plainSV s
  | .agg l => l.all plainSV
def plainS : Slot → Bool
  | .v s => plain1 s
  | .tup l => l.all plain1
def plainObj : SObj → Bool
  | .cells _ l _ => l.all plainSV
  | .row .. => false
  | _ => true
def Sig.plain (s : Sig) : Bool := plainS s.outS && s.outH.all plainObj

def sameT : SObj → SObj → Bool
  | .cells T _ _, .cells T' _ _ => T == T'
  | _, _ => false

theorem sameT_spec {a b : SObj} (h : sameT a b = true) : ∃ T l fz l' fz', a = .cells T l fz ∧ b = .cells T l' fz' := by
  unfold sameT at h
  split at h
  · simp only [beq_iff_eq] at h; subst h; exact ⟨_, _, _, _, _, rfl, rfl⟩
  · cases h

def fitArg (h : Hand) (s : Sig) (H : List SObj) (t a : Slot) : Bool :=
  fitS 0 h.us h.σ s.inH H t a ||
  (match t, a with
    | .v (.one (.sl T t)), .v (.one (.own o ver)) => match borrow H (.own o ver) with
      | some (T', e) => T == T' && fitE 0 h.us t e && h.bor.contains o
      | none => false
    | _, _ => false)

def fitArgs (h : Hand) (s : Sig) (H : List SObj) : List Slot → List Slot → Bool
  | [], [] => true
  | t :: ts, a :: as => fitArg h s H t a && fitArgs h s H ts as
  | _, _ => false

def callOk (P : Program) (h : Hand) (s : Sig) (H : List SObj) (As : List Slot) : Bool :=
  (h.us.length == s.inN) && fitArgs h s H s.inS As && fitAll P 0 h.us h.σ s.inH H &&
  (h.bor.all fun o => (match look H o with | .row .. => true | _ => false) && !(srcs h.σ s.inH).contains o) && (h.bor.isEmpty || s.plain) &&
  ((List.range s.inH.length).all fun k => !(look s.outH k).live || (sameT (look s.outH k) (look s.inH k) && ((src h.σ k).join).isSome)) &&
  (List.range (s.cnt)).all fun j => !(look H (h.k0 + j)).born

section
variable {z : Env} {h : Hand} {s : Sig} {w0 : World} {M : Nat → Prop}

def Hand.lent (h : Hand) (z : Env) (b : Nat) : Prop := ∃ o ∈ h.bor, blkOf (z.ν o) = some b

theorem fitArgs_ok (hs : Sat z w0 M) : ∀ {ts As : List Slot} {args : List Value}, fitArgs h s z.H ts As = true → (args.length = As.length ∧ ∀ i t, As[i]? = some t → GS z t (args.getD i undef)) →
    (args.length = ts.length ∧ ∀ i t, ts[i]? = some t → GS (z.fit 0 h.us h.σ s.inH (h.lent z)) t (args.getD i undef))
  | [], [], args, _, hg => ⟨hg.1, fun i t hi => by simp at hi⟩
  | t :: ts, a :: As, args, hf, hg => by
    simp only [fitArgs, Bool.and_eq_true] at hf
    cases args with
    | nil => have := hg.1; simp at this
    | cons v args =>
      have ih := fitArgs_ok hs hf.2 (args := args) ⟨by have := hg.1; simpa using this, fun i t hi => by simpa using hg.2 (i + 1) t (by simpa using hi)⟩
      have hv : GS z a v := hg.2 0 a rfl
      have hv' : GS (z.fit 0 h.us h.σ s.inH (h.lent z)) t v := by
        have h1 := hf.1
        unfold fitArg at h1
        rw [Bool.or_eq_true] at h1
        rcases h1 with h1 | h1
        · exact fitS_ok h1 (Nat.zero_le _) hv
        · split at h1
          · rename_i T t o ver
            split at h1
            · rename_i T' e hb
              simp only [Bool.and_eq_true, beq_iff_eq, List.contains_eq_mem, decide_eq_true_eq] at h1
              obtain ⟨⟨rfl, h2⟩, h3⟩ := h1
              obtain ⟨b1, b2⟩ := borrow_ok hs hb hv
              obtain ⟨a1, a2⟩ := fitE_ok (x := z) h2 (Nat.zero_le _)
              refine ⟨a1, ?_⟩
              simp only [Env.fit]
              rw [a2]
              have hvo : v = z.ν o := by
                simp only [borrow] at hb
                split at hb
                · rename_i T2 e2 u hl
                  simp only [Option.ite_none_right_eq_some] at hb
                  exact (hv.2 T2 e2 u hl).2 hb.1
                · cases hb
              refine b2.mono (fun b hb' => ?_) fun _ _ => rfl
              rcases hb' with hb' | hb'
              · exact .inl hb'
              · exact .inr ⟨o, h3, by rw [← hvo]; exact hb'⟩
            · cases h1
          · cases h1
      refine ⟨by simp [ih.1], fun i r hi => ?_⟩
      cases i with
      | zero => simp only [List.getElem?_cons_zero, Option.some.injEq] at hi; subst hi; exact hv'
      | succ i => simpa using ih.2 i r (by simpa using hi)
  | [], _ :: _, _, hf, _ => by simp [fitArgs] at hf
  | _ :: _, [], _, hf, _ => by simp [fitArgs] at hf

theorem look_after (hf : ∀ k o, (look s.inH k).live = true → src h.σ k = some (some o) → (look z.H o).live = true) (p : Nat) :
    look (h.after s z.H) p = match h.corr s p with | some k => h.renObj s (look s.outH k) | none => look z.H p := by
  unfold look Hand.after
  by_cases hp : p < max z.H.length (h.k0 + s.cnt)
  · simp [List.getD_eq_getElem?_getD, hp, look]
  · have h1 : ¬ p < z.H.length := by omega
    have h2 : ¬ p < h.k0 + s.cnt := by omega
    have hc : h.corr s p = none := by
      unfold Hand.corr
      rw [if_neg (by omega), List.find?_eq_none]
      intro k _ hk
      simp only [Bool.and_eq_true, beq_iff_eq] at hk
      have := hf k p hk.1 hk.2
      exact h1 (look_lt (by cases hq : look z.H p <;> rw [hq] at this <;> first | rfl | cases this))
    rw [hc]
    simp [List.getD_eq_getElem?_getD, List.getElem?_eq_none (show z.H.length ≤ p by omega), List.getElem?_eq_none (show ((List.range (max z.H.length (h.k0 + s.cnt))).map fun p => match h.corr s p with | some k => h.renObj s (look s.outH k) | none => look z.H p).length ≤ p by simp; omega)]

/-- the caller's picture behind a call -/
def Hand.behind (h : Hand) (s : Sig) (z y : Env) : Env :=
  { P := z.P, I := fun b => if h.bor.isEmpty then y.I b else z.I b, ν := fun p => match h.corr s p with | some k => y.ν k | none => z.ν p, H := h.after s z.H, e := z.e, w := y.w }

theorem call_ok (hs : Sat z w0 M) {As : List Slot} (hk : callOk z.P h s z.H As = true) {K : FuncId} {f : List D → Option (List D)} (himpl : Impl z.P K s f) {args : Array Value}
    (hargs : args.size = As.length ∧ ∀ i t, As[i]? = some t → GS z t (args.getD i undef)) {r : List D} (hr : f (dens z.e h.us) = some r)
    (hbase : ∀ i, i < r.length → h.base + i < z.e.length ∧ z.e.getD (h.base + i) default = r.getD i default) :
    r.length = s.outN ∧ Calls z.P K args z.w fun e w' => ∃ v z', e = .returned v ∧ z'.w = w' ∧ z'.e = z.e ∧ z'.P = z.P ∧ (∀ p, look z'.H p = match h.corr s p with | some k => h.renObj s (look s.outH k) | none => look z.H p) ∧
      (∀ b, z'.I b → z.I b ∨ z.w.heap.size ≤ b ∨ Mof z b) ∧ Sat z' w0 M ∧ Ext z z' ∧ GS z' (h.renS s s.outS) v := by
  simp only [callOk, Bool.and_eq_true, beq_iff_eq, List.all_eq_true, List.mem_range, Bool.or_eq_true, Bool.not_eq_true'] at hk
  obtain ⟨⟨⟨⟨⟨⟨hus, hfa⟩, hfit⟩, hbor⟩, hplain⟩, hcell⟩, hfresh⟩ := hk
  have hborlive : ∀ o ∈ h.bor, (look z.H o).live = true ∧ (look z.H o).loose = true := by
    intro o ho
    have := (hbor o ho).1
    cases hl : look z.H o <;> rw [hl] at this <;> first | exact ⟨rfl, rfl⟩ | cases this
  have hborsrc : ∀ k o, (look s.inH k).live = true → src h.σ k = some (some o) → o ∉ h.bor := by
    intro k o h1 h2 h3
    have := (hbor o h3).2
    simp only [List.contains_eq_mem, decide_eq_false_iff_not] at this
    exact this (mem_srcs h1 h2)
  have hinj : nodup (srcs h.σ s.inH) = true := by
    unfold fitAll at hfit
    simp only [Bool.and_eq_true] at hfit
    exact hfit.1
  have hob : ∀ k, fitObj z.P 0 h.us h.σ s.inH z.H k (look s.inH k) = true := by
    intro k
    unfold fitAll at hfit
    simp only [Bool.and_eq_true, List.all_eq_true, List.mem_range] at hfit
    rcases Nat.lt_or_ge k s.inH.length with h1 | h1
    · exact hfit.2 k h1
    · simp [look, List.getD_eq_getElem?_getD, List.getElem?_eq_none h1, fitObj]
  have hlive : ∀ k o, (look s.inH k).live = true → src h.σ k = some (some o) → (look z.H o).live = true ∧ ((look s.inH k).loose = true → (look z.H o).loose = true) := by
    intro k o h1 h2
    rcases fitObj_src (hob k) h1 with h3 | ⟨o', h3, h4, h5⟩
    · rw [h2] at h3; cases h3
    · rw [h2] at h3; cases h3; exact ⟨h4, h5⟩
  have live_born : ∀ p, (look z.H p).live = true → (look z.H p).born = true := by
    intro p hp
    cases hq : look z.H p <;> rw [hq] at hp <;> first | rfl | cases hp
  -- the callee's picture
  generalize hx : z.fit 0 h.us h.σ s.inH (h.lent z) = x
  have hxe : x.e = dens z.e h.us := by rw [← hx]; simp [Env.fit]
  have hxH : x.H = s.inH := by rw [← hx]; rfl
  have hxw : x.w = z.w := by rw [← hx]; rfl
  have hxP : x.P = z.P := by rw [← hx]; rfl
  have hxI : ∀ b, x.I b ↔ z.I b ∨ h.lent z b := by intro b; rw [← hx]; rfl
  have hxν : ∀ k, x.ν k = nuOf z h.σ k := by intro k; rw [← hx]; rfl
  have hsatx : Sat x x.w (Mof x) := by
    have := fit_sat (bor := h.lent z) (w1 := z.w) (M1 := Mof x) hs hfit (Nat.zero_le _) (fun b ⟨o, ho, hb⟩ => live_blk_lt hs (hborlive o ho).1 hb) (fun k o b h1 h2 h3 _ ⟨o2, h5, h6⟩ => by
      have hne : o ≠ o2 := fun e => hborsrc k o h1 h2 (e ▸ h5)
      exact hs.apart o o2 b hne (hlive k o h1 h2).1 (hborlive o2 h5).1 h3 h6) (Fr.refl z.w _) (fun k b h1 h2 => .inl ⟨k, by rw [hxH]; exact h1, by rw [hxν]; exact h2⟩)
    rw [hx] at this
    rw [hxw]
    exact this
  have hargs' := fitArgs_ok (h := h) (s := s) hs hfa (args := args.toList) ⟨by simpa using hargs.1, fun i t hi => by simpa using hargs.2 i t hi⟩
  rw [hx] at hargs'
  obtain ⟨hrl, hcalls⟩ := himpl x args hxP hxH (by rw [hxe]; simp [dens, hus]) hsatx (by simpa using hargs'.1) (fun i t hi => by simpa using hargs'.2 i t hi) r (by rw [hxe]; exact hr)
  refine ⟨hrl, ?_⟩
  rw [hxw] at hcalls
  refine hcalls.mono ?_
  rintro e w' ⟨v, y, rfl, hyw, hye, hleft, hgv⟩
  -- blocks that the callee may have turned are of those that it was handed
  have hMof : ∀ b, Mof x b → ∃ k o, (look s.inH k).live = true ∧ src h.σ k = some (some o) ∧ (look z.H o).live = true ∧ (look z.H o).loose = true ∧ blkOf (z.ν o) = some b := by
    rintro b ⟨k, h1, h2⟩
    rw [hxH] at h1
    rw [hxν] at h2
    have h1l : (look s.inH k).live = true := by cases hq : look s.inH k <;> rw [hq] at h1 <;> first | rfl | cases h1
    rcases fitObj_src (hob k) h1l with h3 | ⟨o, h3, h4, h5⟩
    · rw [nuOf_none h3] at h2; cases h2
    · rw [nuOf_some h3] at h2
      exact ⟨k, o, h1l, h3, h4, h5 h1, h2⟩
  have hlook := look_after (h := h) (s := s) (z := z) (fun k o h1 h2 => (hlive k o h1 h2).1)
  -- the callee's block of one of the caller's
  have hcorr : ∀ p k, h.corr s p = some k → (s.inH.length ≤ k ∧ k < s.outH.length ∧ (look z.H p).born = false) ∨ (k < s.inH.length ∧ (look s.inH k).live = true ∧ src h.σ k = some (some p)) := by
    intro p k hc
    unfold Hand.corr at hc
    split at hc
    · rename_i h1
      cases hc
      left
      have h2 := hfresh (p - h.k0) (by omega)
      rw [show h.k0 + (p - h.k0) = p by omega] at h2
      refine ⟨by omega, ?_, h2⟩
      have := h1.2
      unfold Sig.cnt at this
      omega
    · right
      have h1 := List.find?_some hc
      have h2 := List.mem_of_find?_eq_some hc
      simp only [Bool.and_eq_true, beq_iff_eq] at h1
      exact ⟨List.mem_range.1 h2, h1⟩
  have hcorr_none : ∀ p, h.corr s p = none → ∀ k, (look s.inH k).live = true → src h.σ k ≠ some (some p) := by
    intro p hc k h1 h2
    unfold Hand.corr at hc
    split at hc
    · cases hc
    · rw [List.find?_eq_none] at hc
      have hk : k < s.inH.length := look_lt (by cases hq : look s.inH k <;> rw [hq] at h1 <;> first | rfl | cases h1)
      exact hc k (List.mem_range.2 hk) (by simp [h1, h2])
  have hcorr_inj : ∀ p p' k, h.corr s p = some k → h.corr s p' = some k → p = p' := by
    intro p p' k h1 h2
    rcases hcorr p k h1 with ⟨a1, a2, a3⟩ | ⟨a1, a2, a3⟩ <;> rcases hcorr p' k h2 with ⟨b1, b2, b3⟩ | ⟨b1, b2, b3⟩
    · unfold Hand.corr at h1 h2
      split at h1
      · split at h2
        · rename_i q1 q2
          simp only [Option.some.injEq] at h1 h2
          omega
        · have := List.mem_of_find?_eq_some h2
          simp at this
          omega
      · have := List.mem_of_find?_eq_some h1
        simp at this
        omega
    · omega
    · omega
    · rw [a3] at b3; simpa using b3
  -- a block of what is left, and where it goes
  have htau : ∀ k, (look s.outH k).live = true → h.corr s (h.tau s k) = some k := by
    intro k hl
    have hko : k < s.outH.length := look_lt (by cases hq : look s.outH k <;> rw [hq] at hl <;> first | rfl | cases hl)
    unfold Hand.tau
    split
    · rename_i hki
      have := hcell k hki
      rw [hl] at this
      simp only [Bool.true_eq_false, false_or] at this
      obtain ⟨h2, h3⟩ := this
      obtain ⟨o, h3⟩ := Option.isSome_iff_exists.1 h3
      have h4 : src h.σ k = some (some o) := by
        cases hq : src h.σ k with
        | none => rw [hq] at h3; cases h3
        | some q => rw [hq] at h3; simp at h3; rw [h3]
      rw [h3, Option.getD_some]
      have hil : (look s.inH k).live = true := by obtain ⟨T, l, fz, l', fz', _, hq⟩ := sameT_spec h2; rw [hq]; rfl
      have holive := (hlive k o hil h4).1
      have hob' := live_born o holive
      unfold Hand.corr
      rw [if_neg]
      · cases hf : (List.range s.inH.length).find? fun k => (look s.inH k).live && (src h.σ k == some (some o)) with
        | none =>
          rw [List.find?_eq_none] at hf
          exact absurd (by simp [hil, h4]) (hf k (List.mem_range.2 hki))
        | some k' =>
          have a1 := List.find?_some hf
          simp only [Bool.and_eq_true, beq_iff_eq] at a1
          rw [srcs_inj hinj k' k o a1.1 hil a1.2 h4]
      · rintro ⟨h5, h6⟩
        have := hfresh (o - h.k0) (by omega)
        rw [show h.k0 + (o - h.k0) = o by omega, hob'] at this
        cases this
    · unfold Hand.corr
      rw [if_pos (by unfold Sig.cnt; omega)]
      congr 1
      omega
  -- the picture behind the call
  have hPy : y.P = z.P := hleft.P.trans hxP
  have hzI : ∀ b, z.I b → y.I b := fun b hb => hleft.I b ((hxI b).2 (.inl hb))
  have hheap : ∀ b, b < z.w.heap.size → ¬ Mof x b → y.w.heap[b]? = z.w.heap[b]? := fun b h1 h2 => by
    have := hleft.sat.frame.block b (by rw [hxw]; exact h1) h2
    rwa [hxw] at this
  have hIM : ∀ b, z.I b → ¬ Mof x b := by
    intro b hb hm
    obtain ⟨k, o, _, _, _, h4, h5⟩ := hMof b hm
    exact loose_not_I hs h4 h5 hb
  have hbehind_e : (h.behind s z y).e = z.e := rfl
  have he : Ext z (h.behind s z y) := by
    refine ⟨rfl, fun b hb => ?_, ⟨[], by simp [hbehind_e]⟩, fun b hb => hheap b (hs.ibound b hb) (hIM b hb), fun p hp => ?_, fun p T l fz hp hl => ?_, fun p T e' u hp hl => ?_⟩
    · simp only [Hand.behind]
      split
      · exact hzI b hb
      · exact hb
    · show (look (h.after s z.H) p).born = true
      rw [hlook]
      split
      · exact h.renObj_born s _
      · exact hp
    · have hl' : look (h.after s z.H) p = .cells T l fz := hl
      rw [hlook] at hl'
      cases hc : h.corr s p with
      | none =>
        rw [hc] at hl'
        exact ⟨⟨l, fz, hl'⟩, by simp [Hand.behind, hc]⟩
      | some k =>
        rw [hc] at hl'
        rcases hcorr p k hc with ⟨_, _, h3⟩ | ⟨h1, h2, h3⟩
        · rw [h3] at hp; cases hp
        · simp only at hl'
          have hcl : ∃ T' l', look s.outH k = .cells T' l' false := by
            unfold Hand.renObj at hl'
            split at hl'
            · rename_i hq; exact ⟨_, _, hq⟩
            · split at hl' <;> cases hl'
            · cases hl'
          obtain ⟨T', l', hq⟩ := hcl
          have hsame := hleft.same k T' l' false hq h1
          have hcl2 := hcell k h1
          rw [hq] at hcl2
          simp only [SObj.live, Bool.true_eq_false, false_or] at hcl2
          obtain ⟨h4, _⟩ := hcl2
          obtain ⟨T2, l3, fz3, l2, fz2, h5, h4⟩ := sameT_spec h4
          simp only [SObj.cells.injEq] at h5
          obtain ⟨rfl, rfl, rfl⟩ := h5
          have hfo := hob k
          rw [h4] at hfo
          simp only [fitObj, h3] at hfo
          refine ⟨?_, by simp only [Hand.behind, hc]; rw [hsame, hxν, nuOf_some h3]⟩
          split at hfo
          · rename_i T3 l3 fz3 hlk
            simp only [Bool.and_eq_true, beq_iff_eq] at hfo
            rw [hq] at hl'
            simp only [Hand.renObj, SObj.cells.injEq] at hl'
            exact ⟨l3, fz3, by rw [hlk, ← hfo.1.1, hl'.1]⟩
          · cases hfo
    · have hl' : look (h.after s z.H) p = .row T e' u := hl
      rw [hlook] at hl'
      cases hc : h.corr s p with
      | none =>
        rw [hc] at hl'
        exact ⟨e', u, hl', Nat.le_refl _, fun _ => by simp [Hand.behind, hc]⟩
      | some k =>
        rw [hc] at hl'
        rcases hcorr p k hc with ⟨_, _, h3⟩ | ⟨h1, h2, h3⟩
        · rw [h3] at hp; cases hp
        · exfalso
          simp only at hl'
          have hlv : (look s.outH k).live = true := by
            unfold Hand.renObj at hl'
            split at hl' <;> rename_i hq
            · cases hl'
            · rw [hq]; rfl
            · cases hl'
          have := hcell k h1
          rw [hlv] at this
          simp only [Bool.true_eq_false, false_or] at this
          obtain ⟨h4, _⟩ := this
          obtain ⟨T2, l2, fz2, _, _, h4, _⟩ := sameT_spec h4
          rw [h4] at hl'
          unfold Hand.renObj at hl'
          split at hl' <;> rename_i hq
          · cases hl'
          · cases hq
          · cases hl'
  -- the parts of what is left, renamed
  have hnuk : ∀ p k, h.corr s p = some k → (h.behind s z y).ν p = y.ν k := fun p k hc => by simp [Hand.behind, hc]
  have hHb : ∀ p, look (h.behind s z y).H p = match h.corr s p with | some k => h.renObj s (look s.outH k) | none => look z.H p := fun p => hlook p
  have hrenE : ∀ e e', renE h.base e = some e' → e.sc y.e.length = true → e'.sc (h.behind s z y).e.length = true ∧ e'.den (h.behind s z y).e = e.den y.e := by
    intro e e' h1 h2
    unfold renE at h1
    split at h1
    · rename_i i
      cases h1
      have hi : i < y.e.length := by simpa [Ex.sc] using h2
      rw [hye] at hi
      obtain ⟨b1, b2⟩ := hbase i hi
      refine ⟨by simpa [Ex.sc, hbehind_e] using b1, ?_⟩
      simp only [Ex.den, hbehind_e, hye]
      exact b2
    · cases h1
  have hIz : ∀ (t : LTy) (v : Value) (d : D), (h.bor.isEmpty = true ∨ ∀ T, t ≠ .sl T) → Rd z.P y.I y.w.heap t v d → Rd z.P (h.behind s z y).I (h.behind s z y).w.heap t v d := by
    intro t v d h1 h2
    rcases h1 with h1 | h1
    · refine h2.mono (fun b hb => ?_) fun _ _ => rfl
      simp [Hand.behind, h1, hb]
    · cases h2 with
      | int => exact .int
      | bool => exact .bool
      | str => exact .str
      | nil _ => exact absurd rfl (h1 _)
      | empty _ _ => exact absurd rfl (h1 _)
      | row => exact absurd rfl (h1 _)
  have hren : ∀ t v, (h.bor.isEmpty = true ∨ plainSV t = true) → G y t v → G (h.behind s z y) (h.ren s t) v := by
    intro t v hpl hg
    cases t with
    | int k e =>
      simp only [Hand.ren]
      split
      · rename_i e' h1
        obtain ⟨a1, a2⟩ := hrenE e e' h1 hg.1
        exact ⟨a1, by rw [a2]; exact hg.2⟩
      · trivial
    | bool e =>
      simp only [Hand.ren]
      split
      · rename_i e' h1
        obtain ⟨a1, a2⟩ := hrenE e e' h1 hg.1
        exact ⟨a1, by rw [a2]; exact hg.2⟩
      · trivial
    | str e =>
      simp only [Hand.ren]
      split
      · rename_i e' h1
        obtain ⟨a1, a2⟩ := hrenE e e' h1 hg.1
        exact ⟨a1, by rw [a2]; exact hg.2⟩
      · trivial
    | sl T e =>
      simp only [Hand.ren]
      split
      · rename_i e' h1
        obtain ⟨a1, a2⟩ := hrenE e e' h1 hg.1
        refine ⟨a1, ?_⟩
        rw [a2]
        refine hIz _ _ _ (.inl (hpl.resolve_right (by simp [plainSV]))) ?_
        have := hg.2
        rwa [hPy] at this
      · trivial
    | nils => exact hg
    | nilp => exact hg
    | nilf => exact hg
    | ifc e =>
      simp only [Hand.ren]
      split
      · rename_i e' h1
        obtain ⟨a1, a2⟩ := hrenE e e' h1 hg.1
        exact ⟨a1, by rw [a2]; exact hg.2⟩
      · trivial
    | ptr o off =>
      simp only [Hand.ren]
      split
      · rename_i h1
        obtain ⟨T, l, fz, hq⟩ := isCells_spec h1
        obtain ⟨b, b1, b2⟩ := hg.2 T l fz (by rw [hleft.H]; exact hq)
        have hc := htau o (by rw [hq]; rfl)
        refine ⟨?_, fun _ _ _ _ => ⟨b, by rw [hnuk _ _ hc]; exact b1, b2⟩⟩
        rw [hHb, hc]
        exact h.renObj_born s _
      · trivial
    | own o u =>
      simp only [Hand.ren]
      split
      · rename_i h1
        unfold curVer at h1
        split at h1
        · rename_i T e u' hq
          have hu : u' = u := by simpa using h1
          have hv := (hg.2 T e u' (by rw [hleft.H]; exact hq)).2 hu
          have hc := htau o (by rw [hq]; rfl)
          refine ⟨?_, fun T2 e2 u2 h2 => ?_⟩
          · rw [hHb, hc]
            exact h.renObj_born s _
          · rw [hHb, hc] at h2
            simp only [hq, Hand.renObj] at h2
            split at h2
            · simp only [SObj.row.injEq] at h2
              exact ⟨by omega, fun _ => by rw [hnuk _ _ hc]; exact hv⟩
            · cases h2
        · cases h1
      · trivial
    | _ => trivial
  have hrenL : ∀ (l : List SV) (c : Array Value), (h.bor.isEmpty = true ∨ l.all plainSV = true) → GL y l c → GL (h.behind s z y) (l.map (h.ren s)) c := by
    intro l c hpl hg
    refine ⟨by rw [List.length_map]; exact hg.1, fun j t hj => ?_⟩
    simp only [List.getElem?_map, Option.map_eq_some_iff] at hj
    obtain ⟨t', h1, rfl⟩ := hj
    refine hren t' _ (hpl.imp id fun h2 => ?_) (hg.2 j t' h1)
    rw [List.all_eq_true] at h2
    exact h2 t' (List.mem_of_getElem? h1)
  have hplainObj : ∀ k, h.bor.isEmpty = true ∨ plainObj (look s.outH k) = true := by
    intro k
    refine hplain.imp id fun h1 => ?_
    unfold Sig.plain at h1
    simp only [Bool.and_eq_true, List.all_eq_true] at h1
    rcases Nat.lt_or_ge k s.outH.length with h2 | h2
    · have : look s.outH k = s.outH[k] := by simp [look, h2]
      rw [this]
      exact h1.2 _ (List.getElem_mem h2)
    · simp [look, List.getD_eq_getElem?_getD, List.getElem?_eq_none h2, plainObj]
  -- what a renamed block that lives says
  have hlive2 : ∀ k, (h.renObj s (look s.outH k)).live = true → (look s.outH k).live = true ∧ (look s.outH k).loose = true := by
    intro k hl
    unfold Hand.renObj at hl
    split at hl <;> rename_i hq
    · rw [hq]; exact ⟨rfl, rfl⟩
    · rw [hq]; exact ⟨rfl, rfl⟩
    · cases hl
  have hblk2 : ∀ k b, (look s.outH k).loose = true → blkOf (y.ν k) = some b → Mof x b ∨ z.w.heap.size ≤ b := by
    intro k b h1 h2
    have := hleft.sat.mine k b (by rw [hleft.H]; exact h1) h2
    rwa [hxw] at this
  have hMofp : ∀ p b, h.corr s p = none → (look z.H p).live = true → blkOf (z.ν p) = some b → ¬ Mof x b := by
    intro p b hc hl hb hm
    obtain ⟨k, o, h1, h2, h3, h4, h5⟩ := hMof b hm
    have hne : p ≠ o := fun e => hcorr_none p hc k h1 (e ▸ h2)
    exact hs.apart p o b hne hl h3 hb h5
  have hsat : Sat (h.behind s z y) w0 M := by
    refine Sat.step hs he (fun p => ∃ k, h.corr s p = some k) (fun p hp => ?_) (fun p b hp hl hb => ?_) (fun p ⟨k, hc⟩ => ?_) (fun p p' b ⟨k, hc⟩ hne h1 h2 h3 => ?_) (fun b hb => ?_) (fun p b ⟨k, hc⟩ h1 h2 => ?_) ?_
    · have hc : h.corr s p = none := by
        cases hq : h.corr s p with
        | none => rfl
        | some k => exact absurd ⟨k, hq⟩ hp
      exact ⟨by rw [hHb, hc], by simp [Hand.behind, hc]⟩
    · have hc : h.corr s p = none := by
        cases hq : h.corr s p with
        | none => rfl
        | some k => exact absurd ⟨k, hq⟩ hp
      have hnm := hMofp p b hc hl hb
      have hlt := live_blk_lt hs hl hb
      refine ⟨hheap b hlt hnm, ?_⟩
      simp only [Hand.behind]
      split
      · rename_i hbe
        refine ⟨fun hy => ?_, hzI b⟩
        rcases hleft.back b hy with h4 | h4 | h4
        · rcases (hxI b).1 h4 with h5 | ⟨o, ho, _⟩
          · exact h5
          · rw [List.isEmpty_iff] at hbe; rw [hbe] at ho; cases ho
        · rw [hxw] at h4; omega
        · exact absurd h4 hnm
      · exact Iff.rfl
    · rw [hHb, hc]
      show ObjOk _ p (h.renObj s (look s.outH k))
      have hy := hleft.sat.objs k
      rw [hleft.H] at hy
      cases hq : look s.outH k with
      | unborn => exact trivial
      | dead => exact trivial
      | cells T l fz =>
        cases fz with
        | true => exact trivial
        | false =>
          rw [hq] at hy
          obtain ⟨b, c, y1, y2, y3, y4, y5⟩ := hy
          refine ⟨b, c, by rw [hnuk p k hc]; exact y1, y2, hrenL l c ((hplainObj k).imp id fun h6 => by rw [hq] at h6; exact h6) y3, (fun h6 => by cases h6), fun _ hi => ?_⟩
          simp only [Hand.behind] at hi
          split at hi
          · exact y5 rfl hi
          · exact y5 rfl (hzI b hi)
      | row T e u =>
        rw [hq] at hy
        simp only [Hand.renObj]
        split
        · rename_i e' hre
          obtain ⟨hsc, ts, n, xs, y1, y2, y3, y4, y5⟩ := hy
          obtain ⟨a1, a2⟩ := hrenE e e' hre hsc
          have hbe : h.bor.isEmpty = true := (hplainObj k).resolve_right (by rw [hq]; simp [plainObj])
          refine ⟨a1, ts, n, xs, by rw [hPy] at y1; exact y1, by rw [hnuk p k hc]; exact y2, by rw [a2]; exact y3, ?_, fun b hb hi => ?_⟩
          · rw [a2]
            refine ⟨y4.1, fun i j t hi ht => ?_⟩
            have := y4.2 i j t hi ht
            rw [hPy] at this
            exact hIz _ _ _ (.inl hbe) this
          · rw [hnuk p k hc] at hb
            simp only [Hand.behind, hbe, if_true] at hi
            exact y5 b hb hi
        · trivial
    · rw [hHb, hc] at h1
      obtain ⟨l1, l2⟩ := hlive2 k h1
      rw [hnuk p k hc] at h3
      cases hc' : h.corr s p' with
      | some k' =>
        rw [hHb, hc'] at h2
        obtain ⟨l3, l4⟩ := hlive2 k' h2
        rw [hnuk p' k' hc']
        have hkk : k ≠ k' := fun e => hne (hcorr_inj p p' k hc (e ▸ hc'))
        exact hleft.sat.apart k k' b hkk (by rw [hleft.H]; exact l1) (by rw [hleft.H]; exact l3) h3
      | none =>
        rw [hHb, hc'] at h2
        have hν : (h.behind s z y).ν p' = z.ν p' := by simp [Hand.behind, hc']
        rw [hν]
        intro h4
        rcases hblk2 k b l2 h3 with h5 | h5
        · exact hMofp p' b hc' h2 h4 h5
        · have := live_blk_lt hs h2 h4
          omega
    · simp only [Hand.behind] at hb
      split at hb
      · exact hleft.sat.ibound b hb
      · have h1 := hs.ibound b hb
        have h2 := hleft.sat.frame.size
        rw [hxw] at h2
        exact Nat.lt_of_lt_of_le h1 h2
    · rw [hHb, hc] at h1
      change (h.renObj s (look s.outH k)).loose = true at h1
      rw [hnuk p k hc] at h2
      have hl : (h.renObj s (look s.outH k)).live = true := by cases hq : h.renObj s (look s.outH k) <;> rw [hq] at h1 <;> first | rfl | cases h1
      rcases hblk2 k b (hlive2 k hl).2 h2 with h5 | h5
      · obtain ⟨_, o, _, _, _, h6, h7⟩ := hMof b h5
        exact hs.mine o b h6 h7
      · exact .inr (Nat.le_trans hs.frame.size h5)
    · have hf := hleft.sat.frame
      rw [hxw] at hf
      refine ⟨hf.os.trans hs.frame.os, hf.tape.trans hs.frame.tape, hf.output.trans hs.frame.output, Nat.le_trans hs.frame.size hf.size, fun b hb hm => ?_⟩
      have hbz := Nat.lt_of_lt_of_le hb hs.frame.size
      refine (hheap b hbz fun hmx => ?_).trans (hs.frame.block b hb hm)
      obtain ⟨_, o, _, _, _, h6, h7⟩ := hMof b hmx
      rcases hs.mine o b h6 h7 with h8 | h8
      · exact hm h8
      · omega
  have hplainS : h.bor.isEmpty = true ∨ plainS s.outS = true := hplain.imp id fun h1 => by
    unfold Sig.plain at h1
    simp only [Bool.and_eq_true] at h1
    exact h1.1
  have hren1 : ∀ t v, (h.bor.isEmpty = true ∨ plain1 t = true) → G1 y t v → G1 (h.behind s z y) (h.ren1 s t) v := by
    intro t v hpl hg
    cases t with
    | one t => exact hren t v hpl hg
    | agg l => obtain ⟨c, hv, hl⟩ := hg; exact ⟨c, hv, hrenL l c hpl hl⟩
  have hback : ∀ b, (h.behind s z y).I b → z.I b ∨ z.w.heap.size ≤ b ∨ Mof z b := by
    intro b hb
    simp only [Hand.behind] at hb
    split at hb
    · rename_i hbe
      rcases hleft.back b hb with h4 | h4 | h4
      · rcases (hxI b).1 h4 with h5 | ⟨o, ho, _⟩
        · exact .inl h5
        · rw [List.isEmpty_iff] at hbe; rw [hbe] at ho; cases ho
      · rw [hxw] at h4; exact .inr (.inl h4)
      · obtain ⟨_, o, _, _, _, h6, h7⟩ := hMof b h4
        exact .inr (.inr ⟨o, h6, h7⟩)
    · exact .inl hb
  refine ⟨v, h.behind s z y, rfl, hyw, hbehind_e, rfl, hHb, hback, hsat, he, ?_⟩
  generalize s.outS = os at hgv hplainS
  cases os with
  | v t => exact hren1 t v hplainS hgv
  | tup l =>
    obtain ⟨c, hv, h1, h2⟩ := hgv
    refine ⟨c, hv, by rw [List.length_map]; exact h1, fun j t hj => ?_⟩
    simp only [List.getElem?_map, Option.map_eq_some_iff] at hj
    obtain ⟨t', h3, rfl⟩ := hj
    refine hren1 t' _ (hplainS.imp id fun h4 => ?_) (h2 j t' h3)
    simp only [plainS, List.all_eq_true] at h4
    exact h4 t' (List.mem_of_getElem? h3)

end
end Glx
namespace Glx
open Go

/-- what an operation does to the walk's blocks -/
inductive Ef where
  | keep
  | put (o : Nat) (s : SObj)
  | call (f : Nat) (h : Hand)

/-- the contracts, each with a number; a function may have several -/
structure Cfg where
  P : Program
  sig : Nat → Option Sig
  of : FuncId → List Nat

/-- what of the blocks is new -/
def Ef.mod (C : Cfg) : Ef → Nat → Option SObj
  | .keep, _ => none
  | .put o s, p => if p = o then some s else none
  | .call f h, p => match C.sig f with
    | some s => match h.corr s p with
      | some k => some (h.renObj s (look s.outH k))
      | none => none
    | none => none

structure Done where
  gs : List Ex
  dst : Slot
  ef : Ef

def Done.val (s : S1) : Done := ⟨[], .v s, .keep⟩

abbrev Lk := Operand → Option Slot
def lk1 (ρ : Lk) (p : Operand) : Option S1 := (ρ p).bind Slot.s1
def lkv (ρ : Lk) (p : Operand) : Option SV := (ρ p).bind Slot.sv
def lko (ρ : Lk) : Option Operand → Option (Option SV)
  | none => some none
  | some p => (lkv ρ p).map some
def lkParts (H : List SObj) (ρ : Lk) : List (Nat × Operand) → Option (List (Nat × S1))
  | [] => some []
  | (i, p) :: l => (lk1 ρ p).bind fun s => if s.cells.all (solid H) = true then (lkParts H ρ l).map ((i, s) :: ·) else none
def lks (ρ : Lk) : List Operand → Option (List Slot)
  | [] => some []
  | p :: l => (ρ p).bind fun s => (lks ρ l).map (s :: ·)

def sure (H : List SObj) : SV → Bool
  | .ptr o _ => isCells (look H o)
  | .oel o v _ _ => curVer H o v
  | .pel .. => true
  | .fn .. => true
  | _ => false

def ptrSlots (l : List (Nat × Nat)) : List Slot := l.map fun p => .v (.one (.ptr p.1 p.2))

/-! ### A hand for a call (a guess, that is looked at) -/
structure HS where
  us : List (Option Ex)
  σ : Src
  bor : List Nat

def HS.setU (h : HS) (t e : Ex) : HS := match t with
  | .var i => { h with us := h.us.set i (some e) }
  | _ => h

def handSV (s : Sig) (H : List SObj) : Nat → HS → SV × SV → HS
  | 0, h, _ => h
  | n + 1, h, (t, a) => match t, a with
    | .int _ t, .int _ e => h.setU t e
    | .bool t, .bool e => h.setU t e
    | .ifc t, .ifc e => h.setU t e
    | .str t, .str e => h.setU t e
    | .sl _ t, .sl _ e => h.setU t e
    | .sl _ t, .nils => h.setU t .nil
    | .sl _ t, .own o ver => match borrow H (.own o ver) with
      | some (_, e) => { h.setU t e with bor := o :: h.bor }
      | none => h
    | .own o' _, .nils => match look s.inH o' with
      | .row _ t _ => { h.setU t .nil with σ := h.σ.set o' (some none) }
      | _ => h
    | .own o' _, .own o _ => match look s.inH o', look H o with
      | .row _ t _, .row _ e _ => { h.setU t e with σ := h.σ.set o' (some (some o)) }
      | _, _ => h
    | .ptr o' _, .ptr o _ => if (src h.σ o').isSome then h else match look s.inH o', look H o with
      | .cells _ l _, .cells _ m _ => (l.zip m).foldl (handSV s H n) { h with σ := h.σ.set o' (some (some o)) }
      | _, _ => h
    | .fn _ a c, .fn _ a' c' => (((a ++ c).zip (a' ++ c')).map fun p => (SV.ptr p.1.1 p.1.2, SV.ptr p.2.1 p.2.2)).foldl (handSV s H n) h
    | _, _ => h

def slotCells : Slot → List SV
  | .v s => s.cells
  | .tup l => l.flatMap S1.cells

def mkHand (s : Sig) (H : List SObj) (As : List Slot) (k base : Nat) : Hand :=
  let h := ((s.inS.zip As).flatMap fun p => (slotCells p.1).zip (slotCells p.2)).foldl (handSV s H 20) ⟨List.replicate s.inN none, List.replicate s.inH.length none, []⟩
  ⟨h.us.map (·.getD (.ilit 0)), h.σ, h.bor, k, base⟩

/-! ### The operations -/
def symPick' (n : Nat) (ρ : Lk) (ρc : Ex → Bool → Lk) (kn : Ex → Option Bool) (c a b : Operand) : Option S1 :=
  (lkv ρ c).bind fun
    | .bool e => match kn e with
      | some true => lk1 ρ a
      | some false => lk1 ρ b
      | none => (lk1 (ρc e true) a).bind fun x => (lk1 (ρc e false) b).bind fun y => merge1 n e x y
    | _ => none

def symBox (H : List SObj) (k : Nat) (T : TypeId) (s : S1) : Option Done :=
  if look H k = .unborn ∧ s.cells.all (solid H) = true then some ⟨[], .v (.one (.ptr k 0)), .put k (.cells T s.cells false)⟩ else none

def symAlloc (P : Program) (H : List SObj) (k : Nat) (T : TypeId) : Option Done :=
  (P.info? T).bind fun inf => inf.zero.bind fun z => (constS1 z).bind fun s => symBox H k T s

def symBuildSlice (P : Program) (H : List SObj) (k : Nat) (t : TypeId) (n : Nat) (ps : List (Nat × S1)) : Option Done :=
  (sliceOf P t).bind fun T => (tys P T).bind fun ts => (litRows ts 0 ps).bind fun rs =>
  if look H k = .unborn ∧ ps.length = n ∧ n ≠ 0 ∧ n * ts.length ≤ 16777216 ∧ ((P.info? T).bind (·.zero)).isSome = true then some ⟨[], .v (.one (.own k 0)), .put k (.row T (rowsEx rs .nil) 0)⟩ else none

def symApp (P : Program) (H : List SObj) (k : Nat) (t0 t1 : TypeId) (s y : SV) : Option Done :=
  (symAppend P H t0 t1 s y).bind fun
    | (gs, some o, ob) => match ob with
      | .row _ _ u => some ⟨gs, .v (.one (.own o u)), .put o ob⟩
      | _ => none
    | (gs, none, ob) => match ob with
      | .row _ _ u => if look H k = .unborn then some ⟨gs, .v (.one (.own k u)), .put k ob⟩ else none
      | _ => none

def symBinOp (P : Program) (op : BinOp) (t : TypeId) (a b : S1) : Option Done :=
  match a, b with
  | .agg l, .agg m => (symEq P op t l m).map fun s => .val (.one s)
  | .one a, .one b => (symBin op a b).map fun (gs, s) => ⟨gs, .v (.one s), .keep⟩
  | _, _ => none

/-- an interface's value against nil -/
def symNil (P : Program) (op : BinOp) (t : TypeId) (y : Operand) (s : S1) : Option Done :=
  match P.underlying t, y, s with
  | some (.interface _), .const .nilIface, .one (.ifc e) => match op with
    | .eql => some (.val (.one (.bool e)))
    | .neq => some (.val (.one (.bool (mkNo e))))
    | _ => none
  | _, _, _ => none

/-- a text's bytes, as a new row that nobody turns -/
def symBytes (P : Program) (src dst : TypeId) (s : SV) : Option Done :=
  match P.underlying src, P.underlying dst, s with
  | some .string, some (.slice E), .str e => if tys P E = some [.int .u8] ∧ (match P.underlying E with | some (.int .u8) => true | _ => false) = true then some (.val (.one (.sl E (.bytes e)))) else none
  | _, _, _ => none

def nonIface (P : Program) (t : TypeId) : Bool := match P.underlying t with
  | some (.interface _) => false
  | some _ => true
  | none => false

def symBuiltin (P : Program) (H : List SObj) (k : Nat) (b : Builtin) (ts : List TypeId) (as : List Slot) : Option Done :=
  match b, ts, as with
  | .len, [t], [.v s] => (symLen P H t s).map fun s => .val (.one s)
  | .append, [t0, t1], [.v (.one s), .v (.one y)] => symApp P H k t0 t1 s y
  | .max, _, [.v (.one s), .v (.one y)] => (symExt true [s, y]).map fun s => .val (.one s)
  | .min, _, [.v (.one s), .v (.one y)] => (symExt false [s, y]).map fun s => .val (.one s)
  | _, _, _ => none

def tryCall (C : Cfg) (H : List SObj) (k base : Nat) (As : List Slot) : List Nat → Option Done
  | [] => none
  | cid :: l => match C.sig cid with
    | some s =>
      let h := mkHand s H As k base
      if callOk C.P h s H As = true then some ⟨[], h.renS s s.outS, .call cid h⟩ else tryCall C H k base As l
    | none => tryCall C H k base As l

def symCall (C : Cfg) (H : List SObj) (k base : Nat) (f : SV) (as : List Slot) : Option Done :=
  match f with
  | .fn fid a cs => tryCall C H k base (ptrSlots a ++ as ++ ptrSlots cs) (C.of fid)
  | _ => none

def symPtrs : List Slot → Option (List (Nat × Nat))
  | [] => some []
  | .v (.one (.ptr o off)) :: l => (symPtrs l).map ((o, off) :: ·)
  | _ => none

def symOp (C : Cfg) (H : List SObj) (n : Nat) (ρ : Lk) (ρc : Ex → Bool → Lk) (kn : Ex → Option Bool) (k base : Nat) : Op → Option Done
  | .move x | .assign x => (ρ x).map fun s => ⟨[], s, .keep⟩
  | .pick c a b => (symPick' n ρ ρc kn c a b).map .val
  | .alloc T => symAlloc C.P H k T
  | .box T v => (lk1 ρ v).bind fun s => symBox H k T s
  | .build t ps => (lkParts H ρ ps.toList).bind fun l => (symBuild C.P t l).map fun r => .val (.agg r)
  | .buildSlice t n ps => (lkParts H ρ ps.toList).bind fun l => symBuildSlice C.P H k t n l
  | .load t a => (lkv ρ a).bind fun s => (symLoad C.P H t s).map .val
  | .store t a v => (lkv ρ a).bind fun s => (lk1 ρ v).bind fun x => (symStore C.P H t s x).map fun (o, ob) => ⟨[], skipSlot, .put o ob⟩
  | .nilCheck x => (lkv ρ x).bind fun s => if sure H s = true then some (.val (.one s)) else none
  | .binOp op t x y _ => (lk1 ρ x).bind fun a => (lk1 ρ y).bind fun b => match symNil C.P op t y a with
    | some d => some d
    | none => symBinOp C.P op t a b
  | .makeInterface t _ => if nonIface C.P t = true then some (.val (.one (.ifc (.blit false)))) else none
  | .unOp op _ x => (lkv ρ x).bind fun s => (symUn op s).map fun r => .val (.one r)
  | .convert src dst x => (lkv ρ x).bind fun s => match symConv C.P H src dst s with
    | some r => some (.val (.one r))
    | none => symBytes C.P src dst s
  | .makeFunc (.func f) first caps => (lks ρ first.toList).bind fun a => (symPtrs a).bind fun a => (lks ρ caps.toList).bind fun c => (symPtrs c).map fun c => .val (.one (.fn f a c))
  | .slice t x lo hi none => (lkv ρ x).bind fun s => (lko ρ lo).bind fun l => (lko ρ hi).bind fun h => (symSlice C.P H t s l h).map fun (gs, r) => ⟨gs, .v (.one r), .keep⟩
  | .fieldAddr t x f => (lkv ρ x).bind fun s => if sure H s = true then (symFieldAddr C.P t f s).map fun r => .val (.one r) else none
  | .field t x f => (lk1 ρ x).bind fun s => (symField C.P t f s).map .val
  | .indexAddr t x i => (lkv ρ x).bind fun s => (lkv ρ i).bind fun j => if (match s with | .ptr .. => sure H s | _ => true) = true then (symIndexAddr C.P H t s j).map fun (gs, r) => ⟨gs, .v (.one r), .keep⟩ else none
  | .index t x i => (lk1 ρ x).bind fun s => (lkv ρ i).bind fun j => (symIndex C.P t s j).map fun (gs, r) => ⟨gs, .v r, .keep⟩
  | .extract t i => (ρ t).bind fun
    | .tup l => (l[i]?).map .val
    | _ => none
  | .call c => match c.callee with
    | .value f => (lkv ρ f).bind fun s => (lks ρ c.args.toList).bind fun as => symCall C H k base s as
    | .builtin b => (lks ρ c.args.toList).bind fun as => symBuiltin C.P H k b c.argTypes.toList as
    | _ => none
  | _ => none

/-! ### They are as the picture has them -/
section
variable {C : Cfg} {x : Env} {w0 : World} {M : Nat → Prop} {ρ : Lk} {ev : Operand → Value}

def LkOk (x : Env) (ρ : Lk) (ev : Operand → Value) : Prop := ∀ p s, ρ p = some s → GS x s (ev p)

theorem lk1_ok (hρ : LkOk x ρ ev) {p : Operand} {s : S1} (h : lk1 ρ p = some s) : G1 x s (ev p) := by
  obtain ⟨t, h1, h2⟩ := Option.bind_eq_some_iff.1 h
  exact Slot.s1_ok h2 (hρ p t h1)

theorem lkv_ok (hρ : LkOk x ρ ev) {p : Operand} {s : SV} (h : lkv ρ p = some s) : G x s (ev p) := by
  obtain ⟨t, h1, h2⟩ := Option.bind_eq_some_iff.1 h
  exact Slot.sv_ok h2 (hρ p t h1)

theorem lko_ok (hρ : LkOk x ρ ev) {p : Option Operand} {s : Option SV} (h : lko ρ p = some s) : OG x s (p.map ev) := by
  cases p with
  | none => cases h; trivial
  | some p =>
    obtain ⟨t, h1, rfl⟩ := Option.map_eq_some_iff.1 h
    exact lkv_ok hρ h1

theorem lkParts_ok (hs : Sat x w0 M) (hρ : LkOk x ρ ev) : ∀ {ps : List (Nat × Operand)} {l : List (Nat × S1)}, lkParts x.H ρ ps = some l → PartsOk x l (ps.map fun p => (p.1, ev p.2))
  | [], l, h => by cases h; trivial
  | (i, p) :: ps, l, h => by
    obtain ⟨s, h1, h2⟩ := Option.bind_eq_some_iff.1 h
    split at h2
    · rename_i hsol
      obtain ⟨l', h3, rfl⟩ := Option.map_eq_some_iff.1 h2
      exact ⟨rfl, (cells_ok hs hsol (lk1_ok hρ h1)).1, lkParts_ok hs hρ h3⟩
    · cases h2

theorem lks_ok (hρ : LkOk x ρ ev) : ∀ {ps : List Operand} {l : List Slot}, lks ρ ps = some l → (ps.map ev).length = l.length ∧ ∀ i t, l[i]? = some t → GS x t ((ps.map ev).getD i undef)
  | [], l, h => by cases h; exact ⟨rfl, fun i t hi => by simp at hi⟩
  | p :: ps, l, h => by
    obtain ⟨s, h1, h2⟩ := Option.bind_eq_some_iff.1 h
    obtain ⟨l', h3, rfl⟩ := Option.map_eq_some_iff.1 h2
    obtain ⟨h4, h5⟩ := lks_ok hρ h3
    refine ⟨by simpa using h4, fun i t hi => ?_⟩
    cases i with
    | zero => simp only [List.getElem?_cons_zero, Option.some.injEq] at hi; subst hi; simpa using hρ p s h1
    | succ i => simpa using h5 i t (by simpa using hi)

theorem sure_ok {s : SV} (h : sure x.H s = true) {v : Value} (hg : G x s v) : (∃ b a, v = .pointer (some ⟨b, a, none⟩)) ∨ ∃ f a c, v = .func (.func f) a c := by
  cases s with
  | ptr o off =>
    obtain ⟨T, l, fz, hl⟩ := isCells_spec h
    obtain ⟨b, _, hv⟩ := hg.2 T l fz hl
    exact .inl ⟨b, off, hv⟩
  | oel o ver i off =>
    simp only [sure, curVer] at h
    split at h
    · rename_i T e u hl
      obtain ⟨ts, b, n, cap, _, _, _, _, hv⟩ := (hg.2.2 T e u hl).2 (by simpa using h)
      exact .inl ⟨_, _, hv⟩
    · cases h
  | pel T l i off =>
    obtain ⟨_, _, ts, b, o, n, cap, _, _, _, _, hv⟩ := hg
    exact .inl ⟨_, _, hv⟩
  | fn f a c =>
    obtain ⟨a', c', hv, _⟩ := hg
    exact .inr ⟨_, _, _, hv⟩
  | _ => cases h

/-- what an operation leaves -/
def Fine (C : Cfg) (x : Env) (w0 : World) (M : Nat → Prop) (d : Done) (v : Value) (w' : World) : Prop :=
  ∃ y : Env, y.w = w' ∧ y.e = x.e ∧ y.P = x.P ∧ (∀ p, look y.H p = (d.ef.mod C p).getD (look x.H p)) ∧ (∀ b, y.I b → x.I b ∨ x.w.heap.size ≤ b ∨ Mof x b) ∧ Sat y w0 M ∧ Ext x y ∧ GS y d.dst v

theorem Fine.val (hs : Sat x w0 M) {gs : List Ex} {s : Slot} {v : Value} (hg : GS x s v) : Fine C x w0 M ⟨gs, s, .keep⟩ v x.w :=
  ⟨x, rfl, rfl, rfl, fun _ => rfl, fun _ => .inl, hs, Ext.refl x, hg⟩

theorem Fine.set {o : Nat} {pv : Value} {ob : SObj} {w' : World} (hs : Sat (x.set o pv ob w') w0 M) (he : Ext x (x.set o pv ob w')) {gs : List Ex} {s : Slot} {v : Value} (hg : GS (x.set o pv ob w') s v) :
    Fine C x w0 M ⟨gs, s, .put o ob⟩ v w' :=
  ⟨x.set o pv ob w', rfl, rfl, rfl, fun p => by simp only [Ef.mod, Env.set, look_put]; split <;> rfl, fun _ => .inl, hs, he, hg⟩

theorem symPick'_ok {n : Nat} {ρc : Ex → Bool → Lk} {kn : Ex → Option Bool} {c a b : Operand} {s : S1} (h : symPick' n ρ ρc kn c a b = some s) (hn : n ≤ x.e.length) (hρ : LkOk x ρ ev)
    (hρc : ∀ e t, (e.den x.e).bool = t → LkOk x (ρc e t) ev) (hkn : ∀ e b, kn e = some b → (e.den x.e).bool = b) : ∃ t, ev c = .bool t ∧ G1 x s (if t then ev a else ev b) := by
  obtain ⟨cs, h1, h2⟩ := Option.bind_eq_some_iff.1 h
  have hc := lkv_ok hρ h1
  split at h2
  · rename_i e
    obtain ⟨h3, hv⟩ := hc
    refine ⟨_, hv, ?_⟩
    split at h2
    · rename_i hk; rw [hkn _ _ hk]; exact lk1_ok hρ h2
    · rename_i hk; rw [hkn _ _ hk]; exact lk1_ok hρ h2
    · obtain ⟨sa, h4, h5⟩ := Option.bind_eq_some_iff.1 h2
      obtain ⟨sb, h6, h7⟩ := Option.bind_eq_some_iff.1 h5
      cases hd : (e.den x.e).bool with
      | true => exact merge1_l h7 hn h3 hd (lk1_ok (hρc e true hd) h4)
      | false => exact merge1_r h7 hn h3 hd (lk1_ok (hρc e false hd) h6)
  · cases h2

theorem symBox_ok (hs : Sat x w0 M) {k : Nat} {T : TypeId} {s : S1} {d : Done} (h : symBox x.H k T s = some d) {v : Value} (hg : G1 x s v) :
    ∃ u w', (Instr.box T v).run x.P x.w = .ok u w' ∧ Fine C x w0 M d u w' := by
  unfold symBox at h
  split at h
  · rename_i hc
    cases h
    obtain ⟨u, w', h1, h2, h3, h4⟩ := box_ok (T := T) hs hc.1 hc.2 hg
    exact ⟨u, w', h1, Fine.set h2 h3 h4⟩
  · cases h

theorem symAlloc_ok (hs : Sat x w0 M) {k : Nat} {T : TypeId} {d : Done} (h : symAlloc x.P x.H k T = some d) :
    ∃ u w', (Instr.alloc T true (.tuple #[])).run x.P x.w = .ok u w' ∧ Fine C x w0 M d u w' := by
  obtain ⟨inf, h1, h⟩ := Option.bind_eq_some_iff.1 h
  obtain ⟨z, h2, h⟩ := Option.bind_eq_some_iff.1 h
  obtain ⟨s, h3, h⟩ := Option.bind_eq_some_iff.1 h
  unfold symBox at h
  split at h
  · rename_i hc
    cases h
    obtain ⟨u, w', g1, g2, g3, g4⟩ := alloc_ok (T := T) hs hc.1 h1 h2 h3 hc.2
    exact ⟨u, w', g1, Fine.set g2 g3 g4⟩
  · cases h

theorem symBuildSlice_ok (hs : Sat x w0 M) {k : Nat} {t : TypeId} {n : Nat} {ps : List (Nat × S1)} {d : Done} (h : symBuildSlice x.P x.H k t n ps = some d) {vs : Array (Nat × Value)} (hp : PartsOk x ps vs.toList) :
    ∃ u w', (Instr.buildSlice t n vs).run x.P x.w = .ok u w' ∧ Fine C x w0 M d u w' := by
  obtain ⟨T, h1, h⟩ := Option.bind_eq_some_iff.1 h
  obtain ⟨ts, h2, h⟩ := Option.bind_eq_some_iff.1 h
  obtain ⟨rs, h3, h⟩ := Option.bind_eq_some_iff.1 h
  split at h
  · rename_i hc
    cases h
    obtain ⟨u, w', g1, g2, g3, g4⟩ := buildSlice_ok hs hc.1 h1 h2 h3 hc.2.1 hc.2.2.1 hc.2.2.2.1 hc.2.2.2.2 hp
    exact ⟨u, w', g1, Fine.set g2 g3 g4⟩
  · cases h

theorem symStore_ok (hs : Sat x w0 M) {t : TypeId} {s : SV} {y : S1} {o : Nat} {ob : SObj} (h : symStore x.P x.H t s y = some (o, ob)) {va v : Value} (ha : G x s va) (hg : G1 x y v) :
    ∃ w', (Instr.storeAt t va v).run x.P x.w = .ok () w' ∧ ∀ u, Fine C x w0 M ⟨[], skipSlot, .put o ob⟩ u w' := by
  obtain ⟨inf, h1, h⟩ := Option.bind_eq_some_iff.1 h
  split at h
  · rename_i hc
    split at h
    · rename_i o' off
      split at h
      · rename_i T l hl
        split at h
        · rename_i hfit
          cases h
          obtain ⟨w', g1, g2, g3⟩ := store_cells_ok hs hl h1 hc.1 hfit hc.2 ha hg
          exact ⟨w', g1, fun _ => Fine.set g2 g3 trivial⟩
        · cases h
      · cases h
    · rename_i o' ver i off
      split at h
      · rename_i T e u hl
        split at h
        · rename_i hu
          subst hu
          obtain ⟨ts, h2, h⟩ := Option.bind_eq_some_iff.1 h
          split at h
          · rename_i hfit
            obtain ⟨ds, h3, h⟩ := Option.map_eq_some_iff.1 h
            cases h
            obtain ⟨w', g1, g2, g3⟩ := store_row_ok hs hl h2 h1 hc.1 hfit hc.2 h3 ha hg
            exact ⟨w', g1, fun _ => Fine.set g2 g3 trivial⟩
          · cases h
        · cases h
      · cases h
    · cases h
  · cases h

theorem symApp_ok (hs : Sat x w0 M) {k : Nat} {t0 t1 ty : TypeId} {s y : SV} {d : Done} (h : symApp x.P x.H k t0 t1 s y = some d) {v vy : Value} (hv : G x s v) (hy : G x y vy)
    (hg : ∀ c ∈ d.gs, (c.den x.e).bool = true) : ∃ u w', (Builtin.append_ #[t0, t1] ty #[v, vy]).run x.P x.w = .ok u w' ∧ Fine C x w0 M d u w' := by
  obtain ⟨⟨gs, oo, ob⟩, h1, h⟩ := Option.bind_eq_some_iff.1 h
  unfold symAppend at h1
  obtain ⟨T, g1, h1⟩ := Option.bind_eq_some_iff.1 h1
  obtain ⟨ts, g2, h1⟩ := Option.bind_eq_some_iff.1 h1
  obtain ⟨inf, g3, h1⟩ := Option.bind_eq_some_iff.1 h1
  obtain ⟨z, g4, h1⟩ := Option.bind_eq_some_iff.1 h1
  split at h1
  · rename_i hc
    obtain ⟨src, g5, h1⟩ := Option.bind_eq_some_iff.1 h1
    have bnd : ∀ b : Ex, (∀ c ∈ gds [mkCmp .leq (mkLen (mkApp b src)) (.ilit (140737488355328 / inf.bytes : Nat))], (c.den x.e).bool = true) → ((mkLen (mkApp b src)).den x.e).int ≤ ((140737488355328 / inf.bytes : Nat) : Int) := by
      intro b hb
      have := gds_ok hb _ (List.mem_singleton.2 rfl)
      rw [mkCmp_den] at this
      exact leq_of this
    cases s with
    | nils =>
      cases h1
      simp only [Option.ite_none_right_eq_some, Option.some.injEq] at h
      obtain ⟨hk, rfl⟩ := h
      obtain rfl := hv
      obtain ⟨v', w', n', xs', q1, q2, q3, q4, q5, q6, q7⟩ := append_run (ty := ty) (base := .nil) hs (sliceOf_spec g1) g2 g3 g4 hc.1 hc.2 g5 hy rfl (World.ownsRow_nil x.w 0 T ts.length) rfl ⟨by simp [Ex.den], fun i j t hi => by simp [Ex.den] at hi⟩ (bnd _ hg)
      obtain ⟨r1, r2, r3⟩ := new_row hs hk g2 q5 q2 q3 (fun b hb => (q4 b hb).resolve_left (by intro h; cases h)) q6 q7
      exact ⟨v', w', q1, Fine.set r1 r2 r3⟩
    | own oid ver =>
      simp only at h1
      split at h1
      · rename_i T' e u hl
        simp only [Option.ite_none_right_eq_some, Option.some.injEq] at h1
        obtain ⟨⟨rfl, rfl⟩, h1⟩ := h1
        cases h1
        cases h
        have hov := (hv.2 _ e u hl).2 rfl
        have ho := hs.objs oid
        rw [hl] at ho
        obtain ⟨hsc, ts', n, xs, k1, k2, k3, k4, _⟩ := ho
        rw [g2] at k1
        cases k1
        rw [← hov] at k2
        obtain ⟨v', w', n', xs', q1, q2, q3, q4, q5, q6, q7⟩ := append_run (ty := ty) hs (sliceOf_spec g1) g2 g3 g4 hc.1 hc.2 g5 hy hsc k2 k3 k4 (bnd _ hg)
        rw [hov] at q3 q4
        obtain ⟨r1, r2, r3⟩ := mod_row hs hl g2 q5 q2 q3 q4 q6 (u := u + 1) (by omega) (fun h => by omega) q7
        exact ⟨v', w', q1, Fine.set r1 r2 r3⟩
      · cases h1
    | _ => cases h1
  · cases h1

end
end Glx
namespace Glx
open Go

/-- the blocks of a set alone; the rest is not looked at -/
def mask (N ids : Nat) (f : Nat → SObj) : List SObj := (List.range N).map fun p => if ids.testBit p then f p else .dead

theorem look_mask {N ids : Nat} {f : Nat → SObj} (p : Nat) : look (mask N ids f) p = if p < N then (if ids.testBit p then f p else .dead) else .unborn := by
  unfold look mask
  by_cases h : p < N <;> simp [List.getD_eq_getElem?_getD, h]

theorem mask_congr {N ids : Nat} {f g : Nat → SObj} (h : ∀ p, p < N → ids.testBit p = true → f p = g p) : mask N ids f = mask N ids g := by
  unfold mask
  refine List.map_congr_left fun p hp => ?_
  split
  · rename_i hb; exact h p (List.mem_range.1 hp) hb
  · rfl

def inIds (ids : Nat) (l : List (Nat × Nat)) : Bool := l.all fun p => ids.testBit p.1

/-- a cell that names no other block -/
def SV.within (ids : Nat) : SV → Bool
  | .ptr o _ | .own o _ | .oel o _ _ _ => ids.testBit o
  | .fn _ a c => inIds ids a && inIds ids c
  | _ => true
def S1.within (ids : Nat) : S1 → Bool
  | .one s => s.within ids
  | .agg l => l.all (SV.within ids)
def Slot.within (ids : Nat) : Slot → Bool
  | .v s => s.within ids
  | .tup l => l.all (S1.within ids)
def SObj.within (ids : Nat) : SObj → Bool
  | .cells _ l _ => l.all (SV.within ids)
  | _ => true

section
variable {x x' y' : Env} {ids N : Nat} {w0 : World} {M : Nat → Prop}

/-- the picture of some blocks -/
def Env.mask (x : Env) (N ids : Nat) : Env := { x with H := Glx.mask N ids (look x.H) }

def Env.unmask (x y' : Env) (N ids : Nat) : Env :=
  { y' with ν := fun p => if ids.testBit p then y'.ν p else x.ν p, H := (List.range N).map fun p => if ids.testBit p then look y'.H p else look x.H p }

theorem mask_ext (hN : ∀ p, N ≤ p → look x.H p = .unborn) : Ext x (x.mask N ids) := by
  have hl : ∀ p, look (x.mask N ids).H p = if p < N then (if ids.testBit p then look x.H p else .dead) else .unborn := fun p => look_mask p
  refine ⟨rfl, fun _ h => h, ⟨[], by simp [Env.mask]⟩, fun _ _ => rfl, fun o h => ?_, fun o T l fz _ h => ?_, fun o T e u _ h => ?_⟩
  · rw [hl]
    by_cases hp : o < N
    · rw [if_pos hp]
      split
      · exact h
      · rfl
    · rw [hN o (by omega)] at h; cases h
  · rw [hl] at h
    split at h
    · split at h
      · exact ⟨⟨l, fz, h⟩, rfl⟩
      · cases h
    · cases h
  · rw [hl] at h
    split at h
    · split at h
      · exact ⟨e, u, h, Nat.le_refl _, fun _ => rfl⟩
      · cases h
    · cases h

theorem mask_sat (hs : Sat x w0 M) (hN : ∀ p, N ≤ p → look x.H p = .unborn) : Sat (x.mask N ids) x.w (Mof (x.mask N ids)) := by
  have hl : ∀ p, look (x.mask N ids).H p = if p < N then (if ids.testBit p then look x.H p else .dead) else .unborn := fun p => look_mask p
  have hsame : ∀ p, (look (x.mask N ids).H p).live = true → look (x.mask N ids).H p = look x.H p := by
    intro p h
    rw [hl] at h ⊢
    split
    · split
      · rfl
      · rename_i h1 h2; rw [if_pos h1, if_neg h2] at h; cases h
    · rename_i h1; rw [if_neg h1] at h; cases h
  refine ⟨fun o => ?_, fun o o' b hne h1 h2 h3 => ?_, hs.ibound, fun o b h1 h2 => .inl ⟨o, h1, h2⟩, Fr.refl _ _, hs.glob⟩
  · by_cases hlv : (look (x.mask N ids).H o).live = true
    · rw [hsame o hlv]
      exact (hs.objs o).ext (mask_ext hN) (fun _ => rfl) fun b _ _ => ⟨rfl, Iff.rfl⟩
    · cases hk : look (x.mask N ids).H o <;> rw [hk] at hlv <;> first | trivial | exact absurd rfl hlv
  · exact hs.apart o o' b hne (by rw [← hsame o h1]; exact h1) (by rw [← hsame o' h2]; exact h2) h3

/-- what an operation did to the masked picture, it did to the whole one -/
theorem unmask (hs : Sat x w0 M) (hN : ∀ p, N ≤ p → look x.H p = .unborn) (hids : ∀ p, ids.testBit p = true → p < N)
    (hs' : Sat y' x.w (Mof (x.mask N ids))) (he : Ext (x.mask N ids) y') (hback : ∀ b, y'.I b → x.I b ∨ x.w.heap.size ≤ b ∨ Mof (x.mask N ids) b)
    (hfz : ∀ p T l, ids.testBit p = true → look y'.H p = .cells T l true → look x.H p = look y'.H p)
    (hwithin : ∀ p, ids.testBit p = true → (look y'.H p).within ids = true) :
    Sat (x.unmask y' N ids) w0 M ∧ Ext x (x.unmask y' N ids) ∧ (∀ p, look (x.unmask y' N ids).H p = if ids.testBit p then look y'.H p else look x.H p) ∧
      (∀ s v, s.within ids = true → GS y' s v → GS (x.unmask y' N ids) s v) ∧ (∀ b, (x.unmask y' N ids).I b → x.I b ∨ x.w.heap.size ≤ b ∨ Mof x b) := by
  generalize hy : x.unmask y' N ids = y
  have hlm : ∀ p, look (x.mask N ids).H p = if p < N then (if ids.testBit p then look x.H p else .dead) else .unborn := fun p => look_mask p
  have hlid : ∀ p, ids.testBit p = true → look (x.mask N ids).H p = look x.H p := fun p h => by rw [hlm, if_pos (hids p h), if_pos h]
  have hl : ∀ p, look y.H p = if ids.testBit p then look y'.H p else look x.H p := by
    intro p
    rw [← hy]
    show look ((List.range N).map _) p = _
    by_cases h : p < N
    · unfold look; simp [List.getD_eq_getElem?_getD, h]
    · have h1 : ids.testBit p ≠ true := fun h2 => h (hids p h2)
      rw [if_neg h1, hN p (by omega)]
      unfold look
      simp [List.getD_eq_getElem?_getD, h]
  have hν : ∀ p, y.ν p = if ids.testBit p then y'.ν p else x.ν p := fun p => by rw [← hy]; rfl
  have hyP : y.P = y'.P := by rw [← hy]; rfl
  have hyI : y.I = y'.I := by rw [← hy]; rfl
  have hye : y.e = y'.e := by rw [← hy]; rfl
  have hyw : y.w = y'.w := by rw [← hy]; rfl
  have hMof : ∀ b, Mof (x.mask N ids) b → ∃ o, ids.testBit o = true ∧ (look x.H o).loose = true ∧ (look x.H o).live = true ∧ blkOf (x.ν o) = some b := by
    rintro b ⟨o, h1, h2⟩
    have h1' := h1
    rw [hlm] at h1
    split at h1
    · split at h1
      · rename_i _ h3
        refine ⟨o, h3, h1, ?_, h2⟩
        cases hq : look x.H o <;> rw [hq] at h1 <;> first | rfl | cases h1
      · cases h1
    · cases h1
  have hheap : ∀ b, b < x.w.heap.size → ¬ Mof (x.mask N ids) b → y.w.heap[b]? = x.w.heap[b]? := fun b h1 h2 => by rw [hyw]; exact hs'.frame.block b h1 h2
  have hext : Ext x y := by
    obtain ⟨ds, hds⟩ := he.e
    refine ⟨by rw [hyP]; exact he.P, fun b hb => by rw [hyI]; exact he.I b hb, ⟨ds, by rw [hye]; exact hds⟩, fun b hb => by rw [hyw]; exact he.heap b hb, fun o ho => ?_, fun o T l fz ho h => ?_, fun o T e u ho h => ?_⟩
    · rw [hl]
      split
      · rename_i h1; exact he.born o (by rw [hlid o h1]; exact ho)
      · exact ho
    · rw [hl] at h
      rw [hν]
      split at h
      · rename_i h1
        rw [if_pos h1]
        have := he.cells o T l fz (by rw [hlid o h1]; exact ho) h
        rw [hlid o h1] at this
        exact this
      · rename_i h1
        rw [if_neg h1]
        exact ⟨⟨l, fz, h⟩, rfl⟩
    · rw [hl] at h
      rw [hν]
      split at h
      · rename_i h1
        rw [if_pos h1]
        have := he.rows o T e u (by rw [hlid o h1]; exact ho) h
        rw [hlid o h1] at this
        exact this
      · rename_i h1
        rw [if_neg h1]
        exact ⟨e, u, h, Nat.le_refl _, fun _ => rfl⟩
  -- what names blocks of the set alone, says the same of both
  have hp : ∀ (p : Nat × Nat) (v : Value), ids.testBit p.1 = true → ptrTo y' p v → ptrTo y p v := by
    intro p v h1 h2
    refine ⟨by rw [hl, if_pos h1]; exact h2.1, fun T l fz h => ?_⟩
    rw [hl, if_pos h1] at h
    rw [hν, if_pos h1]
    exact h2.2 T l fz h
  have hps : ∀ (l : List (Nat × Nat)) (c : Array Value), inIds ids l = true → ptrsTo y' l c → ptrsTo y l c := by
    intro l c h1 h2
    unfold inIds at h1
    rw [List.all_eq_true] at h1
    exact ⟨h2.1, fun j p hj => hp p _ (h1 p (List.mem_of_getElem? hj)) (h2.2 j p hj)⟩
  have hG : ∀ (s : SV) (v : Value), s.within ids = true → G y' s v → G y s v := by
    intro s v h1 h2
    cases s with
    | int k e => simp only [G, hye]; exact h2
    | bool e => simp only [G, hye]; exact h2
    | str e => simp only [G, hye]; exact h2
    | sl T e => simp only [G, hye, hyP, hyI, hyw]; exact h2
    | nils => exact h2
    | nilp => exact h2
    | nilf => exact h2
    | ifc e => simp only [G, hye]; exact h2
    | top => trivial
    | ptr o off => exact hp (o, off) v h1 h2
    | own o ver =>
      have h1 : ids.testBit o = true := h1
      refine ⟨by rw [hl, if_pos h1]; exact h2.1, fun T e u h => ?_⟩
      rw [hl, if_pos h1] at h
      rw [hν, if_pos h1]
      exact h2.2 T e u h
    | oel o ver i off =>
      have h1 : ids.testBit o = true := h1
      refine ⟨by rw [hye]; exact h2.1, by rw [hl, if_pos h1]; exact h2.2.1, fun T e u h => ?_⟩
      rw [hl, if_pos h1] at h
      rw [hν, if_pos h1, hye, hyP]
      exact h2.2.2 T e u h
    | pel T l i off => simp only [G, hye, hyP, hyI, hyw]; exact h2
    | fn f a c =>
      simp only [SV.within, Bool.and_eq_true] at h1
      obtain ⟨va, vc, e1, e2, e3⟩ := h2
      exact ⟨va, vc, e1, hps a va h1.1 e2, hps c vc h1.2 e3⟩
  have hGL : ∀ (l : List SV) (c : Array Value), l.all (SV.within ids) = true → GL y' l c → GL y l c := by
    intro l c h1 h2
    rw [List.all_eq_true] at h1
    exact ⟨h2.1, fun j s hj => hG s _ (h1 s (List.mem_of_getElem? hj)) (h2.2 j s hj)⟩
  have hG1 : ∀ (s : S1) (v : Value), s.within ids = true → G1 y' s v → G1 y s v := by
    intro s v h1 h2
    cases s with
    | one s => exact hG s v h1 h2
    | agg l => obtain ⟨c, e1, e2⟩ := h2; exact ⟨c, e1, hGL l c h1 e2⟩
  have hGS : ∀ s v, s.within ids = true → GS y' s v → GS y s v := by
    intro s v h1 h2
    cases s with
    | v s => exact hG1 s v h1 h2
    | tup l =>
      obtain ⟨c, e1, e2, e3⟩ := h2
      simp only [Slot.within, List.all_eq_true] at h1
      exact ⟨c, e1, e2, fun j s hj => hG1 s _ (h1 s (List.mem_of_getElem? hj)) (e3 j s hj)⟩
  have hback' : ∀ b, y.I b → x.I b ∨ x.w.heap.size ≤ b ∨ Mof x b := by
    intro b hb
    rw [hyI] at hb
    rcases hback b hb with h | h | h
    · exact .inl h
    · exact .inr (.inl h)
    · obtain ⟨o, _, h1, _, h2⟩ := hMof b h
      exact .inr (.inr ⟨o, h1, h2⟩)
  refine ⟨Sat.step hs hext (fun o => ids.testBit o = true) (fun o ho => ⟨by rw [hl, if_neg ho], by rw [hν, if_neg ho]⟩) (fun o b ho hlv hb => ?_) (fun o ho => ?_) (fun o o' b ho hne h1 h2 h3 => ?_) (fun b hb => ?_) (fun o b ho h1 h2 => ?_) ?_, hext, hl, hGS, hback'⟩
  · have hnm : ¬ Mof (x.mask N ids) b := by
      intro h
      obtain ⟨o2, g1, g2, g3, g4⟩ := hMof b h
      have hne : o ≠ o2 := fun e => ho (e ▸ g1)
      exact hs.apart o o2 b hne hlv g3 hb g4
    have hlt := live_blk_lt hs hlv hb
    refine ⟨hheap b hlt hnm, fun h => ?_, fun h => by rw [hyI]; exact he.I b h⟩
    rw [hyI] at h
    rcases hback b h with h | h | h
    · exact h
    · omega
    · exact absurd h hnm
  · rw [hl, if_pos ho]
    have h1 := hs'.objs o
    have h2 := hwithin o ho
    cases hq : look y'.H o with
    | unborn => trivial
    | dead => trivial
    | cells T l fz =>
      rw [hq] at h1 h2
      obtain ⟨b, c, k1, k2, k3, k4, k5⟩ := h1
      exact ⟨b, c, by rw [hν, if_pos ho]; exact k1, by rw [hyw]; exact k2, hGL l c h2 k3, by rw [hyI]; exact k4, by rw [hyI]; exact k5⟩
    | row T e u =>
      rw [hq] at h1
      obtain ⟨hsc, ts, n, xs, k1, k2, k3, k4, k5⟩ := h1
      exact ⟨by rw [hye]; exact hsc, ts, n, xs, by rw [hyP]; exact k1, by rw [hν, if_pos ho, hyw]; exact k2, by rw [hye]; exact k3, by rw [hyP, hyI, hyw, hye]; exact k4, by rw [hν, if_pos ho, hyI]; exact k5⟩
  · rw [hl, if_pos ho] at h1
    rw [hν, if_pos ho] at h3
    by_cases ho' : ids.testBit o' = true
    · rw [hl, if_pos ho'] at h2
      rw [hν, if_pos ho']
      exact hs'.apart o o' b hne h1 h2 h3
    · rw [hl, if_neg ho'] at h2
      rw [hν, if_neg ho']
      intro h4
      have hlt := live_blk_lt hs h2 h4
      have hnm : ¬ Mof (x.mask N ids) b := by
        intro h
        obtain ⟨o2, g1, _, g3, g4⟩ := hMof b h
        exact hs.apart o' o2 b (fun e => ho' (e ▸ g1)) h2 g3 h4 g4
      cases hls : (look y'.H o).loose with
      | true =>
        rcases hs'.mine o b hls h3 with h5 | h5
        · exact hnm h5
        · omega
      | false =>
        cases hq : look y'.H o with
        | unborn => rw [hq] at h1; cases h1
        | dead => rw [hq] at h1; cases h1
        | row T e u => rw [hq] at hls; cases hls
        | cells T l fz =>
          cases fz with
          | false => rw [hq] at hls; cases hls
          | true =>
            have h5 := hfz o T l ho hq
            have hxl : look x.H o = .cells T l true := by rw [h5, hq]
            have h6 := he.cells o T l true (by rw [hlid o ho, hxl]; rfl) hq
            have h7 : y'.ν o = x.ν o := h6.2
            rw [h7] at h3
            exact hs.apart o o' b hne (by rw [hxl]; rfl) h2 h3 h4
  · rw [hyI] at hb; rw [hyw]; exact hs'.ibound b hb
  · rw [hl, if_pos ho] at h1
    rw [hν, if_pos ho] at h2
    rcases hs'.mine o b h1 h2 with h3 | h3
    · obtain ⟨o2, _, g2, _, g4⟩ := hMof b h3
      exact hs.mine o2 b g2 g4
    · exact .inr (Nat.le_trans hs.frame.size h3)
  · have hf := hs'.frame
    refine ⟨by rw [hyw]; exact hf.os.trans hs.frame.os, by rw [hyw]; exact hf.tape.trans hs.frame.tape, by rw [hyw]; exact hf.output.trans hs.frame.output, by rw [hyw]; exact Nat.le_trans hs.frame.size hf.size, fun b hb hm => ?_⟩
    have hbz := Nat.lt_of_lt_of_le hb hs.frame.size
    refine (hheap b hbz fun hmx => ?_).trans (hs.frame.block b hb hm)
    obtain ⟨o2, _, g2, _, g4⟩ := hMof b hmx
    rcases hs.mine o2 b g2 g4 with h8 | h8
    · exact hm h8
    · omega

end
end Glx
