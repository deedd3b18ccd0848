/- Stores into a slice of the walk's own; slices that are written out; append. -/
import Derived.Test.YtfelpmijieomaaaGreatDoorGlxOpM
namespace Glx
open Go

section
variable {x : Env} {w0 : World} {M : Nat → Prop}

theorem RdRows.set {P : Program} {I : Nat → Prop} {h : Array Obj} {ts : List LTy} {xs : List Value} {rows : List (List D)} (hr : RdRows P I h ts xs rows) (hx : xs.length = rows.length * ts.length)
    {i j : Nat} (hi : i < rows.length) {t : LTy} (ht : ts[j]? = some t) {v : Value} {d : D} (hd : Rd P I h t v d) : RdRows P I h ts (xs.set (i * ts.length + j) v) (setAt rows (i : Int) j d) := by
  have hj : j < ts.length := (List.getElem?_eq_some_iff.1 ht).1
  have hrow : (rows.getD i []).length = ts.length := by
    rw [List.getD_eq_getElem?_getD, List.getElem?_eq_getElem hi]
    exact hr.1 _ (List.getElem_mem hi)
  have hmul : (i + 1) * ts.length ≤ rows.length * ts.length := Nat.mul_le_mul_right _ hi
  rw [Nat.add_mul, Nat.one_mul] at hmul
  refine ⟨fun r hm => ?_, fun i2 j2 t2 hi2 ht2 => ?_⟩
  · simp only [setAt, Int.toNat_natCast] at hm
    rcases List.mem_or_eq_of_mem_set hm with h1 | h1
    · exact hr.1 r h1
    · rw [h1, List.length_set, hrow]
  · simp only [setAt, Int.toNat_natCast, List.length_set] at hi2 ⊢
    have hj2 : j2 < ts.length := (List.getElem?_eq_some_iff.1 ht2).1
    have hold := hr.2 i2 j2 t2 hi2 ht2
    by_cases hii : i2 = i
    · subst hii
      have hrows : (rows.set i2 ((rows.getD i2 []).set j d)).getD i2 [] = (rows.getD i2 []).set j d := by
        rw [List.getD_eq_getElem?_getD, List.getElem?_set_self hi]; rfl
      rw [hrows]
      by_cases hjj : j2 = j
      · subst hjj
        rw [ht] at ht2
        cases ht2
        have e1 : (xs.set (i2 * ts.length + j2) v).getD (i2 * ts.length + j2) undef = v := by
          rw [List.getD_eq_getElem?_getD, List.getElem?_set_self (by omega)]; rfl
        have e2 : ((rows.getD i2 []).set j2 d).getD j2 default = d := by
          rw [List.getD_eq_getElem?_getD, List.getElem?_set_self (by omega)]; rfl
        rw [e1, e2]
        exact hd
      · have e1 : (xs.set (i2 * ts.length + j) v).getD (i2 * ts.length + j2) undef = xs.getD (i2 * ts.length + j2) undef := by
          simp only [List.getD_eq_getElem?_getD]
          rw [List.getElem?_set_ne (by omega)]
        have e2 : ((rows.getD i2 []).set j d).getD j2 default = (rows.getD i2 []).getD j2 default := by
          simp only [List.getD_eq_getElem?_getD]
          rw [List.getElem?_set_ne (by omega)]
        rw [e1, e2]
        exact hold
    · have hne : i * ts.length + j ≠ i2 * ts.length + j2 := by
        intro he
        rcases Nat.lt_or_gt_of_ne hii with h1 | h1
        · have : (i2 + 1) * ts.length ≤ i * ts.length := Nat.mul_le_mul_right _ h1
          rw [Nat.add_mul, Nat.one_mul] at this
          omega
        · have : (i + 1) * ts.length ≤ i2 * ts.length := Nat.mul_le_mul_right _ h1
          rw [Nat.add_mul, Nat.one_mul] at this
          omega
      have e1 : (xs.set (i * ts.length + j) v).getD (i2 * ts.length + j2) undef = xs.getD (i2 * ts.length + j2) undef := by
        simp only [List.getD_eq_getElem?_getD]
        rw [List.getElem?_set_ne hne]
      have e2 : (rows.set i ((rows.getD i []).set j d)).getD i2 [] = rows.getD i2 [] := by
        simp only [List.getD_eq_getElem?_getD]
        rw [List.getElem?_set_ne (Ne.symm hii)]
      rw [e1, e2]
      exact hold

theorem setAt_length (rows : List (List D)) (i : Int) (j : Nat) (d : D) : (setAt rows i j d).length = rows.length := by simp [setAt]

theorem take_cons_drop {α : Type} (l : List α) (p : Nat) (v : α) (vs : List α) (hp : p < l.length) :
    l.take p ++ (v :: vs) ++ l.drop (p + (v :: vs).length) = (l.set p v).take (p + 1) ++ vs ++ (l.set p v).drop (p + 1 + vs.length) := by
  have h1 : (l.set p v).take (p + 1) = l.take p ++ [v] := by
    rw [List.take_succ_eq_append_getElem (by simpa using hp)]
    simp [List.take_set_of_le]
  have h2 : (l.set p v).drop (p + 1 + vs.length) = l.drop (p + 1 + vs.length) := by rw [List.drop_set_of_lt (by omega)]
  rw [h1, h2]
  simp only [List.length_cons, List.append_assoc, List.cons_append, List.nil_append]
  congr 4
  omega

/-- several cells of one row -/
theorem updEx_ok {ts : List LTy} {ix : Ex} {i : Nat} (hix : ix.sc x.e.length = true) (hi : (ix.den x.e).int = i) : ∀ (ds : List Ex) (vs : List Value) (off : Nat) (e : Ex) (xs : List Value),
    e.sc x.e.length = true → xs.length = (e.den x.e).rows.length * ts.length → i < (e.den x.e).rows.length → RdRows x.P x.I x.w.heap ts xs (e.den x.e).rows → off + ds.length ≤ ts.length → ds.length = vs.length →
    (∀ j t d v, ts[off + j]? = some t → ds[j]? = some d → vs[j]? = some v → d.sc x.e.length = true ∧ Rd x.P x.I x.w.heap t v (d.den x.e)) →
    (updEx e ix off ds).sc x.e.length = true ∧ ((updEx e ix off ds).den x.e).rows.length = (e.den x.e).rows.length ∧
      RdRows x.P x.I x.w.heap ts (xs.take (i * ts.length + off) ++ vs ++ xs.drop (i * ts.length + off + vs.length)) ((updEx e ix off ds).den x.e).rows
  | [], [], off, e, xs, h1, h2, h3, h4, _, _, _ => by
    refine ⟨h1, rfl, ?_⟩
    simpa [updEx] using h4
  | d :: ds, v :: vs, off, e, xs, h1, h2, h3, h4, h5, h6, h7 => by
    simp only [List.length_cons] at h5 h6
    have ht := List.getElem?_eq_getElem (l := ts) (i := off) (by omega)
    obtain ⟨hd, hrd⟩ := h7 0 _ d v ht rfl rfl
    have hmul : (i + 1) * ts.length ≤ (e.den x.e).rows.length * ts.length := Nat.mul_le_mul_right _ h3
    rw [Nat.add_mul, Nat.one_mul] at hmul
    have hset := h4.set h2 h3 ht hrd
    have hden : ((Ex.upd e ix off d).den x.e).rows = setAt (e.den x.e).rows (i : Int) off (d.den x.e) := by simp [Ex.den, hi]
    have ih := updEx_ok (ts := ts) hix hi ds vs (off + 1) (.upd e ix off d) (xs.set (i * ts.length + off) v) (by simp [Ex.sc, h1, hix, hd]) (by rw [hden, setAt_length]; simpa using h2)
      (by rw [hden, setAt_length]; exact h3) (by rw [hden]; exact hset) (by omega) (by omega) (fun j t d' v' q1 q2 q3 => h7 (j + 1) t d' v' (by rw [← q1]; congr 1; omega) (by simpa using q2) (by simpa using q3))
    refine ⟨ih.1, by rw [updEx, ih.2.1, hden, setAt_length], ?_⟩
    rw [take_cons_drop xs _ v vs (by omega)]
    have := ih.2.2
    rw [show i * ts.length + (off + 1) = i * ts.length + off + 1 by omega] at this
    exact this
  | [], _ :: _, _, _, _, _, _, _, _, _, h6, _ => by simp at h6
  | _ :: _, [], _, _, _, _, _, _, _, _, h6, _ => by simp at h6

theorem store_row_ok (hs : Sat x w0 M) {o ver off : Nat} {ix : Ex} {T : TypeId} {e : Ex} (hl : look x.H o = .row T e ver) {ts : List LTy} (hts : tys x.P T = some ts) {t : TypeId} {inf : TypeInfo} (hi : x.P.info? t = some inf) {s : S1}
    (hn : s.cells.length = inf.size) (hfit : off + inf.size ≤ ts.length) (hsol : s.cells.all (solid x.H) = true) {ds : List Ex} (hds : toDatas ((ts.drop off).take inf.size) s.cells = some ds)
    {va v : Value} (ha : G x (.oel o ver ix off) va) (hg : G1 x s v) :
    ∃ w', (Instr.storeAt t va v).run x.P x.w = .ok () w' ∧ Sat (x.set o (x.ν o) (.row T (updEx e ix off ds) ver) w') w0 M ∧ Ext x (x.set o (x.ν o) (.row T (updEx e ix off ds) ver) w') := by
  obtain ⟨hix, _, hval⟩ := ha
  obtain ⟨ts', b, n, cap, q1, q2, q3, q4, rfl⟩ := (hval T e ver hl).2 rfl
  rw [hts] at q1
  cases q1
  have ho := hs.objs o
  rw [hl] at ho
  obtain ⟨hsc, ts', n', xs, p1, p2, p3, p4, p5⟩ := ho
  rw [hts] at p1
  cases p1
  have hown := p2
  rw [q2] at p2
  obtain ⟨hxl, r2⟩ := p2
  rcases r2 with ⟨r2, _⟩ | ⟨g, cap', cur, r2, r3, r4, r5, r6, r7, r8⟩
  · cases r2
  simp only [Value.slice.injEq, Option.some.injEq, Addr.mk.injEq, and_true] at r2
  obtain ⟨rfl, rfl, rfl⟩ := r2
  obtain ⟨g1, g2⟩ := cells_ok hs hsol hg
  have hvn : v.cells.size = inf.size := by rw [g1.1, hn]
  have hin : (ix.den x.e).int.toNat < n := by omega
  have hmul : ((ix.den x.e).int.toNat + 1) * ts.length ≤ n * ts.length := Nat.mul_le_mul_right _ hin
  have hmul2 : n * ts.length ≤ cap * ts.length := Nat.mul_le_mul_right _ r5
  rw [Nat.add_mul, Nat.one_mul] at hmul
  have hrun := run_store_cells (P := x.P) r4 (t := t) hi (off := (ix.den x.e).int.toNat * ts.length + off) hvn (by omega) g2
  obtain ⟨t1, t2, t3⟩ := toDatas_ok hds
  have hup := updEx_ok (x := x) (ts := ts) (ix := ix) (i := (ix.den x.e).int.toNat) hix (by omega) ds v.cells.toList off e xs hsc (by rw [p3]; exact hxl) (by omega) p4 (by rw [t2, hn]; exact hfit) (by simp [t2, hn, hvn]) (fun j t' d v' h1 h2 h3 => by
    have hjs : j < s.cells.length := by rw [← t2]; exact (List.getElem?_eq_some_iff.1 h2).1
    have e1 : ((ts.drop off).take inf.size)[j]? = some t' := by rw [List.getElem?_take, if_pos (by omega), List.getElem?_drop]; exact h1
    have hd := t3 j t' _ d e1 (List.getElem?_eq_getElem hjs) h2
    have hgg := g1.2 j _ (List.getElem?_eq_getElem hjs)
    have hv' : v.cells.getD j undef = v' := by
      have hj' : j < v.cells.size := by omega
      rw [Array.getElem?_toList, Array.getElem?_eq_getElem hj'] at h3
      simp only [Option.some.injEq] at h3
      simp [Array.getD_eq_getD_getElem?, hj', h3]
    rw [hv'] at hgg
    exact toData_ok hd hgg)
  have hfin : (x.w.setRow b (cur.toList.take ((ix.den x.e).int.toNat * ts.length + off) ++ v.cells.toList ++ cur.toList.drop ((ix.den x.e).int.toNat * ts.length + off + v.cells.toList.length)).toArray).ownsRow 0 T ts.length (.slice (some ⟨b, 0, none⟩) n cap) n
      (xs.take ((ix.den x.e).int.toNat * ts.length + off) ++ v.cells.toList ++ xs.drop ((ix.den x.e).int.toNat * ts.length + off + v.cells.toList.length)) := by
    have hvl : v.cells.toList.length = inf.size := by simpa using hvn
    refine ⟨?_, .inr ⟨b, cap, _, rfl, Nat.zero_le _, setRow_heap x.w b cur _ T (0, 0) r4, r5, r6, ?_, ?_⟩⟩
    · simp only [List.length_append, List.length_take, List.length_drop, hvl]; omega
    · simp only [List.size_toArray, List.length_append, List.length_take, List.length_drop, Array.length_toList, hvl]; omega
    · rw [← r8]
      apply List.ext_getElem?
      intro j
      have hcl : cur.toList.length = cap * ts.length := by simpa using r7
      by_cases hj : j < n * ts.length
      · rw [List.getElem?_take, if_pos hj]
        have a1 := take_mid (l := cur.toList) (m := v.cells.toList) (off := (ix.den x.e).int.toNat * ts.length + off) (j := j) undef (by omega)
        have a2 := take_mid (l := cur.toList.take (n * ts.length)) (m := v.cells.toList) (off := (ix.den x.e).int.toNat * ts.length + off) (j := j) undef (by rw [List.length_take]; omega)
        have b1 : j < (cur.toList.take ((ix.den x.e).int.toNat * ts.length + off) ++ v.cells.toList ++ cur.toList.drop ((ix.den x.e).int.toNat * ts.length + off + v.cells.toList.length)).length := by
          simp only [List.length_append, List.length_take, List.length_drop, hvl]; omega
        have b2 : j < ((cur.toList.take (n * ts.length)).take ((ix.den x.e).int.toNat * ts.length + off) ++ v.cells.toList ++ (cur.toList.take (n * ts.length)).drop ((ix.den x.e).int.toNat * ts.length + off + v.cells.toList.length)).length := by
          simp only [List.length_append, List.length_take, List.length_drop, hvl]; omega
        rw [List.toList_toArray, List.getElem?_eq_getElem b1, List.getElem?_eq_getElem b2]
        rw [List.getD_eq_getElem?_getD, List.getElem?_eq_getElem b1] at a1
        rw [List.getD_eq_getElem?_getD, List.getElem?_eq_getElem b2] at a2
        simp only [Option.getD_some] at a1 a2
        rw [a1, a2]
        have : (cur.toList.take (n * ts.length)).getD j undef = cur.toList.getD j undef := by simp only [List.getD_eq_getElem?_getD, List.getElem?_take, if_pos hj]
        rw [this]
      · rw [List.getElem?_take, if_neg hj, List.getElem?_eq_none]
        simp only [List.length_append, List.length_take, List.length_drop, hvl]; omega
  have hnb : (x.ν o).ownBlock = some b := by rw [q2]; rfl
  have hgrow : x.w.grownBy (x.w.setRow b (cur.toList.take ((ix.den x.e).int.toNat * ts.length + off) ++ v.cells.toList ++ cur.toList.drop ((ix.den x.e).int.toNat * ts.length + off + v.cells.toList.length)).toArray) (x.ν o).ownBlock :=
    ⟨rfl, rfl, rfl, by simp [World.setRow], fun k _ hk => setRow_other _ _ _ _ (fun hkb => hk (by rw [hnb, hkb]))⟩
  refine ⟨_, hrun, ?_⟩
  have hfinal := mod_row (v := x.ν o) (u := ver) hs hl hts hup.1 (by rw [q2]; exact hfin) hgrow (fun b' h => .inl h) (by rw [hup.2.1, p3]) (Nat.le_refl _) (fun _ => rfl) hup.2.2
  exact ⟨hfinal.1, hfinal.2.1⟩

end
end Glx
