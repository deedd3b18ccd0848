/- Structs that are built; slices that are written out; append; make. -/
import Derived.Test.YtfelpmijieomaaaGreatDoorGlxOpN
import Derived.Great.BuildSlice
namespace Glx
open Go

section
variable {x : Env} {w0 : World} {M : Nat → Prop}

/-! ### Structs, arrays -/
def symFill (place : Nat → Option (Nat × Nat)) : List SV → List (Nat × S1) → Option (List SV)
  | l, [] => some l
  | l, (i, s) :: rest => match place i with
    | none => none
    | some (off, size) => if s.cells.length = size ∧ off + size ≤ l.length then symFill place (l.take off ++ s.cells ++ l.drop (off + size)) rest else none

theorem GL_patch {l m : List SV} {c d : Array Value} {off : Nat} (h1 : GL x l c) (h2 : GL x m d) (hfit : off + m.length ≤ l.length) :
    GL x (l.take off ++ m ++ l.drop (off + m.length)) (d.zipIdx.foldl (fun cs (c, j) => cs.setIfInBounds (off + j) c) c) := by
  have hf := Great.foldl_set off d.toList 0 c
  have hz : d.zipIdx.foldl (fun cs (c, j) => cs.setIfInBounds (off + j) c) c = (d.toList.zipIdx 0).foldl (fun cs (y : Value × Nat) => cs.setIfInBounds (off + y.2) y.1) c := by
    rw [← Array.foldl_toList, Array.toList_zipIdx]
  rw [hz]
  have hdl : d.toList.length = m.length := by rw [Array.length_toList, h2.1]
  refine ⟨?_, fun j s hj => ?_⟩
  · rw [hf.1]
    simp only [List.length_append, List.length_take, List.length_drop, h1.1]; omega
  · have hjl : j < l.length := by
      have := (List.getElem?_eq_some_iff.1 hj).1
      simp only [List.length_append, List.length_take, List.length_drop] at this
      omega
    have e2 := take_mid (l := l) (m := m) (off := off) (j := j) SV.top hfit
    rw [List.getD_eq_getElem?_getD, hj] at e2
    simp only [Option.getD_some] at e2
    subst e2
    rw [Array.getD_eq_getD_getElem?, hf.2 j]
    simp only [Nat.add_zero, hdl]
    split
    · rename_i h3
      rw [if_neg (by omega)]
      have := h1.2 j _ (List.getElem?_eq_getElem hjl)
      simpa [hjl, Array.getD_eq_getD_getElem?, List.getD_eq_getElem?_getD] using this
    · split
      · rename_i h3 h4
        rw [if_pos ⟨by omega, h4, by rw [h1.1]; exact hjl⟩, Array.getElem?_toList]
        have hjm : j - off < m.length := by omega
        have := h2.2 (j - off) _ (List.getElem?_eq_getElem hjm)
        simpa [hjm, Array.getD_eq_getD_getElem?, List.getD_eq_getElem?_getD] using this
      · rename_i h3 h4
        rw [if_neg (by omega)]
        have := h1.2 j _ (List.getElem?_eq_getElem hjl)
        simpa [hjl, Array.getD_eq_getD_getElem?, List.getD_eq_getElem?_getD] using this

/-- parts and their values -/
def PartsOk (x : Env) : List (Nat × S1) → List (Nat × Value) → Prop
  | [], [] => True
  | (i, s) :: ps, (j, v) :: vs => i = j ∧ GL x s.cells v.cells ∧ PartsOk x ps vs
  | _, _ => False

theorem symFill_ok {place : Nat → Option (Nat × Nat)} : ∀ {ps : List (Nat × S1)} {vs : List (Nat × Value)} {l r : List SV} {c : Array Value}, symFill place l ps = some r → PartsOk x ps vs → GL x l c →
    ∃ d, Instr.fill place c vs = some d ∧ GL x r d
  | [], [], l, r, c, h, _, hl => by
    simp only [symFill, Option.some.injEq] at h
    subst h
    exact ⟨c, rfl, hl⟩
  | (i, s) :: ps, (j, v) :: vs, l, r, c, h, hp, hl => by
    obtain ⟨rfl, hg, hp⟩ := hp
    simp only [symFill] at h
    split at h
    · cases h
    · rename_i off size hpl
      split at h
      · rename_i hc
        obtain ⟨h1, h2⟩ := hc
        subst h1
        obtain ⟨d, hd, hr⟩ := symFill_ok h hp (GL_patch hl hg h2)
        refine ⟨d, ?_, hr⟩
        simp only [Instr.fill, hpl]
        rw [if_neg (by simp [hg.1, hl.1]; omega)]
        exact hd
      · cases h
  | [], _ :: _, _, _, _, _, hp, _ => hp.elim
  | _ :: _, [], _, _, _, _, hp, _ => hp.elim

def symBuild (P : Program) (t : TypeId) (ps : List (Nat × S1)) : Option (List SV) :=
  (P.info? t).bind fun it => it.zero.bind fun z => (constS1 z).bind fun s0 =>
  match P.underlying t, s0 with
  | some (.struct fields), .agg l0 => (fields.toList.mapM fun f => (P.info? f.type).map fun i => (f.offset, i.size)).bind fun places => symFill (places[·]?) l0 ps
  | some (.array _ e), .agg l0 => (P.info? e).bind fun ie => symFill (fun i => some (i * ie.size, ie.size)) l0 ps
  | _, _ => none

theorem symBuild_ok {t : TypeId} {ps : List (Nat × S1)} {l : List SV} (h : symBuild x.P t ps = some l) {vs : Array (Nat × Value)} (hp : PartsOk x ps vs.toList) (w : World) :
    ∃ c, (Instr.build t vs).run x.P w = .ok (.agg c) w ∧ GL x l c := by
  unfold symBuild at h
  obtain ⟨it, hit, h⟩ := Option.bind_eq_some_iff.1 h
  obtain ⟨z, hz, h⟩ := Option.bind_eq_some_iff.1 h
  obtain ⟨s0, hs0, h⟩ := Option.bind_eq_some_iff.1 h
  have hg0 := constS1_ok (x := x) hs0
  split at h
  · rename_i fields l0 hu
    obtain ⟨places, hpl, h2⟩ := Option.bind_eq_some_iff.1 h
    obtain ⟨c0, rfl, hl0⟩ := hg0
    obtain ⟨d, hd, hr⟩ := symFill_ok h2 hp hl0
    exact ⟨d, run_build w t vs d (by simp only [Program.built, hit, hu, hz, hpl, Value.cells]; rw [← hd]; congr 1; funext i; exact List.getElem?_toArray), hr⟩
  · rename_i n e l0 hu
    obtain ⟨ie, hie, h2⟩ := Option.bind_eq_some_iff.1 h
    obtain ⟨c0, rfl, hl0⟩ := hg0
    obtain ⟨d, hd, hr⟩ := symFill_ok h2 hp hl0
    exact ⟨d, run_build w t vs d (by simp only [Program.built, hit, hu, hz, hie, Value.cells]; exact hd), hr⟩
  · cases h

/-! ### Rows side by side -/
theorem RdRows.append {P : Program} {I : Nat → Prop} {h : Array Obj} {ts : List LTy} {xs ys : List Value} {rows more : List (List D)} (h1 : RdRows P I h ts xs rows) (hx : xs.length = rows.length * ts.length)
    (h2 : RdRows P I h ts ys more) : RdRows P I h ts (xs ++ ys) (rows ++ more) := by
  refine ⟨fun r hr => (List.mem_append.1 hr).elim (h1.1 r) (h2.1 r), fun i j t hi ht => ?_⟩
  have hj := (List.getElem?_eq_some_iff.1 ht).1
  by_cases hir : i < rows.length
  · have hmul : (i + 1) * ts.length ≤ rows.length * ts.length := Nat.mul_le_mul_right _ hir
    rw [Nat.add_mul, Nat.one_mul] at hmul
    have := h1.2 i j t hir ht
    simp only [List.getD_eq_getElem?_getD] at this ⊢
    rw [List.getElem?_append_left (by omega), List.getElem?_append_left hir]
    exact this
  · have hmul : rows.length * ts.length ≤ i * ts.length := Nat.mul_le_mul_right _ (by omega)
    simp only [List.length_append] at hi
    have := h2.2 (i - rows.length) j t (by omega) ht
    simp only [List.getD_eq_getElem?_getD] at this ⊢
    rw [List.getElem?_append_right (by omega), List.getElem?_append_right (by omega)]
    rw [Nat.sub_mul] at this
    rw [show i * ts.length + j - xs.length = i * ts.length - rows.length * ts.length + j by omega]
    exact this

/-- the rows that are written out -/
def rowsEx : List (List Ex) → Ex → Ex
  | [], a => a
  | r :: rs, a => rowsEx rs (.app a (.row (rowEx r)))

theorem rowEx_den (e : List D) : ∀ l : List Ex, ((rowEx l).den e).cells = l.map (Ex.den e)
  | [] => rfl
  | d :: l => by simp [rowEx, Ex.den, rowEx_den e l]
theorem rowEx_sc {n : Nat} : ∀ {l : List Ex}, (∀ d ∈ l, d.sc n = true) → (rowEx l).sc n = true
  | [], _ => rfl
  | d :: l, h => by simp [rowEx, Ex.sc, h d (List.mem_cons_self ..), rowEx_sc (l := l) fun d' hd => h d' (List.mem_cons_of_mem _ hd)]
theorem rowsEx_den (e : List D) : ∀ (rs : List (List Ex)) (a : Ex), ((rowsEx rs a).den e).rows = (a.den e).rows ++ rs.map fun r => r.map (Ex.den e)
  | [], a => by simp [rowsEx]
  | r :: rs, a => by rw [rowsEx, rowsEx_den e rs]; simp [Ex.den, rowEx_den]
theorem rowsEx_sc {n : Nat} : ∀ {rs : List (List Ex)} {a : Ex}, a.sc n = true → (∀ r ∈ rs, ∀ d ∈ r, d.sc n = true) → (rowsEx rs a).sc n = true
  | [], a, ha, _ => ha
  | r :: rs, a, ha, h => rowsEx_sc (rs := rs) (by simp [Ex.sc, ha, rowEx_sc (h r (List.mem_cons_self ..))]) fun r' hr => h r' (List.mem_cons_of_mem _ hr)

/-- the data of the parts of a slice that is written out: numbered from 0, each of an element's cells -/
def litRows (ts : List LTy) : Nat → List (Nat × S1) → Option (List (List Ex))
  | _, [] => some []
  | n, (i, s) :: ps => if i = n then (toDatas ts s.cells).bind fun r => (litRows ts (n + 1) ps).map (r :: ·) else none

theorem litRows_ok {ts : List LTy} : ∀ {ps : List (Nat × S1)} {n : Nat} {rs : List (List Ex)} {vs : List (Nat × Value)}, litRows ts n ps = some rs → PartsOk x ps vs →
    vs = ((vs.map (·.2)).zipIdx n).map (fun y => (y.2, y.1)) ∧ (∀ v ∈ vs.map (·.2), v.cells.size = ts.length) ∧ rs.length = vs.length ∧ (∀ r ∈ rs, ∀ d ∈ r, d.sc x.e.length = true) ∧
      RdRows x.P x.I x.w.heap ts ((vs.map (·.2)).flatMap fun v => v.cells.toList) (rs.map fun r => r.map (Ex.den x.e))
  | [], n, rs, [], h, _ => by
    simp only [litRows, Option.some.injEq] at h
    subst h
    simp [RdRows]
  | (i, s) :: ps, n, rs, (j, v) :: vs, h, hp => by
    obtain ⟨rfl, hg, hp⟩ := hp
    simp only [litRows, Option.ite_none_right_eq_some] at h
    obtain ⟨rfl, h⟩ := h
    obtain ⟨r, hr, h⟩ := Option.bind_eq_some_iff.1 h
    obtain ⟨rs', hrs, rfl⟩ := Option.map_eq_some_iff.1 h
    obtain ⟨a, b, c, d, e⟩ := litRows_ok hrs hp
    obtain ⟨t1, t2, t3⟩ := toDatas_ok hr
    have hcell : ∀ j' t' d', ts[j']? = some t' → r[j']? = some d' → d'.sc x.e.length = true ∧ Rd x.P x.I x.w.heap t' (v.cells.getD j' undef) (d'.den x.e) := by
      intro j' t' d' q1 q2
      have hj : j' < s.cells.length := by rw [← t2]; exact (List.getElem?_eq_some_iff.1 q2).1
      have := t3 j' t' _ d' q1 (List.getElem?_eq_getElem hj) q2
      exact toData_ok this (hg.2 j' _ (List.getElem?_eq_getElem hj))
    have hvs : v.cells.size = ts.length := by rw [hg.1, t1]
    refine ⟨?_, ?_, ?_, ?_, ?_⟩
    · simp only [List.map_cons, List.zipIdx_cons]
      rw [← a]
    · intro u hu
      rcases List.mem_cons.1 hu with h1 | h1
      · subst h1; exact hvs
      · exact b u h1
    · simp [c]
    · intro r' hr' d' hd'
      rcases List.mem_cons.1 hr' with h1 | h1
      · subst h1
        obtain ⟨j', hj', rfl⟩ := List.getElem_of_mem hd'
        have hjt : j' < ts.length := by omega
        exact (hcell j' _ _ (List.getElem?_eq_getElem hjt) (List.getElem?_eq_getElem hj')).1
      · exact d r' h1 d' hd'
    · simp only [List.map_cons, List.flatMap_cons]
      have h1 : RdRows x.P x.I x.w.heap ts v.cells.toList [r.map (Ex.den x.e)] := by
        refine ⟨fun q hq => by rw [List.mem_singleton] at hq; subst hq; simp [t2, t1], fun i' j' t' hi ht => ?_⟩
        have hi0 : i' = 0 := by simp only [List.length_singleton] at hi; omega
        subst hi0
        have hjt := (List.getElem?_eq_some_iff.1 ht).1
        have hjr : j' < r.length := by omega
        have := (hcell j' t' _ ht (List.getElem?_eq_getElem hjr)).2
        simpa [hjr, Array.getD_eq_getD_getElem?, List.getD_eq_getElem?_getD] using this
      exact h1.append (by simp [hvs]) e

theorem buildSlice_ok (hs : Sat x w0 M) {k : Nat} (hk : look x.H k = .unborn) {t T : TypeId} (ht : sliceOf x.P t = some T) {ts : List LTy} (hts : tys x.P T = some ts) {n : Nat} {ps : List (Nat × S1)} {rs : List (List Ex)}
    (hr : litRows ts 0 ps = some rs) (hn : ps.length = n) (hpos : n ≠ 0) (hbig : n * ts.length ≤ 16777216) (hz : ((x.P.info? T).bind (·.zero)).isSome = true) {vs : Array (Nat × Value)} (hp : PartsOk x ps vs.toList) :
    ∃ u w', (Instr.buildSlice t n vs).run x.P x.w = .ok u w' ∧ Sat (x.set k u (.row T (rowsEx rs .nil) 0) w') w0 M ∧ Ext x (x.set k u (.row T (rowsEx rs .nil) 0) w') ∧ G (x.set k u (.row T (rowsEx rs .nil) 0) w') (.own k 0) u := by
  obtain ⟨a, b, c, d, e⟩ := litRows_ok hr hp
  obtain ⟨inf, hinf, hsz, hne⟩ := tys_size hts
  have hposts : 0 < ts.length := List.length_pos_iff.2 hne
  obtain ⟨z, hzz⟩ := Option.isSome_iff_exists.1 hz
  rw [hinf, Option.bind_some] at hzz
  have hlen : ∀ (ps : List (Nat × S1)) (vs : List (Nat × Value)), PartsOk x ps vs → ps.length = vs.length := by
    intro ps
    induction ps with
    | nil => intro vs h; cases vs with | nil => rfl | cons _ _ => exact h.elim
    | cons p ps ih => intro vs h; cases vs with | nil => exact h.elim | cons _ _ => simp [ih _ h.2.2]
  have hvn : vs.toList.length = n := by rw [← hlen _ _ hp, hn]
  have hmap : (vs.toList.map (·.2)).length = n := by simpa using hvn
  have hfill := Great.fill_whole hposts (vs.toList.map (·.2)) ((Array.range (n * inf.size)).map (z.cells[· % z.cells.size]!)) b (by rw [hmap]; simp [hsz])
  rw [← a] at hfill
  have hmulpos : 0 < n * ts.length := Nat.mul_pos (by omega) hposts
  have hrun := run_buildSlice (P := x.P) x.w t T n vs _ inf z (sliceOf_spec ht) hinf hzz (by rw [hsz]; omega) (by rw [hsz]; omega) (by rw [← hsz] at hfill; exact hfill)
  have hflat : ((vs.toList.map (·.2)).flatMap fun v => v.cells.toList).length = n * ts.length := by
    have : ∀ (l : List Value), (∀ v ∈ l, v.cells.size = ts.length) → (l.flatMap fun v => v.cells.toList).length = l.length * ts.length := by
      intro l
      induction l with
      | nil => intro _; simp
      | cons v l ih => intro h; simp [ih fun v' hv => h v' (List.mem_cons_of_mem _ hv), h v (List.mem_cons_self ..), Nat.add_mul]; omega
    rw [this _ b, hmap]
  have hown := World.ownsRow_lit (base := 0) (e := T) (size := ts.length) x.w ((vs.toList.map (·.2)).flatMap fun v => v.cells.toList).toArray n (Nat.zero_le _) (by simp [maxLen]; have := Nat.le_mul_of_pos_right n hposts; omega) (by simpa using hflat)
  have hrows : ((rowsEx rs .nil).den x.e).rows = rs.map fun r => r.map (Ex.den x.e) := by rw [rowsEx_den]; rfl
  obtain ⟨q1, q2, q3⟩ := new_row (v := .slice (some ⟨x.w.heap.size, 0, none⟩) n n) hs hk hts (e := rowsEx rs .nil) (rowsEx_sc rfl d) hown (World.grownBy_alloc _ _ _) (fun b hb => by cases hb; exact Nat.le_refl _)
    (by rw [hrows]; simp [c]; simpa using hvn) (by rw [hrows]; simpa using e)
  exact ⟨_, _, hrun, q1, q2, q3⟩

end
end Glx
