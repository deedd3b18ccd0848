/- Operations that make a block, or turn one: new variables, stores, slices that are written out, append, make. -/
import Derived.Test.YtfelpmijieomaaaGreatDoorGlxStep
import Derived.Lib.AppendStr
namespace Glx
open Go

section
variable {x : Env} {w0 : World} {M : Nat → Prop}

/-- a new variable -/
theorem new_cells (hs : Sat x w0 M) {k : Nat} (hk : look x.H k = .unborn) {T : TypeId} {l : List SV} {c : Array Value} (hl : GL x l c) :
    Sat (x.set k (.pointer (some ⟨x.w.heap.size, 0, none⟩)) (.cells T l false) (x.w.alloc (.cells c T))) w0 M ∧
    Ext x (x.set k (.pointer (some ⟨x.w.heap.size, 0, none⟩)) (.cells T l false) (x.w.alloc (.cells c T))) ∧
    G (x.set k (.pointer (some ⟨x.w.heap.size, 0, none⟩)) (.cells T l false) (x.w.alloc (.cells c T))) (.ptr k 0) (.pointer (some ⟨x.w.heap.size, 0, none⟩)) := by
  have hblk : ∀ b, b < x.w.heap.size → ((look x.H k).loose = true → blkOf (x.ν k) ≠ some b) → (x.w.alloc (.cells c T)).heap[b]? = x.w.heap[b]? := fun b hb _ => heap_alloc_old x.w _ b hb
  have he := step_ext (pv := .pointer (some ⟨x.w.heap.size, 0, none⟩)) (ob := .cells T l false) (w' := x.w.alloc (.cells c T)) hs (.inl hk) (fun _ _ _ _ h => absurd hk h) (fun _ _ _ _ h => absurd hk h) rfl hblk
  refine ⟨step_sat hs he (.inl hk) ⟨rfl, rfl, rfl, by simp⟩ hblk (fun b _ h => .inr (by cases h; exact Nat.le_refl _)) ?_, he, ?_⟩
  · refine ⟨x.w.heap.size, c, by simp [Env.set], heap_alloc_new x.w _, hl.ext he, (fun h => by cases h), fun _ h => ?_⟩
    exact Nat.lt_irrefl _ (hs.ibound _ h)
  · refine ⟨by simp [Env.set, look_put, SObj.born], fun T' l' fz' _ => ⟨x.w.heap.size, by simp [Env.set], rfl⟩⟩

/-- a new slice of the walk's own -/
theorem new_row (hs : Sat x w0 M) {k : Nat} (hk : look x.H k = .unborn) {T : TypeId} {ts : List LTy} (hts : tys x.P T = some ts) {e : Ex} (hsc : e.sc x.e.length = true) {v : Value} {w' : World} {n : Nat} {xs : List Value}
    (hown : w'.ownsRow 0 T ts.length v n xs) (hgrow : x.w.grownBy w' none) (hnew : ∀ b, v.ownBlock = some b → x.w.heap.size ≤ b) (hn : (e.den x.e).rows.length = n)
    (hrd : RdRows x.P x.I x.w.heap ts xs (e.den x.e).rows) :
    Sat (x.set k v (.row T e 0) w') w0 M ∧ Ext x (x.set k v (.row T e 0) w') ∧ G (x.set k v (.row T e 0) w') (.own k 0) v := by
  have hblk : ∀ b, b < x.w.heap.size → ((look x.H k).loose = true → blkOf (x.ν k) ≠ some b) → w'.heap[b]? = x.w.heap[b]? := fun b hb _ => hgrow.block b hb (by simp)
  have he := step_ext (pv := v) (ob := .row T e 0) (w' := w') hs (.inl hk) (fun _ _ _ _ h => absurd hk h) (fun _ _ _ _ h => absurd hk h) rfl hblk
  refine ⟨step_sat hs he (.inl hk) ⟨hgrow.os, hgrow.tape, hgrow.output, hgrow.size⟩ hblk (fun b _ h => .inr ?_) ?_, he, ?_⟩
  · rcases hown.2 with ⟨rfl, _⟩ | ⟨g, cap, cur, rfl, _⟩
    · cases h
    · cases h; exact hnew _ rfl
  · refine ⟨he.sc hsc, ts, n, xs, hts, by simpa [Env.set] using hown, by rw [he.den hsc]; exact hn, ?_, fun b hb hi => ?_⟩
    · rw [he.den hsc]
      exact hrd.mono he.I he.heap
    · simp only [Env.set, if_true] at hb
      have := hnew b hb
      have := hs.ibound b hi
      omega
  · refine ⟨by simp [Env.set, look_put, SObj.born], fun T' e' u' h => ?_⟩
    simp only [Env.set, look_put, if_true, SObj.row.injEq] at h
    obtain ⟨_, _, rfl⟩ := h
    exact ⟨Nat.le_refl _, fun _ => by simp [Env.set]⟩

/-- a slice of the walk's own, turned -/
theorem mod_row (hs : Sat x w0 M) {o : Nat} {T : TypeId} {e0 : Ex} {u0 u : Nat} (ho : look x.H o = .row T e0 u0) {ts : List LTy} (hts : tys x.P T = some ts) {e : Ex} (hsc : e.sc x.e.length = true) {v : Value} {w' : World} {n : Nat} {xs : List Value}
    (hown : w'.ownsRow 0 T ts.length v n xs) (hgrow : x.w.grownBy w' (x.ν o).ownBlock) (hnew : ∀ b, v.ownBlock = some b → (x.ν o).ownBlock = some b ∨ x.w.heap.size ≤ b) (hn : (e.den x.e).rows.length = n)
    (hu : u0 ≤ u) (huv : u = u0 → v = x.ν o) (hrd : RdRows x.P x.I x.w.heap ts xs (e.den x.e).rows) :
    Sat (x.set o v (.row T e u) w') w0 M ∧ Ext x (x.set o v (.row T e u) w') ∧ G (x.set o v (.row T e u) w') (.own o u) v := by
  have hloose : (look x.H o).loose = true := by rw [ho]; rfl
  have hold := hs.objs o
  rw [ho] at hold
  obtain ⟨_, ts0, n0, xs0, hts0, hown0, _, _, hnI⟩ := hold
  have hbo : ∀ b, (x.ν o).ownBlock = some b ↔ blkOf (x.ν o) = some b := by
    intro b
    rcases hown0.2 with ⟨h6, _⟩ | ⟨g, cap, cur, h6, _⟩ <;> rw [h6] <;> simp [Value.ownBlock, blkOf]
  have hblk : ∀ b, b < x.w.heap.size → ((look x.H o).loose = true → blkOf (x.ν o) ≠ some b) → w'.heap[b]? = x.w.heap[b]? := fun b hb h => hgrow.block b hb (fun h' => h hloose ((hbo b).1 h'.symm))
  have he := step_ext (pv := v) (ob := .row T e u) (w' := w') hs (.inr hloose) (fun _ _ _ h => by cases h) (fun T' e' u' h _ => by
    simp only [SObj.row.injEq] at h
    obtain ⟨rfl, rfl, rfl⟩ := h
    exact ⟨e0, u0, ho, hu, huv⟩) rfl hblk
  refine ⟨step_sat hs he (.inr hloose) ⟨hgrow.os, hgrow.tape, hgrow.output, hgrow.size⟩ hblk (fun b _ h => ?_) ?_, he, ?_⟩
  · have : v.ownBlock = some b := by
      rcases hown.2 with ⟨rfl, _⟩ | ⟨g, cap, cur, rfl, _⟩
      · cases h
      · cases h; rfl
    rcases hnew b this with h1 | h1
    · exact .inl ⟨hloose, (hbo b).1 h1⟩
    · exact .inr h1
  · refine ⟨he.sc hsc, ts, n, xs, hts, by simpa [Env.set] using hown, by rw [he.den hsc]; exact hn, ?_, fun b hb hi => ?_⟩
    · rw [he.den hsc]
      exact hrd.mono he.I he.heap
    · simp only [Env.set, if_true] at hb
      rcases hnew b hb with h1 | h1
      · exact hnI b h1 hi
      · have := hs.ibound b hi
        omega
  · refine ⟨by simp [Env.set, look_put, SObj.born], fun T' e' u' h => ?_⟩
    simp only [Env.set, look_put, if_true, SObj.row.injEq] at h
    obtain ⟨_, _, rfl⟩ := h
    exact ⟨Nat.le_refl _, fun _ => by simp [Env.set]⟩

/-! ### New variables -/
theorem box_ok (hs : Sat x w0 M) {k : Nat} (hk : look x.H k = .unborn) {T : TypeId} {s : S1} (hsol : s.cells.all (solid x.H) = true) {v : Value} (hg : G1 x s v) :
    ∃ u w', (Instr.box T v).run x.P x.w = .ok u w' ∧ Sat (x.set k u (.cells T s.cells false) w') w0 M ∧ Ext x (x.set k u (.cells T s.cells false) w') ∧ G (x.set k u (.cells T s.cells false) w') (.ptr k 0) u := by
  obtain ⟨h1, _⟩ := cells_ok hs hsol hg
  obtain ⟨a, b, c⟩ := new_cells (T := T) hs hk h1
  exact ⟨_, _, by simp [Instr.box, newVar, newRow], a, b, c⟩

theorem alloc_ok (hs : Sat x w0 M) {k : Nat} (hk : look x.H k = .unborn) {T : TypeId} {inf : TypeInfo} (hi : x.P.info? T = some inf) {z : Value} (hz : inf.zero = some z) {s : S1} (hzs : constS1 z = some s)
    (hsol : s.cells.all (solid x.H) = true) :
    ∃ u w', (Instr.alloc T true (.tuple #[])).run x.P x.w = .ok u w' ∧ Sat (x.set k u (.cells T s.cells false) w') w0 M ∧ Ext x (x.set k u (.cells T s.cells false) w') ∧ G (x.set k u (.cells T s.cells false) w') (.ptr k 0) u := by
  obtain ⟨h1, _⟩ := cells_ok hs hsol (constS1_ok (x := x) hzs)
  obtain ⟨a, b, c⟩ := new_cells (T := T) hs hk h1
  exact ⟨_, _, by simp [Instr.alloc, zeroValue, typeInfo, hi, hz, newVar, newRow], a, b, c⟩

/-! ### Stores -/
theorem run_store_cells {P : Program} {w : World} {b off : Nat} {c : Array Value} {E : TypeId} (hb : w.heap[b]? = some (.cells c E (0, 0))) {t : TypeId} {inf : TypeInfo} (hi : P.info? t = some inf) {v : Value}
    (hn : v.cells.size = inf.size) (hfit : off + inf.size ≤ c.size) (h1 : ∀ u ∈ v.cells.toList, u.oneCell' = true) :
    (Instr.storeAt t (.pointer (some ⟨b, off, none⟩)) v).run P w = .ok () (w.setRow b (c.toList.take off ++ v.cells.toList ++ c.toList.drop (off + v.cells.toList.length)).toArray) := by
  have := run_storeCells_at P b off E v.cells.toList 0 c w hb (by simp; omega) h1
  simp only [Nat.add_zero] at this
  simp [Instr.storeAt, Instr.sureAddr, storeVar, run_sizeOf' hi, hn, this]

theorem take_mid {α : Type} {l m : List α} {off j : Nat} (d : α) (h : off + m.length ≤ l.length) :
    (l.take off ++ m ++ l.drop (off + m.length)).getD j d = if j < off then l.getD j d else if j < off + m.length then m.getD (j - off) d else l.getD j d := by
  simp only [List.getD_eq_getElem?_getD, List.append_assoc]
  by_cases h1 : j < off
  · rw [if_pos h1, List.getElem?_append_left (by simp; omega), List.getElem?_take, if_pos h1]
  · rw [if_neg h1, List.getElem?_append_right (by simp; omega)]
    simp only [List.length_take, Nat.min_eq_left (show off ≤ l.length by omega)]
    by_cases h2 : j < off + m.length
    · rw [if_pos h2, List.getElem?_append_left (by omega)]
    · rw [if_neg h2, List.getElem?_append_right (by omega), List.getElem?_drop]
      congr 2
      omega

theorem store_cells_ok (hs : Sat x w0 M) {o off : Nat} {T : TypeId} {l : List SV} (hl : look x.H o = .cells T l false) {t : TypeId} {inf : TypeInfo} (hi : x.P.info? t = some inf) {s : S1}
    (hn : s.cells.length = inf.size) (hfit : off + inf.size ≤ l.length) (hsol : s.cells.all (solid x.H) = true) {va v : Value} (ha : G x (.ptr o off) va) (hg : G1 x s v) :
    ∃ w', (Instr.storeAt t va v).run x.P x.w = .ok () w' ∧ Sat (x.set o (x.ν o) (.cells T (l.take off ++ s.cells ++ l.drop (off + inf.size)) false) w') w0 M ∧
      Ext x (x.set o (x.ν o) (.cells T (l.take off ++ s.cells ++ l.drop (off + inf.size)) false) w') := by
  obtain ⟨b, hb, rfl⟩ := ha.2 T l false hl
  have ho := hs.objs o
  rw [hl] at ho
  obtain ⟨b', c, h1, h2, h3, _, h5⟩ := ho
  have : b = b' := by simp only at hb; rw [h1] at hb; simpa using hb.symm
  subst this
  obtain ⟨g1, g2⟩ := cells_ok hs hsol hg
  have hvn : v.cells.size = inf.size := by rw [g1.1, hn]
  have hrun := run_store_cells (P := x.P) h2 (t := t) hi hvn (by rw [h3.1]; exact hfit) g2
  have hloose : (look x.H o).loose = true := by rw [hl]; rfl
  have hblk : ∀ b', b' < x.w.heap.size → ((look x.H o).loose = true → blkOf (x.ν o) ≠ some b') →
      (x.w.setRow b (c.toList.take off ++ v.cells.toList ++ c.toList.drop (off + v.cells.toList.length)).toArray).heap[b']? = x.w.heap[b']? := fun b' _ h => setRow_other _ _ _ _ (fun hbb => h hloose (by rw [h1, hbb]; rfl))
  have he := step_ext (pv := x.ν o) (ob := .cells T (l.take off ++ s.cells ++ l.drop (off + inf.size)) false) hs (.inr hloose) (fun T' l' fz' h _ => by
    simp only [SObj.cells.injEq] at h
    obtain ⟨rfl, rfl, rfl⟩ := h
    exact ⟨⟨l, false, hl⟩, rfl⟩) (fun _ _ _ h => by cases h) rfl hblk
  refine ⟨_, hrun, step_sat hs he (.inr hloose) ⟨rfl, rfl, rfl, by simp [World.setRow]⟩ hblk (fun b' _ h => .inl ⟨hloose, h⟩) ?_, he⟩
  refine ⟨b, _, by simpa [Env.set] using h1, setRow_heap x.w b c _ T (0, 0) h2, ⟨?_, fun j q hj => ?_⟩, (fun h => by cases h), fun _ => h5 rfl⟩
  · simp only [List.size_toArray, List.length_append, List.length_take, List.length_drop, Array.length_toList, h3.1, hvn, hn]
  · refine G.ext he ?_
    have hjl : j < l.length := by
      have := (List.getElem?_eq_some_iff.1 hj).1
      simp only [List.length_append, List.length_take, List.length_drop, hn] at this
      omega
    have e1 : (c.toList.take off ++ v.cells.toList ++ c.toList.drop (off + v.cells.toList.length)).toArray.getD j undef =
        (c.toList.take off ++ v.cells.toList ++ c.toList.drop (off + v.cells.toList.length)).getD j undef := by simp [Array.getD_eq_getD_getElem?, List.getD_eq_getElem?_getD]
    rw [e1, take_mid undef (by simp [h3.1, hvn]; omega)]
    have e2 := take_mid (l := l) (m := s.cells) (off := off) (j := j) SV.top (by omega)
    rw [hn, List.getD_eq_getElem?_getD, hj] at e2
    simp only [Option.getD_some] at e2
    simp only [Array.length_toList, hvn]
    subst e2
    split
    · have := h3.2 j _ (List.getElem?_eq_getElem hjl)
      simpa [hjl, Array.getD_eq_getD_getElem?, List.getD_eq_getElem?_getD] using this
    · split
      · rename_i h6 h7
        have hjs : j - off < s.cells.length := by omega
        have := g1.2 (j - off) _ (List.getElem?_eq_getElem hjs)
        simpa [hjs, Array.getD_eq_getD_getElem?, List.getD_eq_getElem?_getD] using this
      · have := h3.2 j _ (List.getElem?_eq_getElem hjl)
        simpa [hjl, Array.getD_eq_getD_getElem?, List.getD_eq_getElem?_getD] using this

end
end Glx
