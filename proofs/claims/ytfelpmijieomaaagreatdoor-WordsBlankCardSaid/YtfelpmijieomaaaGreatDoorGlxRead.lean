/- From what reads as data in a row's words to what the book asks of memory: every plain type. -/
import Derived.Test.YtfelpmijieomaaaGreatDoorGlxLim
import Derived.ChangeArms
import Derived.DataReads
namespace Glx
open Go

/-- a type's cells, if they lie one behind the other, as many as the model says -/
def laysF (P : Program) (lay : TypeId → Option (List LTy)) : Nat → List Field → Option (List LTy)
  | _, [] => some []
  | off, f :: fs => if f.offset = off then (lay f.type).bind fun a => if P.cellsOf f.type = a.length then (laysF P lay (off + a.length) fs).map (a ++ ·) else none else none
def lay (P : Program) : Nat → TypeId → Option (List LTy)
  | 0, _ => none
  | n + 1, t =>
    match P.underlying t with
    | some (.int k) => some [.int k]
    | some .bool => some [.bool]
    | some .string => some [.str]
    | some (.slice e) => some [.sl e]
    | some (.struct fs) => (laysF P (lay P n) 0 fs.toList).bind fun l => if P.cellsOf t = l.length then some l else none
    | _ => none

/-- data of a type -/
inductive Ok (P : Program) : LTy → D → Prop where
  | int {k : IntKind} {n : Int} : (Lit.int k n).wf = true → Ok P (.int k) (.i n)
  | bool (b : Bool) : Ok P .bool (.b b)
  | str {s : ByteArray} : s.size ≤ maxLen → Ok P .str (.s s)
  | sl {T : TypeId} {rows : List (List D)} {ts : List LTy} : tys P T = some ts → rows.length ≤ maxLen → (∀ r ∈ rows, r.length = ts.length) → (∀ r ∈ rows, ∀ (j : Nat) (t : LTy), ts[j]? = some t → Ok P t (r.getD j default)) → Ok P (.sl T) (.l rows)

/-- cells that read as data of their types -/
def Reads (P : Program) (W : World) (ts : List LTy) (cs : List Value) : Prop :=
  cs.length = ts.length ∧ ∃ xs : List D, xs.length = ts.length ∧ ∀ (j : Nat) (u : LTy), ts[j]? = some u → Rd P (fun b => b < W.heap.size) W.heap u (cs.getD j undef) (xs.getD j default) ∧ Ok P u (xs.getD j default)

theorem reads_one {P : Program} {W : World} {u : LTy} {v : Value} {d : D} (h1 : Rd P (fun b => b < W.heap.size) W.heap u v d) (h2 : Ok P u d) : Reads P W [u] [v] := by
  refine ⟨rfl, [d], rfl, fun j t hj => ?_⟩
  cases j with
  | zero => cases hj; exact ⟨h1, h2⟩
  | succ j => simp at hj

theorem cell_inv {w : World} {a : Addr} {v : Value} (h : w.cell? a = some v) : a.spot = none ∧ ∃ c E fz, w.heap[a.block]? = some (.cells c E fz) ∧ c[a.off]? = some v := by
  unfold World.cell? at h
  split at h
  · rename_i c E fz hb
    split at h
    · cases h
    · rename_i hs
      refine ⟨by cases hq : a.spot <;> simp_all, c, E, fz, hb, h⟩
  · cases h

theorem add_inv {a : Addr} {n : Nat} (h : a.spot = none) : a.add n = ⟨a.block, a.off + n, none⟩ := by
  unfold Addr.add
  split
  · rename_i h0; subst h0; cases a; simp_all
  · rfl

/-- the fact on the types of rows that are met -/
def Shelf (P : Program) (S : TypeId → Prop) : Prop := ∀ T, S T → ∃ ts n, tys P T = some ts ∧ lay P n T = some ts ∧ P.cellsOf T = ts.length ∧ ∀ T', LTy.sl T' ∈ ts → S T'

section
variable {H : Type} {enc : TypeId × Value → H} {P : Program} {W : World} {held : Bool}

theorem reads_of_trod {S : TypeId → Prop} (hS : Shelf P S) : ∀ (fuel n : Nat) (t : TypeId) (ts : List LTy) (cs : List Value) (x : DataW H × List MemPlace), lay P n t = some ts → (∀ T, LTy.sl T ∈ ts → S T) →
    DataW.trod enc P W 0 (fun _ => true) held fuel t cs = some x → Reads P W ts cs := by
  intro fuel
  induction fuel with
  | zero => intro n t ts cs x _ _ h; simp [DataW.trod] at h
  | succ fuel ih =>
    intro n
    induction n with
    | zero => intro t ts cs x h; cases h
    | succ n ihn =>
      intro t ts cs x hl hT h
      unfold lay at hl
      split at hl
      · rename_i k hu
        cases hl
        obtain ⟨m, rfl, _, hw⟩ := DataW.trod_int hu h
        exact reads_one (d := .i m) (@Rd.int P _ _ k (D.i m)) (.int hw)
      · rename_i hu
        cases hl
        obtain ⟨b, rfl, _⟩ := DataW.trod_bool hu h
        exact reads_one (d := .b b) (@Rd.bool P _ _ (D.b b)) (.bool b)
      · rename_i hu
        cases hl
        obtain ⟨s, rfl, _, hs⟩ := DataW.trod_string hu h
        exact reads_one (d := .s s) (@Rd.str P _ _ (D.s s)) (.str hs)
      · rename_i e hu
        cases hl
        obtain ⟨ts, m, h1, h2, h3, h4⟩ := hS e (hT e (List.mem_singleton.2 rfl))
        obtain ⟨_, _, _, hne⟩ := tys_size h1
        have hpos : 0 < ts.length := List.length_pos_iff.2 hne
        rcases DataW.trod_slice hu h with ⟨rfl, _⟩ | ⟨a, len, cap, elems, rest, fu, hfu, rfl, _, _, hlc, hcm, hel, hat, hrest, _⟩
        · exact reads_one (d := .l []) (.nil rfl) (.sl h1 (Nat.zero_le _) (fun _ h => by cases h) (fun _ h => by cases h))
        · cases hfu
          obtain ⟨hr1, hr2⟩ := hrest rfl
          have get : ∀ i, i < len → ∃ cs', W.cells? 0 (a.add (i * ts.length)) ts.length = some cs' ∧ Reads P W ts cs' := by
            intro i hi
            have h5 := hat i hi
            rw [h3, List.getElem?_eq_getElem (by omega)] at h5
            obtain ⟨cs', h6, h7⟩ := Option.bind_eq_some_iff.1 h5
            exact ⟨cs', h6, ih m e ts cs' _ h2 h4 h7⟩
          by_cases hc : cap = 0
          · have hlen : len = 0 := by omega
            subst hc hlen
            exact reads_one (d := .l []) (.empty h1 rfl) (.sl h1 (Nat.zero_le _) (fun _ h => by cases h) (fun _ h => by cases h))
          · have first : ∃ cs', W.cells? 0 (a.add 0) ts.length = some cs' := by
              by_cases hz : len = 0
              · have h5 := hr2 0 (by omega)
                rw [h3, List.getElem?_eq_getElem (by omega)] at h5
                obtain ⟨cs', h6, _⟩ := Option.bind_eq_some_iff.1 h5
                rw [hz] at h6
                exact ⟨cs', by simpa using h6⟩
              · obtain ⟨cs', h6, _⟩ := get 0 (by omega)
                exact ⟨cs', by simpa using h6⟩
            obtain ⟨cs0, hcs0⟩ := first
            obtain ⟨_, hl0, hc0⟩ := World.cells?_some hcs0
            have hcell := hc0 0 hpos
            rw [List.getElem?_eq_getElem (by omega)] at hcell
            have ha0 : (a.add 0).add 0 = a := by simp [Addr.add]
            rw [ha0] at hcell
            obtain ⟨hspot, c, E, fz, hb, hoff⟩ := cell_inv hcell
            obtain ⟨ab, ao, asp⟩ := a
            cases hspot
            have hblk : ab < W.heap.size := (Array.getElem?_eq_some_iff.1 hb).1
            have cellsAt : ∀ i cs', W.cells? 0 ((⟨ab, ao, none⟩ : Addr).add (i * ts.length)) ts.length = some cs' → ∀ j, j < ts.length → cs'.getD j undef = c.getD (ao + i * ts.length + j) undef ∧ ao + i * ts.length + j < c.size := by
              intro i cs' h6 j hj
              obtain ⟨_, h7, h8⟩ := World.cells?_some h6
              have h9 := h8 j hj
              have q : (⟨ab, ao, none⟩ : Addr).add (i * ts.length) = ⟨ab, ao + i * ts.length, none⟩ := add_inv rfl
              rw [q, add_inv rfl, List.getElem?_eq_getElem (by omega)] at h9
              obtain ⟨_, c', E', fz', h10, h11⟩ := cell_inv h9
              rw [hb] at h10
              cases h10
              simp only at h11
              refine ⟨?_, (Array.getElem?_eq_some_iff.1 h11).1⟩
              rw [List.getD_eq_getElem?_getD, List.getElem?_eq_getElem (by omega), Array.getD_eq_getD_getElem?, h11]
            have hex : ∀ i : Nat, ∃ xs : List D, i < len → xs.length = ts.length ∧ ∀ (j : Nat) (u : LTy), ts[j]? = some u → Rd P (fun b => b < W.heap.size) W.heap u (c.getD (ao + i * ts.length + j) undef) (xs.getD j default) ∧ Ok P u (xs.getD j default) := by
              intro i
              by_cases hi : i < len
              · obtain ⟨cs', h6, _, xs, h7, h8⟩ := get i hi
                refine ⟨xs, fun _ => ⟨h7, fun j u hj => ?_⟩⟩
                have hjl := (List.getElem?_eq_some_iff.1 hj).1
                rw [← (cellsAt i cs' h6 j hjl).1]
                exact h8 j u hj
              · exact ⟨[], fun h => absurd h hi⟩
            obtain ⟨f, hf⟩ := Classical.skolem.1 hex
            have hrl : ((List.range len).map f).length = len := by simp
            have hget : ∀ i, i < len → ((List.range len).map f).getD i [] = f i := fun i hi => by simp [List.getD, hi]
            have hbound : ao + len * ts.length ≤ c.size := by
              by_cases hz : len = 0
              · subst hz
                have := (Array.getElem?_eq_some_iff.1 hoff).1
                simp only at this
                omega
              · obtain ⟨cs', h6, _⟩ := get (len - 1) (by omega)
                have h7 := (cellsAt (len - 1) cs' h6 (ts.length - 1) (by omega)).2
                have h8 : (len - 1) * ts.length + ts.length = len * ts.length := by
                  rw [← Nat.succ_mul]
                  congr 1
                  omega
                omega
            refine reads_one (d := .l ((List.range len).map f)) (.row h1 hblk hb hrl hlc hbound ?_ ?_) (.sl h1 (by rw [hrl]; omega) ?_ ?_)
            · intro r hr
              obtain ⟨i, hi, rfl⟩ := List.mem_map.1 hr
              exact (hf i (List.mem_range.1 hi)).1
            · intro i j u hi hj
              simp only [D.rows_l, hget i hi]
              exact ((hf i hi).2 j u hj).1
            · intro r hr
              obtain ⟨i, hi, rfl⟩ := List.mem_map.1 hr
              exact (hf i (List.mem_range.1 hi)).1
            · intro r hr j u hj
              obtain ⟨i, hi, rfl⟩ := List.mem_map.1 hr
              exact ((hf i (List.mem_range.1 hi)).2 j u hj).2
      · rename_i fs hu
        obtain ⟨l, hl1, hl2⟩ := Option.bind_eq_some_iff.1 hl
        simp only [Option.ite_none_right_eq_some, Option.some.injEq] at hl2
        obtain ⟨hcl, rfl⟩ := hl2
        obtain ⟨xs, fu, hfu, _, hcs, hxl, hfs⟩ := DataW.trod_struct hu h
        cases hfu
        have hflds : ∀ f ∈ fs.toList, ∃ y, DataW.trod enc P W 0 (fun _ => true) held fuel f.type ((cs.drop f.offset).take (P.cellsOf f.type)) = some y := by
          intro f hf
          obtain ⟨i, hi, rfl⟩ := List.getElem_of_mem hf
          have hi' : i < fs.size := by simpa using hi
          refine ⟨xs[i], ?_⟩
          have := hfs i fs[i] (by simp [hi'])
          rw [List.getElem?_eq_getElem (by omega)] at this
          simpa using this
        have go : ∀ (l : List Field) (off : Nat) (ts : List LTy), laysF P (lay P n) off l = some ts → (∀ T, LTy.sl T ∈ ts → S T) → off + ts.length ≤ cs.length →
            (∀ f ∈ l, ∃ y, DataW.trod enc P W 0 (fun _ => true) held fuel f.type ((cs.drop f.offset).take (P.cellsOf f.type)) = some y) →
            ∃ xs : List D, xs.length = ts.length ∧ ∀ (j : Nat) (u : LTy), ts[j]? = some u → Rd P (fun b => b < W.heap.size) W.heap u (cs.getD (off + j) undef) (xs.getD j default) ∧ Ok P u (xs.getD j default) := by
          intro l
          induction l with
          | nil => intro off ts h1 _ _ _; cases h1; exact ⟨[], rfl, fun j u hj => by simp at hj⟩
          | cons f l ihl =>
            intro off ts h1 h2 h3 h4
            simp only [laysF, Option.ite_none_right_eq_some] at h1
            obtain ⟨hoff, h1⟩ := h1
            obtain ⟨a, ha, h1⟩ := Option.bind_eq_some_iff.1 h1
            simp only [Option.ite_none_right_eq_some] at h1
            obtain ⟨hca, h1⟩ := h1
            obtain ⟨b, hb, rfl⟩ := Option.map_eq_some_iff.1 h1
            obtain ⟨y, hy⟩ := h4 f (List.mem_cons_self ..)
            obtain ⟨r1, xs1, r2, r3⟩ := ih n f.type a _ y ha (fun T hT' => h2 T (List.mem_append_left _ hT')) hy
            obtain ⟨xs2, r4, r5⟩ := ihl (off + a.length) b hb (fun T hT' => h2 T (List.mem_append_right _ hT')) (by simp at h3; omega) (fun g hg => h4 g (List.mem_cons_of_mem _ hg))
            refine ⟨xs1 ++ xs2, by simp [r2, r4], fun j u hj => ?_⟩
            by_cases hja : j < a.length
            · rw [List.getElem?_append_left hja] at hj
              have := r3 j u hj
              rw [hoff, hca] at this
              have e1 : ((cs.drop off).take a.length).getD j undef = cs.getD (off + j) undef := by
                simp only [List.getD_eq_getElem?_getD, List.getElem?_take, if_pos hja, List.getElem?_drop]
              have e2 : (xs1 ++ xs2).getD j default = xs1.getD j default := by
                simp only [List.getD_eq_getElem?_getD, List.getElem?_append_left (show j < xs1.length by omega)]
              rw [e1] at this
              rw [e2]
              exact this
            · rw [List.getElem?_append_right (by omega)] at hj
              have := r5 (j - a.length) u hj
              have e2 : (xs1 ++ xs2).getD j default = xs2.getD (j - a.length) default := by
                simp only [List.getD_eq_getElem?_getD, List.getElem?_append_right (show xs1.length ≤ j by omega), r2]
              rw [e2]
              rwa [show off + a.length + (j - a.length) = off + j by omega] at this
        obtain ⟨ys, g1, g2⟩ := go fs.toList 0 _ hl1 hT (by omega) hflds
        exact ⟨by omega, ys, g1, fun j u hj => by simpa using g2 j u hj⟩
      · cases hl

end
end Glx
