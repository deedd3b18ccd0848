/- Operations that only compute: what the picture says of their value is so. -/
import Derived.Test.YtfelpmijieomaaaGreatDoorGlxSym
import Derived.Laws.Rows
import Derived.Deep.MidRow
namespace Glx
open Go

section
variable {x : Env}

theorem constSV_ok {v : Value} {s : SV} (h : constSV v = some s) : G x s v := by
  unfold constSV at h
  split at h <;> simp only [Option.some.injEq, reduceCtorEq] at h <;> subst h <;> simp [G, Ex.sc, Ex.den]

theorem constS1_ok {v : Value} {s : S1} (h : constS1 v = some s) : G1 x s v := by
  unfold constS1 at h
  split at h
  · rename_i cs
    obtain ⟨l, hl, rfl⟩ := Option.map_eq_some_iff.1 h
    have hs := allSome_spec hl
    have hlen : cs.size = l.length := by simpa using congrArg List.length hs
    refine ⟨cs, rfl, hlen, fun j y hj => ?_⟩
    have hj' : j < cs.size := by have := (List.getElem?_eq_some_iff.1 hj).1; omega
    have h1 : (cs.toList.map constSV)[j]? = (l.map some)[j]? := by rw [hs]
    simp only [List.getElem?_map, hj, Option.map_some, Array.getElem?_toList, Array.getElem?_eq_getElem hj', Option.some.injEq] at h1
    have := constSV_ok (x := x) h1
    simpa [hj'] using this
  · obtain ⟨s', h1, rfl⟩ := Option.map_eq_some_iff.1 h
    exact constSV_ok h1

theorem opd_ok {S : List Slot} {a : Act} (hs : Slots x S a.tmps) {p : Operand} {s : Slot} (h : opd S p = some s) : GS x s (a.eval p) := by
  cases p with
  | tmp t =>
    simp only [opd] at h
    split at h
    · cases h
    · exact hs.2 t s h
  | const v =>
    simp only [opd] at h
    obtain ⟨s', h1, rfl⟩ := Option.map_eq_some_iff.1 h
    exact constS1_ok h1
  | func f =>
    simp only [opd, Option.some.injEq] at h
    subst h
    exact ⟨#[], #[], rfl, ⟨rfl, by simp⟩, ⟨rfl, by simp⟩⟩
  | global g => simp [opd] at h

theorem Slot.sv_ok {s : Slot} {t : SV} {v : Value} (h : s.sv = some t) (hg : GS x s v) : G x t v := by
  unfold Slot.sv at h
  split at h
  · cases h; exact hg
  · cases h

theorem Slot.s1_ok {s : Slot} {t : S1} {v : Value} (h : s.s1 = some t) (hg : GS x s v) : G1 x t v := by
  unfold Slot.s1 at h
  split at h
  · cases h; exact hg
  · cases h

theorem den_blit {e : List D} {c : Ex} (h : (c.den e).bool = true) : (c.den e).bool = true := h

/-- two numbers, bools, texts -/
theorem symBin_ok {op : BinOp} {sa sb s : SV} {gs : List Ex} (h : symBin op sa sb = some (gs, s)) {va vb : Value} (ha : G x sa va) (hb : G x sb vb)
    (hg : ∀ c ∈ gs, (c.den x.e).bool = true) (t : TypeId) (w : World) : ∃ v, (binOp op t va vb).run x.P w = .ok v w ∧ G x s v := by
  unfold symBin at h
  split at h
  · rename_i k e k' f
    obtain ⟨he, rfl⟩ := ha
    obtain ⟨hf, rfl⟩ := hb
    cases op <;> simp only [Option.some.injEq, Prod.mk.injEq, Option.ite_none_right_eq_some] at h
    case shl =>
      obtain ⟨rfl, rfl⟩ := h
      have h0 := gds_ok hg _ (List.mem_singleton.2 rfl)
      rw [mkCmp_den] at h0
      have h0' : 0 ≤ (f.den x.e).int := leq_of h0
      refine ⟨_, by simp only [binOp, Op.shift, if_neg (Int.not_lt.2 h0')]; rfl, mkBin_sc he hf, ?_⟩
      rw [mkBin_den]; rfl
    case shr =>
      obtain ⟨rfl, rfl⟩ := h
      have h0 := gds_ok hg _ (List.mem_singleton.2 rfl)
      rw [mkCmp_den] at h0
      have h0' : 0 ≤ (f.den x.e).int := leq_of h0
      refine ⟨_, by simp only [binOp, Op.shift, if_neg (Int.not_lt.2 h0')]; rfl, mkBin_sc he hf, ?_⟩
      rw [mkBin_den]; rfl
    case quo =>
      obtain ⟨rfl, rfl, rfl⟩ := h
      have h0 := gds_ok hg _ (List.mem_singleton.2 rfl)
      rw [mkCmp_den] at h0
      have h0' : ¬ (f.den x.e).int = 0 := neq_of h0
      refine ⟨_, by simp only [binOp, ne_eq, not_true_eq_false, if_false, Op.intDiv, if_neg h0']; rfl, mkBin_sc he hf, ?_⟩
      rw [mkBin_den]; rfl
    case rem =>
      obtain ⟨rfl, rfl, rfl⟩ := h
      have h0 := gds_ok hg _ (List.mem_singleton.2 rfl)
      rw [mkCmp_den] at h0
      have h0' : ¬ (f.den x.e).int = 0 := neq_of h0
      refine ⟨_, by simp only [binOp, ne_eq, not_true_eq_false, if_false, Op.intDiv, if_neg h0']; rfl, mkBin_sc he hf, ?_⟩
      rw [mkBin_den]; rfl
    all_goals
      obtain ⟨rfl, rfl, rfl⟩ := h
      first
        | exact ⟨_, by simp only [binOp, ne_eq, not_true_eq_false, if_false]; rfl, mkBin_sc he hf, by rw [mkBin_den]; rfl⟩
        | exact ⟨_, by simp only [binOp, ne_eq, not_true_eq_false, if_false]; rfl, mkCmp_sc he hf, by rw [mkCmp_den]; rfl⟩
  · rename_i e f
    obtain ⟨he, rfl⟩ := ha
    obtain ⟨hf, rfl⟩ := hb
    cases op <;> simp only [Option.some.injEq, Prod.mk.injEq, reduceCtorEq] at h
    case add =>
      obtain ⟨rfl, rfl⟩ := h
      have h1 := hg _ (List.mem_cons_self ..)
      have h2 := hg _ (List.mem_cons_of_mem _ (List.mem_singleton.2 rfl))
      have h3 : ((e.den x.e).str.size : Int) ≤ 1152921504606846976 := leq_of h1
      have h4 : ((f.den x.e).str.size : Int) ≤ 1152921504606846976 := leq_of h2
      refine ⟨.string ((e.den x.e).str ++ (f.den x.e).str), ?_, by simp [Ex.sc, he, hf], rfl⟩
      simp only [binOp, Op.stringOp]
      rw [if_neg]
      · rfl
      · show ¬ ((((e.den x.e).str.size + (f.den x.e).str.size : Nat) : Int) > 9223372036854775807)
        omega
    all_goals
      obtain ⟨rfl, rfl⟩ := h
      exact ⟨_, rfl, by simp [Ex.sc, he, hf], rfl⟩
  · cases h

theorem dataSV_ok {t : LTy} {e : Ex} {v : Value} (hs : e.sc x.e.length = true) (h : Rd x.P x.I x.w.heap t v (e.den x.e)) : G x (dataSV t e) v := by
  cases t with
  | int k => cases h; exact ⟨hs, rfl⟩
  | bool => cases h; exact ⟨hs, rfl⟩
  | str => cases h; exact ⟨hs, rfl⟩
  | sl T => exact ⟨hs, h⟩

theorem toData_ok {t : LTy} {s : SV} {e : Ex} {v : Value} (h : toData t s = some e) (hg : G x s v) : e.sc x.e.length = true ∧ Rd x.P x.I x.w.heap t v (e.den x.e) := by
  unfold toData at h
  split at h <;> simp only [Option.ite_none_right_eq_some, Option.some.injEq, reduceCtorEq] at h
  · obtain ⟨rfl, rfl⟩ := h; obtain ⟨h1, rfl⟩ := hg; exact ⟨h1, .int⟩
  · subst h; obtain ⟨h1, rfl⟩ := hg; exact ⟨h1, .bool⟩
  · subst h; obtain ⟨h1, rfl⟩ := hg; exact ⟨h1, .str⟩
  · obtain ⟨rfl, rfl⟩ := h; exact hg
  · subst h; obtain rfl := hg; exact ⟨rfl, .nil rfl⟩

theorem toDatas_ok : ∀ {ts : List LTy} {ss : List SV} {es : List Ex}, toDatas ts ss = some es → ts.length = ss.length ∧ es.length = ss.length ∧
    ∀ (j : Nat) (t : LTy) (s : SV) (e : Ex), ts[j]? = some t → ss[j]? = some s → es[j]? = some e → toData t s = some e
  | [], [], es, h => by simp only [toDatas, Option.some.injEq] at h; subst h; simp
  | t :: ts, s :: ss, es, h => by
    simp only [toDatas] at h
    obtain ⟨e, h1, h2⟩ := Option.bind_eq_some_iff.1 h
    obtain ⟨es', h3, rfl⟩ := Option.map_eq_some_iff.1 h2
    obtain ⟨a, b, c⟩ := toDatas_ok h3
    refine ⟨by simp [a], by simp [b], fun j t' s' e' h4 h5 h6 => ?_⟩
    cases j with
    | zero => simp at h4 h5 h6; subst h4 h5 h6; exact h1
    | succ j => exact c j t' s' e' (by simpa using h4) (by simpa using h5) (by simpa using h6)
  | [], _ :: _, _, h => by simp [toDatas] at h
  | _ :: _, [], _, h => by simp [toDatas] at h

theorem run_isAgg' {P : Program} {t : TypeId} {b : Bool} (h : isRow P t = some b) (w : World) : (isAgg t).run P w = .ok b w := by
  unfold isRow at h
  obtain ⟨d, hd, rfl⟩ := Option.map_eq_some_iff.1 h
  unfold isAgg
  rw [Sem.run_bind, run_underlying hd w]
  cases d <;> rfl

theorem run_sizeOf' {P : Program} {t : TypeId} {i : TypeInfo} (h : P.info? t = some i) (w : World) : (Go.sizeOf t).run P w = .ok i.size w := by
  simp [Go.sizeOf, typeInfo, h]

theorem mkS1_len {agg : Bool} {n : Nat} {l : List SV} {r : S1} (h : mkS1 agg n l = some r) : l.length = n := by
  unfold mkS1 at h
  split at h
  · assumption
  · cases h

theorem mkS1_cells {agg : Bool} {n : Nat} {l : List SV} {r : S1} (h : mkS1 agg n l = some r) : r.cells = l := by
  unfold mkS1 at h
  split at h
  · split at h
    · cases h; rfl
    · split at h
      · cases h; rfl
      · cases h
  · cases h

/-- a variable is read out of a block of cells -/
theorem load_run {b off n : Nat} {c : Array Value} {E : TypeId} {fz : Nat × Nat} (hb : x.w.heap[b]? = some (.cells c E fz)) (hn : off + n ≤ c.size)
    {t : TypeId} {inf : TypeInfo} (hi : x.P.info? t = some inf) (hsz : inf.size = n) {agg : Bool} (ha : isRow x.P t = some agg) {l : List SV} {r : S1} (hr : mkS1 agg n l = some r)
    (hl : ∀ j s, l[j]? = some s → G x s (c.getD (off + j) undef)) : ∃ v, (Instr.loadAt t (.pointer (some ⟨b, off, none⟩))).run x.P x.w = .ok v x.w ∧ G1 x r v := by
  have hlen := mkS1_len hr
  have hcell : ∀ j, j < n → x.w.cell? ⟨b, off + j, none⟩ = some (c.getD (off + j) undef) := by
    intro j hj
    rw [cell_of_row x.w b (off + j) c E fz hb]
    simp [show off + j < c.size by omega]
  cases agg with
  | true =>
    have hr' : r = .agg l := by
      unfold mkS1 at hr
      rw [if_pos hlen] at hr
      simpa using hr.symm
    subst hr'
    have hload : (loadCells ⟨b, off, none⟩ n).run x.P x.w = .ok ((List.range n).map fun j => c.getD (off + j) undef).toArray x.w := by
      have := run_loadCells_list (P := x.P) x.w ⟨b, off, none⟩ ((List.range n).map fun j => c.getD (off + j) undef) (fun j v hv => by
        rw [Addr.add_mid]
        obtain ⟨hj, rfl⟩ := List.getElem?_eq_some_iff.1 hv
        simp only [List.length_map, List.length_range] at hj
        simp only [List.getElem_map, List.getElem_range]
        exact hcell j hj)
      simpa using this
    refine ⟨.agg ((List.range n).map fun j => c.getD (off + j) undef).toArray, ?_, _, rfl, by simp [hlen], fun j s hj => ?_⟩
    · simp only [Instr.loadAt, Instr.sureAddr, loadVar, Sem.run_bind, Sem.run_pure, Result.andThen_ok, run_isAgg' ha, if_true, run_sizeOf' hi, hsz, hload]
    · have hjn : j < n := by have := (List.getElem?_eq_some_iff.1 hj).1; omega
      simpa [hjn] using hl j s hj
  | false =>
    unfold mkS1 at hr
    rw [if_pos hlen] at hr
    simp only [Bool.false_eq_true, if_false] at hr
    split at hr
    · rename_i s
      cases hr
      have h1 : n = 1 := by simpa using hlen.symm
      refine ⟨c.getD off undef, ?_, by have := hl 0 s rfl; simp only [Nat.add_zero] at this; exact this⟩
      have := hcell 0 (by omega)
      simp only [Nat.add_zero] at this
      simp [Instr.loadAt, Instr.sureAddr, loadVar, run_isAgg' ha, this]
    · cases hr

theorem cellSVs_get {ts : List LTy} {l i : Ex} {off j : Nat} {s : SV} (h : (cellSVs ts l i off)[j]? = some s) : ∃ t, ts[j]? = some t ∧ s = dataSV t (.cell l i (off + j)) := by
  unfold cellSVs at h
  simp only [List.getElem?_map, List.getElem?_zipIdx, Option.map_map, Option.map_eq_some_iff, Function.comp] at h
  obtain ⟨t, h1, h2⟩ := h
  exact ⟨t, h1, by simpa using h2.symm⟩

theorem getElem?_drop_take {α : Type} {l : List α} {off n j : Nat} {s : α} (h : ((l.drop off).take n)[j]? = some s) : l[off + j]? = some s ∧ j < n := by
  rw [List.getElem?_take] at h
  split at h
  · rename_i hj
    rw [List.getElem?_drop] at h
    exact ⟨h, hj⟩
  · cases h

theorem symLoad_ok {w0 : World} {M : Nat → Prop} (hs : Sat x w0 M) {t : TypeId} {s : SV} {r : S1} (h : symLoad x.P x.H t s = some r) {va : Value} (ha : G x s va) :
    ∃ v, (Instr.loadAt t va).run x.P x.w = .ok v x.w ∧ G1 x r v := by
  unfold symLoad at h
  obtain ⟨inf, hi, h⟩ := Option.bind_eq_some_iff.1 h
  obtain ⟨agg, hagg, h⟩ := Option.bind_eq_some_iff.1 h
  cases s with
  | ptr o off =>
    simp only at h
    split at h
    · rename_i T l fz hl
      obtain ⟨b, hb, rfl⟩ := ha.2 T l fz hl
      have ho := hs.objs o
      rw [hl] at ho
      obtain ⟨b', c, h1, h2, h3, _⟩ := ho
      have : b' = b := by simp only at hb; rw [h1] at hb; simpa using hb
      subst this
      have hlen := mkS1_len h
      simp only [List.length_take, List.length_drop] at hlen
      rcases Nat.eq_zero_or_pos inf.size with h0 | hp
      · -- no cells: nothing is read
        have : agg = true := by
          cases agg with
          | true => rfl
          | false => unfold mkS1 at h; simp [h0] at h
        subst this
        unfold mkS1 at h
        simp [h0] at h
        subst h
        refine ⟨.agg #[], ?_, #[], rfl, rfl, by simp⟩
        simp [Instr.loadAt, Instr.sureAddr, loadVar, run_isAgg' hagg, run_sizeOf' hi, h0, loadCells, loadCellsFrom]
      · refine load_run (off := off) (n := inf.size) h2 (by have := h3.1; omega) hi rfl hagg h fun j s hj => ?_
        obtain ⟨h4, _⟩ := getElem?_drop_take hj
        exact h3.2 _ _ h4
    · cases h
  | pel T l i off =>
    obtain ⟨ts, hts, h⟩ := Option.bind_eq_some_iff.1 h
    obtain ⟨hl, hix, ts', b, o, n, cap, h1, h2, h3, h4, rfl⟩ := ha
    rw [hts] at h1
    cases h1
    cases h2 with
    | row k1 k2 k3 k4 k5 k6 k7 k8 =>
    rename_i c E fz
    rw [hts] at k1
    cases k1
    have hlen := mkS1_len h
    simp only [cellSVs, List.length_map, List.length_zipIdx, List.length_take, List.length_drop] at hlen
    have hin : (i.den x.e).int.toNat < n := by omega
    have hmul : ((i.den x.e).int.toNat + 1) * ts.length ≤ n * ts.length := Nat.mul_le_mul_right _ hin
    rw [Nat.add_mul, Nat.one_mul] at hmul
    rcases Nat.eq_zero_or_pos inf.size with h0 | hp
    · have : agg = true := by
        cases agg with
        | true => rfl
        | false => unfold mkS1 at h; simp [h0, cellSVs] at h
      subst this
      unfold mkS1 at h
      simp [h0, cellSVs] at h
      subst h
      refine ⟨.agg #[], ?_, #[], rfl, rfl, by simp⟩
      simp [Instr.loadAt, Instr.sureAddr, loadVar, run_isAgg' hagg, run_sizeOf' hi, h0, loadCells, loadCellsFrom]
    · refine load_run (n := inf.size) k3 (by omega) hi rfl hagg h fun j s hj => ?_
      obtain ⟨t', h5, rfl⟩ := cellSVs_get hj
      obtain ⟨h6, _⟩ := getElem?_drop_take h5
      refine dataSV_ok (by simp [Ex.sc, hl, hix]) ?_
      have := k8 (i.den x.e).int.toNat (off + j) t' hin h6
      simp only [Ex.den, cellAt]
      rwa [show o + (i.den x.e).int.toNat * ts.length + (off + j) = o + (i.den x.e).int.toNat * ts.length + off + j by omega] at this
  | oel o ver i off =>
    simp only at h
    split at h
    · rename_i T e u hl
      split at h
      · rename_i hu
        obtain ⟨ts, hts, h⟩ := Option.bind_eq_some_iff.1 h
        obtain ⟨hix, hborn, hrow⟩ := ha
        obtain ⟨_, hval⟩ := hrow T e u hl
        obtain ⟨ts', b, n, cap, h1, h2, h3, h4, rfl⟩ := hval hu
        rw [hts] at h1
        cases h1
        have ho := hs.objs o
        rw [hl] at ho
        obtain ⟨hsc, ts', n', xs, k1, k2, k3, k4, k5⟩ := ho
        rw [hts] at k1
        cases k1
        rw [h2] at k2 k5
        obtain ⟨q1, q2⟩ := k2
        rcases q2 with ⟨q2, _⟩ | ⟨g, cap', cur, q2, q3, q4, q5, q6, q7, q8⟩
        · cases q2
        · simp only [Value.slice.injEq, Option.some.injEq, Addr.mk.injEq, and_true] at q2
          obtain ⟨rfl, rfl, rfl⟩ := q2
          have hlen := mkS1_len h
          simp only [cellSVs, List.length_map, List.length_zipIdx, List.length_take, List.length_drop] at hlen
          have hin : (i.den x.e).int.toNat < n := by omega
          have hmul : ((i.den x.e).int.toNat + 1) * ts.length ≤ n * ts.length := Nat.mul_le_mul_right _ hin
          have hmul2 : n * ts.length ≤ cap * ts.length := Nat.mul_le_mul_right _ q5
          rw [Nat.add_mul, Nat.one_mul] at hmul
          rcases Nat.eq_zero_or_pos inf.size with h0 | hp
          · have : agg = true := by
              cases agg with
              | true => rfl
              | false => unfold mkS1 at h; simp [h0, cellSVs] at h
            subst this
            unfold mkS1 at h
            simp [h0, cellSVs] at h
            subst h
            refine ⟨.agg #[], ?_, #[], rfl, rfl, by simp⟩
            simp [Instr.loadAt, Instr.sureAddr, loadVar, run_isAgg' hagg, run_sizeOf' hi, h0, loadCells, loadCellsFrom]
          · refine load_run (n := inf.size) q4 (by omega) hi rfl hagg h fun j s hj => ?_
            obtain ⟨t', h5, rfl⟩ := cellSVs_get hj
            obtain ⟨h6, h7⟩ := getElem?_drop_take h5
            have hoj : off + j < ts.length := (List.getElem?_eq_some_iff.1 h6).1
            refine dataSV_ok (by simp [Ex.sc, hsc, hix]) ?_
            have := k4.2 (i.den x.e).int.toNat (off + j) t' (by omega) h6
            simp only [Ex.den, cellAt]
            have hx : xs.getD ((i.den x.e).int.toNat * ts.length + (off + j)) undef = cur.getD ((i.den x.e).int.toNat * ts.length + off + j) undef := by
              rw [← q8]
              have : (i.den x.e).int.toNat * ts.length + (off + j) < n * ts.length := by omega
              simp only [List.getD_eq_getElem?_getD, List.getElem?_take, if_pos this, Array.getElem?_toList, Array.getD_eq_getD_getElem?]
              congr 2
              omega
            rwa [hx] at this
      · cases h
    · cases h
  | _ => cases h

end
end Glx
