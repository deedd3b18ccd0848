/- More operations that only compute: addresses, fields, indexes, pieces. -/
import Derived.Test.YtfelpmijieomaaaGreatDoorGlxOpA
namespace Glx
open Go

section
variable {x : Env}

theorem fieldOf_spec {P : Program} {t : TypeId} {f off : Nat} {ft : TypeId} {n : Nat} (h : fieldOf P t f = some (off, ft, n)) :
    ∃ fs fd inf, P.underlying t = some (.struct fs) ∧ fs[f]? = some fd ∧ fd.offset = off ∧ fd.type = ft ∧ P.info? ft = some inf ∧ inf.size = n ∧ n ≠ 0 := by
  unfold fieldOf at h
  split at h
  · rename_i fs hu
    obtain ⟨fd, h1, h⟩ := Option.bind_eq_some_iff.1 h
    obtain ⟨inf, h2, h⟩ := Option.bind_eq_some_iff.1 h
    split at h
    · cases h
    · rename_i h0
      simp only [Option.some.injEq, Prod.mk.injEq] at h
      obtain ⟨rfl, rfl, rfl⟩ := h
      exact ⟨fs, fd, inf, hu, h1, rfl, rfl, h2, rfl, h0⟩
  · cases h

theorem run_fieldAt {P : Program} {t : TypeId} {f off : Nat} {ft : TypeId} {n : Nat} (h : fieldOf P t f = some (off, ft, n)) (b a : Nat) (w : World) :
    (Instr.fieldAt t (.pointer (some ⟨b, a, none⟩)) f).run P w = .ok (.pointer (some ⟨b, a + off, none⟩)) w := by
  obtain ⟨fs, fd, inf, hu, h1, rfl, rfl, h2, rfl, h0⟩ := fieldOf_spec h
  simp [Instr.fieldAt, run_underlying hu, h1, Instr.sureAddr, fieldPlace, run_sizeOf' h2, h0, Addr.add_mid]

theorem symFieldAddr_ok {t : TypeId} {f : Nat} {s r : SV} (h : symFieldAddr x.P t f s = some r) {va : Value} (ha : G x s va)
    (hsure : ∃ b a, va = .pointer (some ⟨b, a, none⟩)) (w : World) : ∃ v, (Instr.fieldAt t va f).run x.P w = .ok v w ∧ G x r v := by
  unfold symFieldAddr at h
  obtain ⟨⟨off, ft, n⟩, h1, h⟩ := Option.bind_eq_some_iff.1 h
  obtain ⟨b0, a0, rfl⟩ := hsure
  refine ⟨_, run_fieldAt h1 b0 a0 w, ?_⟩
  cases s with
  | ptr o a =>
    cases h
    refine ⟨ha.1, fun T l fz hl => ?_⟩
    obtain ⟨b, h2, h3⟩ := ha.2 T l fz hl
    simp only [Value.pointer.injEq, Option.some.injEq, Addr.mk.injEq, and_true] at h3
    obtain ⟨rfl, rfl⟩ := h3
    exact ⟨_, h2, rfl⟩
  | pel T l i a =>
    cases h
    obtain ⟨h2, h3, ts, b, o, m, cap, h4, h5, h6, h7, h8⟩ := ha
    simp only [Value.pointer.injEq, Option.some.injEq, Addr.mk.injEq, and_true] at h8
    obtain ⟨rfl, rfl⟩ := h8
    exact ⟨h2, h3, ts, _, o, m, cap, h4, h5, h6, h7, by rw [Nat.add_assoc]⟩
  | oel o u i a =>
    cases h
    obtain ⟨h2, h3, h4⟩ := ha
    refine ⟨h2, h3, fun T e u' hl => ?_⟩
    obtain ⟨h5, h6⟩ := h4 T e u' hl
    refine ⟨h5, fun hu => ?_⟩
    obtain ⟨ts, b, m, cap, h7, h8, h9, h10, h11⟩ := h6 hu
    simp only [Value.pointer.injEq, Option.some.injEq, Addr.mk.injEq, and_true] at h11
    obtain ⟨rfl, rfl⟩ := h11
    exact ⟨ts, _, m, cap, h7, h8, h9, h10, by rw [Nat.add_assoc]⟩
  | _ => cases h

/-- a part of a struct or array -/
theorem part_run {t : TypeId} {inf : TypeInfo} (hi : x.P.info? t = some inf) {agg : Bool} (ha : isRow x.P t = some agg) {l : List SV} {c : Array Value} (hl : GL x l c) {off : Nat}
    (hn : off + inf.size ≤ l.length) {r : S1} (hr : mkS1 agg inf.size ((l.drop off).take inf.size) = some r) (w : World) :
    ∃ v, (part t c off).run x.P w = .ok v w ∧ G1 x r v := by
  have hlen := mkS1_len hr
  cases agg with
  | true =>
    unfold mkS1 at hr
    rw [if_pos hlen] at hr
    simp only [if_true, Option.some.injEq] at hr
    subst hr
    refine ⟨.agg (c.extract off (off + inf.size)), by simp [part, run_isAgg' ha, run_sizeOf' hi], _, rfl, by simp [hl.1, List.length_take, List.length_drop]; omega, fun j s hj => ?_⟩
    obtain ⟨h1, h2⟩ := getElem?_drop_take hj
    have := hl.2 _ _ h1
    have hlt : off + j < c.size := by rw [hl.1]; omega
    simp only [Array.getD_eq_getD_getElem?] at this ⊢
    rw [Array.getElem?_extract, if_pos (by omega)]
    exact this
  | false =>
    unfold mkS1 at hr
    rw [if_pos hlen] at hr
    simp only [Bool.false_eq_true, if_false] at hr
    split at hr
    · rename_i s hs
      cases hr
      have h0 : ((l.drop off).take inf.size)[0]? = some s := by rw [hs]; rfl
      obtain ⟨h1, _⟩ := getElem?_drop_take h0
      have := hl.2 _ _ h1
      have hlt : off < c.size := by rw [hl.1]; omega
      refine ⟨c.getD off undef, by simp [part, run_isAgg' ha, hlt], this⟩
    · cases hr

theorem symField_ok {t : TypeId} {f : Nat} {s r : S1} (h : symField x.P t f s = some r) {va : Value} (ha : G1 x s va) (w : World) :
    ∃ v, (Instr.field t va f).run x.P w = .ok v w ∧ G1 x r v := by
  unfold symField at h
  obtain ⟨⟨off, ft, n⟩, h1, h⟩ := Option.bind_eq_some_iff.1 h
  obtain ⟨fs, fd, inf, hu, h2, rfl, rfl, h3, rfl, h0⟩ := fieldOf_spec h1
  cases s with
  | one s => cases h
  | agg l =>
    obtain ⟨agg, hagg, h⟩ := Option.bind_eq_some_iff.1 h
    split at h
    · rename_i hn
      obtain ⟨c, rfl, hl⟩ := ha
      obtain ⟨v, h4, h5⟩ := part_run h3 hagg hl hn h w
      exact ⟨v, by simp [Instr.field, run_underlying hu, h2, asAgg, h4], h5⟩
    · cases h

theorem inBounds_ok {e : List D} {i n : Ex} (hg : ∀ c ∈ inBounds i n, (c.den e).bool = true) : 0 ≤ (i.den e).int ∧ (i.den e).int < (n.den e).int := by
  have h := gds_ok hg
  have h1 := h _ (List.mem_cons_self ..)
  have h2 := h _ (List.mem_cons_of_mem _ (List.mem_singleton.2 rfl))
  rw [mkCmp_den] at h1 h2
  exact ⟨leq_of h1, lss_of h2⟩

theorem symIndexAddr_ok {w0 : World} {M : Nat → Prop} (hs : Sat x w0 M) {t : TypeId} {s ix r : SV} {gs : List Ex} (h : symIndexAddr x.P x.H t s ix = some (gs, r)) {va vi : Value}
    (ha : G x s va) (hi : G x ix vi) (hg : ∀ c ∈ gs, (c.den x.e).bool = true) (hsure : ∀ o off, s = .ptr o off → ∃ b a, va = .pointer (some ⟨b, a, none⟩)) (w : World) :
    ∃ v, (Instr.indexAt t va vi).run x.P w = .ok v w ∧ G x r v := by
  unfold symIndexAddr at h
  split at h
  · rename_i k i
    obtain ⟨hi1, rfl⟩ := hi
    split at h
    · rename_i T hu
      cases s with
      | sl T' l =>
        simp only [Option.ite_none_right_eq_some, Option.map_eq_some_iff, Prod.mk.injEq] at h
        obtain ⟨rfl, ts, hts, rfl, rfl⟩ := h
        obtain ⟨h1, h2⟩ := inBounds_ok hg
        rw [mkLen_den] at h2
        obtain ⟨hl, hrd⟩ := ha
        cases hrd with
        | nil h0 => rw [h0] at h2; simp at h2; omega
        | row k1 k2 k3 k4 k5 k6 k7 k8 =>
          rename_i ts' b off n cap c E fz
          rw [hts] at k1
          cases k1
          obtain ⟨inf, hinf, hsz, _⟩ := tys_size hts
          have hn : (i.den x.e).int < n := by omega
          refine ⟨.pointer (some ⟨b, off + (i.den x.e).int.toNat * ts.length, none⟩), ?_, hl, hi1, ts, b, off, n, cap, hts, .row hts k2 k3 k4 k5 k6 k7 k8, h1, hn, rfl⟩
          simp [Instr.indexAt, run_underlying hu, asIntOf, h1, hn, run_sizeOf' hinf, hsz, Addr.add_mid]
      | own o ver =>
        simp only at h
        split at h
        · rename_i T' e u hl
          simp only [Option.ite_none_right_eq_some, Option.some.injEq, Prod.mk.injEq] at h
          obtain ⟨⟨hu', rfl⟩, rfl, rfl⟩ := h
          obtain ⟨h1, h2⟩ := inBounds_ok hg
          rw [mkLen_den] at h2
          obtain ⟨hborn, hrow⟩ := ha
          obtain ⟨_, hval⟩ := hrow _ e u hl
          have hva := hval hu'
          have ho := hs.objs o
          rw [hl] at ho
          obtain ⟨hsc, ts, n, xs, hts, hown, hlen, hrd, hnI⟩ := ho
          obtain ⟨inf, hinf, hsz, _⟩ := tys_size hts
          rw [← hva] at hown
          rcases hown.2 with ⟨rfl, rfl⟩ | ⟨g, cap, cur, rfl, _, hgh, hnc, _⟩
          · omega
          · have hn : (i.den x.e).int < n := by omega
            refine ⟨.pointer (some ⟨g, (i.den x.e).int.toNat * ts.length, none⟩), ?_, hi1, hborn, fun T2 e2 u2 hl2 => ?_⟩
            · simp [Instr.indexAt, run_underlying hu, asIntOf, h1, hn, run_sizeOf' hinf, hsz, Addr.add_mid]
            · rw [hl] at hl2
              cases hl2
              exact ⟨by omega, fun _ => ⟨ts, g, n, cap, hts, hva.symm, h1, hn, rfl⟩⟩
        · cases h
      | _ => cases h
    · rename_i n T hu
      split at h
      · rename_i o off j
        simp only [Option.ite_none_right_eq_some, Option.map_eq_some_iff, Prod.mk.injEq] at h
        obtain ⟨⟨h1, h2⟩, inf, hinf, rfl, rfl⟩ := h
        obtain ⟨b, a, rfl⟩ := hsure o off rfl
        refine ⟨.pointer (some ⟨b, a + j.toNat * inf.size, none⟩), ?_, ha.1, fun T l fz hl => ?_⟩
        · simp [Instr.indexAt, run_underlying hu, asIntOf, Instr.sureAddr, Ex.den, h1, h2, run_sizeOf' hinf, Addr.add_mid]
        · obtain ⟨b', h3, h4⟩ := ha.2 T l fz hl
          simp only [Value.pointer.injEq, Option.some.injEq, Addr.mk.injEq, and_true] at h4
          obtain ⟨rfl, rfl⟩ := h4
          exact ⟨_, h3, rfl⟩
      · cases h
    · cases h
  · cases h

theorem symIndex_ok {t : TypeId} {s r : S1} {ix : SV} {gs : List Ex} (h : symIndex x.P t s ix = some (gs, r)) {va vi : Value} (ha : G1 x s va) (hi : G x ix vi)
    (hg : ∀ c ∈ gs, (c.den x.e).bool = true) (w : World) : ∃ v, (Instr.index t va vi).run x.P w = .ok v w ∧ G1 x r v := by
  unfold symIndex at h
  split at h
  · rename_i k i
    obtain ⟨hi1, rfl⟩ := hi
    split at h
    · rename_i e hu
      simp only [Option.some.injEq, Prod.mk.injEq] at h
      obtain ⟨rfl, rfl⟩ := h
      obtain ⟨he, rfl⟩ := ha
      have hgg := gds_ok hg
      have h1 := hgg _ (List.mem_cons_self ..)
      have h2 := hgg _ (List.mem_cons_of_mem _ (List.mem_singleton.2 rfl))
      rw [mkCmp_den] at h1 h2
      have h1 : 0 ≤ (i.den x.e).int := leq_of h1
      have h2 : (i.den x.e).int < ((e.den x.e).str.size : Int) := lss_of h2
      have h3 : (i.den x.e).int.toNat < (e.den x.e).str.size := by omega
      have h4 : (i.den x.e).int.toNat < (e.den x.e).str.data.size := h3
      refine ⟨.int .u8 (byteAt (e.den x.e).str (i.den x.e).int), ?_, by simp [Ex.sc, he, hi1], rfl⟩
      have h5 : (e.den x.e).str[(i.den x.e).int.toNat]? = some ((e.den x.e).str.data[(i.den x.e).int.toNat]) := by
        exact getElem?_pos (e.den x.e).str (i.den x.e).int.toNat h3
      have h6 : byteAt (e.den x.e).str (i.den x.e).int = (((e.den x.e).str.data[(i.den x.e).int.toNat]).toNat : Int) := by
        unfold byteAt
        rw [List.getD_eq_getElem?_getD, Array.getElem?_toList, Array.getElem?_eq_getElem h4]; rfl
      rw [h6]
      simp only [Instr.index, run_underlying hu, asIntOf, h1, h5, Sem.run_bind, Sem.run_pure, Result.andThen_ok, if_true]
    · rename_i n T l hu
      split at h
      · rename_i j
        simp only [Option.ite_none_right_eq_some] at h
        obtain ⟨⟨h1, h2⟩, h⟩ := h
        obtain ⟨inf, hinf, h⟩ := Option.bind_eq_some_iff.1 h
        obtain ⟨agg, hagg, h⟩ := Option.bind_eq_some_iff.1 h
        simp only [Option.ite_none_right_eq_some, Option.map_eq_some_iff, Prod.mk.injEq] at h
        obtain ⟨hn, r', hr, rfl, rfl⟩ := h
        obtain ⟨c, rfl, hl⟩ := ha
        · obtain ⟨v, h4, h5⟩ := part_run hinf hagg hl hn hr w
          exact ⟨v, by simp [Instr.index, run_underlying hu, asIntOf, Ex.den, h1, h2, run_sizeOf' hinf, h4], h5⟩
      · cases h
    · cases h
  · cases h

end
end Glx
