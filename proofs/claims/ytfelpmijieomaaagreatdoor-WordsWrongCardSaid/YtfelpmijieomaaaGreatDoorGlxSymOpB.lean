/- One operation of the program: what runs is what the picture says. -/
import Derived.Test.YtfelpmijieomaaaGreatDoorGlxSymOp
import Derived.Lib.ConvBytes
namespace Glx
open Go

section
variable {C : Cfg} {x : Env} {w0 : World} {M : Nat → Prop} {ρ : Lk} {a : Act} {o : Oper} {K : Act → World → Prop} {Q : Exit → Act → World → Prop} {d : Done}

theorem wp_val {m : Sem Value} (he : execOp a.eval o = (do pure (.value (← m)))) (hm : ∃ v w', m.run x.P x.w = .ok v w' ∧ Fine C x w0 M d v w')
    (hK : ∀ v w', Fine C x w0 M d v w' → K (a.put o.dst v) w') : o.wp x.P a x.w K Q := by
  obtain ⟨v, w', h1, h2⟩ := hm
  unfold Oper.wp
  rw [he]
  simp only [Sem.run_bind, h1, Result.andThen_ok, Sem.run_pure, Oper.upon]
  exact hK v w' h2

theorem wp_unit {m : Sem Unit} (he : execOp a.eval o = (do m; pure .skip)) (hm : ∃ w', m.run x.P x.w = .ok () w' ∧ ∀ u, Fine C x w0 M d u w')
    (hK : ∀ v w', Fine C x w0 M d v w' → K (a.put o.dst v) w') : o.wp x.P a x.w K Q := by
  obtain ⟨w', h1, h2⟩ := hm
  unfold Oper.wp
  rw [he]
  simp only [Sem.run_bind, h1, Result.andThen_ok, Sem.run_pure, Oper.upon]
  exact hK _ w' (h2 _)

theorem eqGuard_one {op : BinOp} {sa sb s : SV} {gs : List Ex} (h : symBin op sa sb = some (gs, s)) {va vb : Value} (ha : G x sa va) (hb : G x sb vb) (t : TypeId) (xo yo : Operand) (P : Program) (w : World) :
    (eqGuard op t xo yo va vb).run P w = .ok () w := by
  unfold symBin at h
  split at h
  · obtain ⟨_, rfl⟩ := ha
    obtain ⟨_, rfl⟩ := hb
    cases op <;> simp [eqGuard]
  · obtain ⟨_, rfl⟩ := ha
    obtain ⟨_, rfl⟩ := hb
    cases op <;> simp [eqGuard]
  · cases h

/-- a call's facts -/
structure CallFact (Φ : Nat → List D → Option (List D)) (C : Cfg) (e : List D) (f : Nat) (h : Hand) : Prop where
  sc : ∀ u ∈ h.us, u.sc e.length = true
  fact : ∃ s ds, C.sig f = some s ∧ Φ f (dens e h.us) = some ds ∧ ∀ i, i < ds.length → h.base + i < e.length ∧ e.getD (h.base + i) default = ds.getD i default

structure SigOk (C : Cfg) (Φ : Nat → List D → Option (List D)) : Prop where
  enters : ∀ f, C.of f ≠ [] → ∀ args w, (callFunc f args).run C.P w = .ok (.enter f args) w
  impl : ∀ f cid s, cid ∈ C.of f → C.sig cid = some s → Impl C.P f s (Φ cid)
  len : ∀ f s, C.sig f = some s → ∀ as ds, Φ f as = some ds → ds.length = s.outN

theorem tryCall_ok {C : Cfg} {H : List SObj} {k base : Nat} {As : List Slot} {d : Done} : ∀ {l : List Nat}, tryCall C H k base As l = some d →
    ∃ cid s, cid ∈ l ∧ C.sig cid = some s ∧ callOk C.P (mkHand s H As k base) s H As = true ∧ d = ⟨[], (mkHand s H As k base).renS s s.outS, .call cid (mkHand s H As k base)⟩
  | [], h => by cases h
  | cid :: l, h => by
    simp only [tryCall] at h
    have rest : tryCall C H k base As l = some d → ∃ cid' s, cid' ∈ cid :: l ∧ C.sig cid' = some s ∧ callOk C.P (mkHand s H As k base) s H As = true ∧ d = ⟨[], (mkHand s H As k base).renS s s.outS, .call cid' (mkHand s H As k base)⟩ := fun h => by
      obtain ⟨c, s, h1, h2⟩ := tryCall_ok h
      exact ⟨c, s, List.mem_cons_of_mem _ h1, h2⟩
    split at h
    · rename_i s hs
      split at h
      · rename_i hk
        cases h
        exact ⟨cid, s, List.mem_cons_self .., hs, hk, rfl⟩
      · exact rest h
    · exact rest h

theorem symPtrs_ok : ∀ {l : List Slot} {r : List (Nat × Nat)} {vs : List Value}, symPtrs l = some r → (vs.length = l.length ∧ ∀ i t, l[i]? = some t → GS x t (vs.getD i undef)) → ptrsTo x r vs.toArray
  | [], r, vs, h, hg => by cases h; exact ⟨hg.1, fun j p hj => by simp at hj⟩
  | s :: l, r, vs, h, hg => by
    unfold symPtrs at h
    split at h
    · rename_i h0; cases h0
    · rename_i oid off l' h0
      cases h0
      obtain ⟨r', h1, rfl⟩ := Option.map_eq_some_iff.1 h
      cases vs with
      | nil => have := hg.1; simp at this
      | cons v vs =>
        have ih := symPtrs_ok h1 (vs := vs) ⟨by have := hg.1; simpa using this, fun i t hi => by simpa using hg.2 (i + 1) t (by simpa using hi)⟩
        refine ⟨by have := ih.1; simpa using this, fun j p hj => ?_⟩
        cases j with
        | zero => simp only [List.getElem?_cons_zero, Option.some.injEq] at hj; subst hj; exact hg.2 0 _ rfl
        | succ j => simpa using ih.2 j p (by simpa using hj)
    · cases h

theorem ptrSlots_ok {l : List (Nat × Nat)} {c : Array Value} (h : ptrsTo x l c) : c.toList.length = (ptrSlots l).length ∧ ∀ i t, (ptrSlots l)[i]? = some t → GS x t (c.toList.getD i undef) := by
  refine ⟨by simpa [ptrSlots] using h.1, fun i t hi => ?_⟩
  simp only [ptrSlots, List.getElem?_map, Option.map_eq_some_iff] at hi
  obtain ⟨p, h1, rfl⟩ := hi
  show ptrTo x p _
  simpa [Array.getD_eq_getD_getElem?, List.getD_eq_getElem?_getD] using h.2 i p h1

theorem slots_append {l m : List Slot} {a b : List Value} (h1 : a.length = l.length ∧ ∀ i t, l[i]? = some t → GS x t (a.getD i undef)) (h2 : b.length = m.length ∧ ∀ i t, m[i]? = some t → GS x t (b.getD i undef)) :
    (a ++ b).length = (l ++ m).length ∧ ∀ i t, (l ++ m)[i]? = some t → GS x t ((a ++ b).getD i undef) := by
  refine ⟨by simp [h1.1, h2.1], fun i t hi => ?_⟩
  rcases Nat.lt_or_ge i l.length with h | h
  · rw [List.getElem?_append_left h] at hi
    have := h1.2 i t hi
    simpa [List.getD_eq_getElem?_getD, List.getElem?_append_left (show i < a.length by omega)] using this
  · rw [List.getElem?_append_right h] at hi
    have := h2.2 _ t hi
    simpa [List.getD_eq_getElem?_getD, List.getElem?_append_right (show a.length ≤ i by omega), h1.1] using this

theorem symBytes_ok (hs : Sat x w0 M) {src dst : TypeId} {s : SV} (h : symBytes x.P src dst s = some d) {v : Value} (hg : G x s v) : ∃ u w', (convert src dst v).run x.P x.w = .ok u w' ∧ Fine C x w0 M d u w' := by
  unfold symBytes at h
  split at h
  · rename_i E e hsrc hdst
    simp only [Option.ite_none_right_eq_some, Option.some.injEq] at h
    obtain ⟨⟨hts, hu8⟩, rfl⟩ := h
    have hE : x.P.underlying E = some (.int .u8) := by
      split at hu8
      · assumption
      · cases hu8
    obtain ⟨hsc, rfl⟩ := hg
    generalize hstr : (e.den x.e).str = s
    refine ⟨_, _, Lib.run_convert_string_bytes x.w src dst E s hsrc hdst hE, ?_⟩
    have hsz := Lib.bytesWorld_size x.w E s
    have hold := Lib.bytesWorld_at_old x.w E s
    generalize hy : ({ x with I := fun b => x.I b ∨ b = x.w.heap.size, w := Lib.bytesWorld x.w E s } : Env) = y
    have yw : y.w = Lib.bytesWorld x.w E s := by rw [← hy]
    have yI : ∀ b, y.I b ↔ x.I b ∨ b = x.w.heap.size := fun b => by rw [← hy]
    have yP : y.P = x.P := by rw [← hy]
    have ye : y.e = x.e := by rw [← hy]
    have yH : y.H = x.H := by rw [← hy]
    have yν : y.ν = x.ν := by rw [← hy]
    have hext : Ext x y := by
      refine ⟨yP, fun b hb => (yI b).2 (.inl hb), ⟨[], by simp [ye]⟩, fun b hb => by rw [yw]; exact hold b (hs.ibound b hb), fun o h => by rw [yH]; exact h, fun o T l fz _ h => ?_, fun o T e u _ h => ?_⟩
      · rw [yH] at h; rw [yν]; exact ⟨⟨l, fz, h⟩, rfl⟩
      · rw [yH] at h; rw [yν]; exact ⟨e, u, h, Nat.le_refl _, fun _ => rfl⟩
    refine ⟨y, yw, ye, yP, fun p => by rw [yH]; rfl, fun b hb => ?_, ?_, hext, ?_⟩
    · rcases (yI b).1 hb with hb | hb
      · exact .inl hb
      · exact .inr (.inl (by omega))
    · refine Sat.step hs hext (fun _ => False) (fun o _ => ⟨by rw [yH], by rw [yν]⟩) (fun o b _ hl hb => ?_) (fun _ h => h.elim) (fun _ _ _ h => h.elim) (fun b hb => ?_) (fun _ _ h => h.elim) ?_
      · have hlt := live_blk_lt hs hl hb
        refine ⟨by rw [yw]; exact hold b hlt, fun h => ?_, fun h => (yI b).2 (.inl h)⟩
        rcases (yI b).1 h with h | h
        · exact h
        · omega
      · rw [yw, hsz]
        rcases (yI b).1 hb with hb | hb
        · have := hs.ibound b hb; omega
        · omega
      · have hf := hs.frame
        refine ⟨by rw [yw]; exact hf.os, by rw [yw]; exact hf.tape, by rw [yw]; exact hf.output, by rw [yw, hsz]; have := hf.size; omega, fun b hb hm => ?_⟩
        rw [yw, hold b (Nat.lt_of_lt_of_le hb hf.size)]
        exact hf.block b hb hm
    · have hbl : ((Ex.bytes e).den x.e).rows.length = s.size := by simp [Ex.den, bytesOf, hstr]
      refine ⟨by rw [ye]; exact hsc, ?_⟩
      rw [yP, ye, yw]
      refine .row hts ((yI _).2 (.inr rfl)) (Lib.bytesWorld_at_new x.w E s) hbl (grownCap_ge x.w s.size 0 E) (by simp [Lib.bytesCells]) (fun r hr => ?_) (fun i j t hi ht => ?_)
      · simp only [Ex.den, D.rows_l, bytesOf, List.mem_map] at hr
        obtain ⟨_, _, rfl⟩ := hr
        rfl
      · have hj : j = 0 := by have := (List.getElem?_eq_some_iff.1 ht).1; simp only [List.length_singleton] at this; omega
        subst hj
        simp only [List.getElem?_cons_zero, Option.some.injEq] at ht
        subst ht
        have hi0 : i < s.size := hi
        have hi' : i < s.data.size := hi0
        have g0 : s.data[i]? = some s.data[i] := Array.getElem?_eq_getElem hi'
        have e1 : (Lib.bytesCells x.w E s).getD (0 + i * [LTy.int .u8].length + 0) undef = .int .u8 (s.data[i].toNat) := by
          simp [Lib.bytesCells, hi0, Array.getElem?_append]
        have e2 : ((((Ex.bytes e).den x.e).rows).getD i []).getD 0 default = D.i (s.data[i].toNat) := by
          simp [Ex.den, bytesOf, hstr, g0]
        rw [e1, e2]
        exact @Rd.int _ _ _ .u8 (D.i (s.data[i].toNat))
  · cases h

theorem run_nil_ifc {P : Program} (w : World) {t : TypeId} {ms : Array (String × TypeId)} (ht : P.underlying t = some (.interface ms)) (v : Value) (b : Bool) (h : (b = true ∧ v = .nilIface) ∨ (b = false ∧ ∃ t' u, v = .iface t' u)) :
    (binOp .eql t v .nilIface).run P w = .ok (.bool b) w ∧ (binOp .neq t v .nilIface).run P w = .ok (.bool (!b)) w := by
  have hd : ∀ d : Nat, (Op.equalIn (d + 1) t v .nilIface).run P w = .ok b w := fun d => by
    rcases h with ⟨rfl, rfl⟩ | ⟨rfl, t', u, rfl⟩ <;> simp [Op.equalIn, run_underlying ht]
  rcases h with ⟨rfl, rfl⟩ | ⟨rfl, t', u, rfl⟩
  · constructor
    · simp only [binOp]
      simp [Op.equal, Op.maxDepth, hd 9999]
    · simp only [binOp]
      simp [Op.equal, Op.maxDepth, hd 9999]
  · constructor
    · simp only [binOp]
      simp [Op.equal, Op.maxDepth, hd 9999]
    · simp only [binOp]
      simp [Op.equal, Op.maxDepth, hd 9999]

theorem run_nil_guard {P : Program} (w : World) (op : BinOp) (t : TypeId) (p : Operand) (v : Value) (h : v = .nilIface ∨ ∃ t' u, v = .iface t' u) : (eqGuard op t p (.const .nilIface) v .nilIface).run P w = .ok () w := by
  rcases h with rfl | ⟨t', u, rfl⟩ <;> cases op <;> simp [eqGuard]

theorem symNil_ok {op : BinOp} {t : TypeId} {p y : Operand} {s : S1} (h : symNil x.P op t y s = some d) {v : Value} (hg : G1 x s v) (w : World) :
    y = .const .nilIface ∧ ∃ u, (do eqGuard op t p (.const .nilIface) v .nilIface; binOp op t v .nilIface : Sem Value).run x.P w = .ok u w ∧ (Sat x w0 M → Fine C x w0 M d u x.w) := by
  unfold symNil at h
  split at h
  · rename_i ms e hu
    refine ⟨rfl, ?_⟩
    obtain ⟨h1, h2, h3⟩ := hg
    have hv : ((e.den x.e).bool = true ∧ v = .nilIface) ∨ ((e.den x.e).bool = false ∧ ∃ t' u, v = .iface t' u) := by
      cases hb : (e.den x.e).bool with
      | true => exact .inl ⟨rfl, h2 hb⟩
      | false => exact .inr ⟨rfl, h3 hb⟩
    obtain ⟨r1, r2⟩ := run_nil_ifc w hu v _ hv
    have hgd : ∀ op, (eqGuard op t p (.const .nilIface) v .nilIface).run x.P w = .ok () w := fun op => run_nil_guard w op t p v (hv.imp (·.2) (·.2))
    split at h
    · cases h
      exact ⟨_, by simp [hgd, r1], fun hs => Fine.val hs ⟨h1, rfl⟩⟩
    · cases h
      exact ⟨.bool (!(e.den x.e).bool), by simp [hgd, r2], fun hs => Fine.val hs ⟨by rw [mkNo_sc]; exact h1, by rw [mkNo_den]⟩⟩
    · cases h
  · cases h

theorem OG.none : OG x none none := trivial

theorem list_one {vs : List Value} {s : S1} (h : vs.length = 1 ∧ ∀ i t, [Slot.v s][i]? = some t → GS x t (vs.getD i undef)) : ∃ v, vs = [v] ∧ G1 x s v := by
  match vs, h with
  | [v], h => exact ⟨v, rfl, h.2 0 _ rfl⟩

theorem list_two {vs : List Value} {s y : SV} (h : vs.length = 2 ∧ ∀ i t, [Slot.v (.one s), .v (.one y)][i]? = some t → GS x t (vs.getD i undef)) : ∃ v u, vs = [v, u] ∧ G x s v ∧ G x y u := by
  match vs, h with
  | [v, u], h => exact ⟨v, u, rfl, h.2 0 _ rfl, h.2 1 _ rfl⟩

theorem symBuiltin_ok (hs : Sat x w0 M) {k : Nat} {b : Builtin} {ts : List TypeId} {as : List Slot} (hd : symBuiltin x.P x.H k b ts as = some d) {vs : List Value}
    (hv : vs.length = as.length ∧ ∀ i t, as[i]? = some t → GS x t (vs.getD i undef)) (hg : ∀ c ∈ d.gs, (c.den x.e).bool = true) (ty : TypeId) (cs : Array Bool) :
    ∃ m : Sem Value, builtin b ts.toArray ty cs vs.toArray = (do pure (.value (← m))) ∧ ∃ u w', m.run x.P x.w = .ok u w' ∧ Fine C x w0 M d u w' := by
  obtain ⟨tsa, htsa⟩ : ∃ a, a = ts.toArray := ⟨_, rfl⟩
  rw [← htsa]
  cases b <;> simp only [symBuiltin, reduceCtorEq] at hd
  case len =>
    subst htsa
    split at hd
    · obtain ⟨r, h3, rfl⟩ := Option.map_eq_some_iff.1 hd
      obtain ⟨v, rfl, h4⟩ := list_one hv
      obtain ⟨u, h5, h6⟩ := symLen_ok (ty := ty) hs h3 h4 x.w
      exact ⟨_, rfl, u, _, h5, Fine.val hs h6⟩
    all_goals first | cases hd | (rename_i hq; cases hq)
  case append =>
    subst htsa
    split at hd
    · rename_i hq; cases hq
    · obtain ⟨v, u, rfl, h4, h5⟩ := list_two hv
      exact ⟨_, rfl, symApp_ok hs hd h4 h5 hg⟩
    all_goals first | cases hd | (rename_i hq; cases hq)
  case max =>
    split at hd
    · rename_i hq; cases hq
    · rename_i hq; cases hq
    · obtain ⟨r, h3, rfl⟩ := Option.map_eq_some_iff.1 hd
      obtain ⟨v, u, rfl, h4, h5⟩ := list_two hv
      refine ⟨Builtin.max_ _ ty _, rfl, ?_⟩
      obtain ⟨q, h6, h7⟩ := symExt_ok h3 h4 h5 tsa ty x.w
      exact ⟨q, _, h6, Fine.val hs h7⟩
    all_goals first | cases hd | (rename_i hq; cases hq)
  case min =>
    split at hd
    · rename_i hq; cases hq
    · rename_i hq; cases hq
    · rename_i hq; cases hq
    · obtain ⟨r, h3, rfl⟩ := Option.map_eq_some_iff.1 hd
      obtain ⟨v, u, rfl, h4, h5⟩ := list_two hv
      refine ⟨Builtin.min_ _ ty _, rfl, ?_⟩
      obtain ⟨q, h6, h7⟩ := symExt_ok h3 h4 h5 tsa ty x.w
      exact ⟨q, _, h6, Fine.val hs h7⟩
    all_goals first | cases hd | (rename_i hq; cases hq)

theorem op_call_ok {Φ : Nat → List D → Option (List D)} (hsig : SigOk C Φ) (hP : x.P = C.P) (hs : Sat x w0 M) {k base : Nat} {c : Call} (hop : o.op = .call c) {n : Nat} {ρc : Ex → Bool → Lk} {kn : Ex → Option Bool}
    (hd : symOp C x.H n ρ ρc kn k base (.call c) = some d) (hρ : LkOk x ρ a.eval) (hg : ∀ c ∈ d.gs, (c.den x.e).bool = true)
    (hcall : ∀ f h, d.ef = .call f h → CallFact Φ C x.e f h) (hK : ∀ v w', Fine C x w0 M d v w' → K (a.put o.dst v) w') : o.wp C.P a x.w K Q := by
  obtain ⟨dst, op, type, pos, after, guard⟩ := o
  obtain rfl := hop
  obtain ⟨callee, args, argTypes⟩ := c
  simp only [symOp] at hd
  cases callee with
  | value f =>
    simp only at hd
    obtain ⟨s, h1, hd⟩ := Option.bind_eq_some_iff.1 hd
    obtain ⟨as, h2, hd⟩ := Option.bind_eq_some_iff.1 hd
    cases s with
    | fn fid r1 r2 =>
      simp only [symCall] at hd
      obtain ⟨cid, sg, hmem, h3, h4, rfl⟩ := tryCall_ok hd
      obtain ⟨va, vc, hv, g1, g2⟩ := lkv_ok hρ h1
      obtain ⟨sg', ds, k1, k2, k3⟩ := (hcall _ _ rfl).fact
      rw [h3] at k1
      cases k1
      have hargs := slots_append (slots_append (ptrSlots_ok g1) (lks_ok hρ h2)) (ptrSlots_ok g2)
      obtain ⟨_, hcalls⟩ := call_ok (h := mkHand sg x.H (ptrSlots r1 ++ as ++ ptrSlots r2) k base) (s := sg) (K := fid) (args := va ++ args.map a.eval ++ vc) hs (by rw [hP]; exact h4) (by rw [hP]; exact hsig.impl _ _ _ hmem h3)
        ⟨by simpa using hargs.1, fun i t hi => by simpa [Array.getD_eq_getD_getElem?, List.getD_eq_getElem?_getD, ← Array.getElem?_toList] using hargs.2 i t hi⟩ k2 k3
      have hexec : (execOp a.eval ⟨dst, .call ⟨.value f, args, argTypes⟩, type, pos, after, guard⟩).run C.P x.w = .ok (.enter fid (va ++ args.map a.eval ++ vc)) x.w := by
        have := hsig.enters fid (fun h => by rw [h] at hmem; cases hmem) (va ++ args.map a.eval ++ vc) x.w
        simp only [execOp, resolve, hv, Deferred.ofValue, invoke, Sem.run_bind, Sem.run_pure, Result.andThen_ok]
        exact this
      unfold Oper.wp
      rw [hexec]
      rw [hP] at hcalls
      simp only [Oper.upon]
      refine hcalls.mono ?_
      rintro e w' ⟨v, z', rfl, q1, q2, q3, q4, qb, q5, q6, q7⟩
      exact hK v w' ⟨z', q1, q2, by rw [q3, hP], fun p => by rw [q4]; simp only [Ef.mod, h3]; generalize (mkHand sg x.H (ptrSlots r1 ++ as ++ ptrSlots r2) k base).corr sg p = q; cases q <;> rfl, qb, q5, q6, q7⟩
    | _ => cases hd
  | builtin b =>
    simp only [← hP] at hd
    obtain ⟨as, h2, hd⟩ := Option.bind_eq_some_iff.1 hd
    obtain ⟨m, h3, h4⟩ := symBuiltin_ok (C := C) hs hd (lks_ok hρ h2) hg type (args.map fun | .const _ => true | _ => false)
    rw [← hP]
    refine wp_val (m := m) (C := C) (M := M) (w0 := w0) (d := d) ?_ h4 hK
    simp only [Array.toArray_toList, ← Array.toList_map] at h3
    simp only [execOp, resolve, invoke, pure_bind]
    exact h3
  | invoke r m => cases hd

set_option maxHeartbeats 1000000 in
theorem op_ok {Φ : Nat → List D → Option (List D)} (hsig : SigOk C Φ) (hP : x.P = C.P) (hs : Sat x w0 M) {n : Nat} (hn : n ≤ x.e.length) {ρc : Ex → Bool → Lk} {kn : Ex → Option Bool} {k base : Nat}
    (hd : symOp C x.H n ρ ρc kn k base o.op = some d) (hρ : LkOk x ρ a.eval) (hρc : ∀ e t, (e.den x.e).bool = t → LkOk x (ρc e t) a.eval) (hkn : ∀ e b, kn e = some b → (e.den x.e).bool = b) (hg : ∀ c ∈ d.gs, (c.den x.e).bool = true)
    (hcall : ∀ f h, d.ef = .call f h → CallFact Φ C x.e f h) (hK : ∀ v w', Fine C x w0 M d v w' → K (a.put o.dst v) w') : o.wp C.P a x.w K Q := by
  rw [← hP]
  obtain ⟨dst, op, type, pos, after, guard⟩ := o
  cases op <;> simp only [symOp, reduceCtorEq, ← hP] at hd
  case move p =>
    obtain ⟨s, h1, rfl⟩ := Option.map_eq_some_iff.1 hd
    exact hK _ _ (Fine.val hs (hρ p s h1))
  case assign p =>
    obtain ⟨s, h1, rfl⟩ := Option.map_eq_some_iff.1 hd
    exact hK _ _ (Fine.val hs (hρ p s h1))
  case pick c p q =>
    obtain ⟨s, h1, rfl⟩ := Option.map_eq_some_iff.1 hd
    obtain ⟨t, h2, h3⟩ := symPick'_ok h1 hn hρ hρc hkn
    refine wp_val (m := do pure (if ← asBool (a.eval c) then a.eval p else a.eval q)) (d := .val s) (by simp [execOp]) ⟨_, x.w, by simp [h2, asBool], Fine.val hs h3⟩ hK
  case alloc T => exact wp_val rfl (symAlloc_ok hs hd) hK
  case box T v =>
    obtain ⟨s, h1, hd⟩ := Option.bind_eq_some_iff.1 hd
    exact wp_val rfl (symBox_ok hs hd (lk1_ok hρ h1)) hK
  case build t ps =>
    obtain ⟨l, h1, hd⟩ := Option.bind_eq_some_iff.1 hd
    obtain ⟨r, h2, rfl⟩ := Option.map_eq_some_iff.1 hd
    have hp := lkParts_ok hs hρ h1
    obtain ⟨c, h3, h4⟩ := symBuild_ok h2 (vs := ps.map fun p => (p.1, a.eval p.2)) (by simpa using hp) x.w
    exact wp_val (m := Instr.build t (ps.map fun (i, x) => (i, a.eval x))) (d := .val (.agg r)) rfl ⟨_, _, h3, Fine.val hs ⟨c, rfl, h4⟩⟩ hK
  case buildSlice t m ps =>
    obtain ⟨l, h1, hd⟩ := Option.bind_eq_some_iff.1 hd
    have hp := lkParts_ok hs hρ h1
    exact wp_val (m := Instr.buildSlice t m (ps.map fun (i, x) => (i, a.eval x))) rfl (symBuildSlice_ok hs hd (vs := ps.map fun p => (p.1, a.eval p.2)) (by simpa using hp)) hK
  case load t p =>
    obtain ⟨s, h1, hd⟩ := Option.bind_eq_some_iff.1 hd
    obtain ⟨r, h2, rfl⟩ := Option.map_eq_some_iff.1 hd
    obtain ⟨v, h3, h4⟩ := symLoad_ok hs h2 (lkv_ok hρ h1)
    exact wp_val (d := .val r) rfl ⟨v, _, h3, Fine.val hs h4⟩ hK
  case store t p q =>
    obtain ⟨s, h1, hd⟩ := Option.bind_eq_some_iff.1 hd
    obtain ⟨y, h2, hd⟩ := Option.bind_eq_some_iff.1 hd
    obtain ⟨⟨oid, ob⟩, h3, rfl⟩ := Option.map_eq_some_iff.1 hd
    exact wp_unit (d := ⟨[], skipSlot, .put oid ob⟩) rfl (symStore_ok hs h3 (lkv_ok hρ h1) (lk1_ok hρ h2)) hK
  case nilCheck p =>
    obtain ⟨s, h1, hd⟩ := Option.bind_eq_some_iff.1 hd
    simp only [Option.ite_none_right_eq_some, Option.some.injEq] at hd
    obtain ⟨h2, rfl⟩ := hd
    have hg1 := lkv_ok hρ h1
    have : (execOp a.eval ⟨dst, .nilCheck p, type, pos, after, guard⟩) = (do pure (.value (← (pure (a.eval p) : Sem Value)))) := by
      rcases sure_ok h2 hg1 with ⟨b, c, hv⟩ | ⟨f, b, c, hv⟩ <;> simp [execOp, hv]
    exact wp_val (d := .val (.one s)) this ⟨_, _, rfl, Fine.val hs hg1⟩ hK
  case binOp op t p q t2 =>
    obtain ⟨s1, h1, hd⟩ := Option.bind_eq_some_iff.1 hd
    obtain ⟨s2, h2, hd⟩ := Option.bind_eq_some_iff.1 hd
    have g1 := lk1_ok hρ h1
    have g2 := lk1_ok hρ h2
    split at hd
    · rename_i d0 hnil
      cases hd
      obtain ⟨hgd, v, hrun, hv⟩ := symNil_ok (p := p) hnil g1 x.w
      refine wp_val (m := do eqGuard op t p q (a.eval p) (a.eval q); binOp op t (a.eval p) (a.eval q)) rfl ⟨v, _, ?_, hv hs⟩ hK
      obtain ⟨rfl⟩ := hgd
      simp only [Act.eval] at hrun ⊢
      exact hrun
    unfold symBinOp at hd
    split at hd
    · rename_i l m
      obtain ⟨r, h3, rfl⟩ := Option.map_eq_some_iff.1 hd
      obtain ⟨c1, e1, k1⟩ := g1
      obtain ⟨c2, e2, k2⟩ := g2
      obtain ⟨h4, v, h5, h6⟩ := symEq_ok h3 k1 k2 p q x.w
      refine wp_val (m := do eqGuard op t p q (a.eval p) (a.eval q); binOp op t (a.eval p) (a.eval q)) (d := .val (.one r)) rfl ⟨v, _, ?_, Fine.val hs h6⟩ hK
      rw [e1, e2]
      simp [h4, h5]
    · rename_i s t'
      obtain ⟨⟨gs, r⟩, h3, rfl⟩ := Option.map_eq_some_iff.1 hd
      obtain ⟨v, h5, h6⟩ := symBin_ok h3 g1 g2 hg t x.w
      refine wp_val (m := do eqGuard op t p q (a.eval p) (a.eval q); binOp op t (a.eval p) (a.eval q)) (d := ⟨gs, .v (.one r), .keep⟩) rfl ⟨v, _, ?_, Fine.val hs h6⟩ hK
      simp [eqGuard_one h3 g1 g2, h5]
    · cases hd
  case unOp op t p =>
    obtain ⟨s, h1, hd⟩ := Option.bind_eq_some_iff.1 hd
    obtain ⟨r, h2, rfl⟩ := Option.map_eq_some_iff.1 hd
    obtain ⟨u, h3, h4⟩ := symUn_ok h2 (lkv_ok hρ h1) x.w
    exact wp_val (d := .val (.one r)) rfl ⟨u, _, h3, Fine.val hs h4⟩ hK
  case makeInterface t p =>
    simp only [Option.ite_none_right_eq_some, Option.some.injEq] at hd
    obtain ⟨h1, rfl⟩ := hd
    refine wp_val (d := .val (.one (.ifc (.blit false)))) rfl ⟨.iface t (a.eval p), x.w, ?_, Fine.val hs ⟨rfl, fun h => (by cases h), fun _ => ⟨_, _, rfl⟩⟩⟩ hK
    unfold nonIface at h1
    split at h1
    · cases h1
    · rename_i d0 hd0 hu
      simp only [Instr.makeInterface, Sem.run_bind, run_underlying hu, Result.andThen_ok]
      rfl
    · cases h1
  case convert t u p =>
    obtain ⟨s, h1, hd⟩ := Option.bind_eq_some_iff.1 hd
    split at hd
    · rename_i r h2
      cases hd
      obtain ⟨u, h3, h4⟩ := symConv_ok hs h2 (lkv_ok hρ h1)
      exact wp_val (d := .val (.one r)) rfl ⟨u, _, h3, Fine.val hs h4⟩ hK
    · exact wp_val rfl (symBytes_ok hs hd (lkv_ok hρ h1)) hK
  case makeFunc fn first caps =>
    cases fn <;> simp only [reduceCtorEq] at hd
    obtain ⟨l1, h1, hd⟩ := Option.bind_eq_some_iff.1 hd
    obtain ⟨r1, h2, hd⟩ := Option.bind_eq_some_iff.1 hd
    obtain ⟨l2, h3, hd⟩ := Option.bind_eq_some_iff.1 hd
    obtain ⟨r2, h4, rfl⟩ := Option.map_eq_some_iff.1 hd
    refine wp_val (d := .val (.one (.fn _ r1 r2))) rfl ⟨_, x.w, rfl, Fine.val hs ?_⟩ hK
    exact ⟨_, _, rfl, by have := symPtrs_ok h2 (lks_ok hρ h1); rwa [← Array.toList_map, Array.toArray_toList] at this, by have := symPtrs_ok h4 (lks_ok hρ h3); rwa [← Array.toList_map, Array.toArray_toList] at this⟩
  case slice t p lo hi mx =>
    cases mx <;> simp only [reduceCtorEq] at hd
    obtain ⟨s, h1, hd⟩ := Option.bind_eq_some_iff.1 hd
    obtain ⟨l, h2, hd⟩ := Option.bind_eq_some_iff.1 hd
    obtain ⟨h, h3, hd⟩ := Option.bind_eq_some_iff.1 hd
    obtain ⟨⟨gs, r⟩, h4, rfl⟩ := Option.map_eq_some_iff.1 hd
    obtain ⟨v, h5, h6⟩ := symSlice_ok hs h4 (lkv_ok hρ h1) (lko_ok hρ h2) (lko_ok hρ h3) hg
    exact wp_val (d := ⟨gs, .v (.one r), .keep⟩) rfl ⟨v, _, h5, Fine.val hs h6⟩ hK
  case fieldAddr t p f =>
    obtain ⟨s, h1, hd⟩ := Option.bind_eq_some_iff.1 hd
    simp only [Option.ite_none_right_eq_some] at hd
    obtain ⟨h2, hd⟩ := hd
    obtain ⟨r, h3, rfl⟩ := Option.map_eq_some_iff.1 hd
    have g1 := lkv_ok hρ h1
    rcases sure_ok h2 g1 with hv | ⟨f', b, c, hv⟩
    · obtain ⟨v, h5, h6⟩ := symFieldAddr_ok h3 g1 hv x.w
      exact wp_val (d := .val (.one r)) rfl ⟨v, _, h5, Fine.val hs h6⟩ hK
    · exfalso
      unfold symFieldAddr at h3
      obtain ⟨⟨off, ft, nn⟩, _, h3⟩ := Option.bind_eq_some_iff.1 h3
      rw [hv] at g1
      cases s <;> simp only [reduceCtorEq] at h3
      · obtain ⟨_, hg2⟩ := g1
        obtain ⟨T, l, fz, hl⟩ := isCells_spec h2
        obtain ⟨b, _, hb⟩ := hg2 T l fz hl
        cases hb
      · simp only [sure, curVer] at h2
        split at h2
        · rename_i T e u hl
          obtain ⟨_, _, _, _, _, _, _, _, hb⟩ := (g1.2.2 T e u hl).2 (by simpa using h2)
          cases hb
        · cases h2
      · obtain ⟨_, _, _, _, _, _, _, _, _, _, _, hb⟩ := g1
        cases hb
  case field t p f =>
    obtain ⟨s, h1, hd⟩ := Option.bind_eq_some_iff.1 hd
    obtain ⟨r, h2, rfl⟩ := Option.map_eq_some_iff.1 hd
    obtain ⟨v, h5, h6⟩ := symField_ok h2 (lk1_ok hρ h1) x.w
    exact wp_val (d := .val r) rfl ⟨v, _, h5, Fine.val hs h6⟩ hK
  case indexAddr t p i =>
    obtain ⟨s, h1, hd⟩ := Option.bind_eq_some_iff.1 hd
    obtain ⟨j, h2, hd⟩ := Option.bind_eq_some_iff.1 hd
    simp only [Option.ite_none_right_eq_some] at hd
    obtain ⟨hsu, hd⟩ := hd
    obtain ⟨⟨gs, r⟩, h3, rfl⟩ := Option.map_eq_some_iff.1 hd
    have g1 := lkv_ok hρ h1
    obtain ⟨v, h5, h6⟩ := symIndexAddr_ok hs h3 g1 (lkv_ok hρ h2) hg (fun oid off hq => by
      subst hq
      rcases sure_ok hsu g1 with hv | ⟨f, b, c, hv⟩
      · exact hv
      · exfalso
        obtain ⟨T, l, fz, hl⟩ := isCells_spec hsu
        obtain ⟨b, _, hb⟩ := g1.2 T l fz hl
        rw [hv] at hb
        cases hb) x.w
    exact wp_val (d := ⟨gs, .v (.one r), .keep⟩) rfl ⟨v, _, h5, Fine.val hs h6⟩ hK
  case index t p i =>
    obtain ⟨s, h1, hd⟩ := Option.bind_eq_some_iff.1 hd
    obtain ⟨j, h2, hd⟩ := Option.bind_eq_some_iff.1 hd
    obtain ⟨⟨gs, r⟩, h3, rfl⟩ := Option.map_eq_some_iff.1 hd
    obtain ⟨v, h5, h6⟩ := symIndex_ok h3 (lk1_ok hρ h1) (lkv_ok hρ h2) hg x.w
    exact wp_val (d := ⟨gs, .v r, .keep⟩) rfl ⟨v, _, h5, Fine.val hs h6⟩ hK
  case extract t i =>
    obtain ⟨s, h1, hd⟩ := Option.bind_eq_some_iff.1 hd
    have g1 := hρ t s h1
    split at hd
    · rename_i l
      obtain ⟨r, h2, rfl⟩ := Option.map_eq_some_iff.1 hd
      obtain ⟨c, hv, hn', hl⟩ := g1
      have hi : i < c.size := by rw [hn']; exact (List.getElem?_eq_some_iff.1 h2).1
      refine wp_val (d := .val r) rfl ⟨c.getD i undef, x.w, ?_, Fine.val hs (hl i r h2)⟩ hK
      simp [hv, Instr.extract, hi]
    · cases hd
  case call c =>
    rw [hP]
    exact op_call_ok hsig hP hs (o := ⟨dst, .call c, type, pos, after, guard⟩) (k := k) (base := base) (n := n) (ρc := ρc) (kn := kn) rfl (by rw [hP] at hd; exact hd) hρ hg hcall hK

end
end Glx
