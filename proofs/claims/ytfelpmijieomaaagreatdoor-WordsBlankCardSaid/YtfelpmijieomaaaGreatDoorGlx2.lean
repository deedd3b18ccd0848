import Derived.Test.YtfelpmijieomaaaGreatDoorGlx1
import Derived.Lib.ConvBytes
import Derived.Orders
import Derived.Test.YtfelpmijieomaaaGreatDoorGlx0
namespace Glx
open Go

section
variable {C : Cfg} {x : Env} {w0 : World} {M : Nat → Prop} {ρ : Lk} {a : Act} {o : Oper} {K : Act → World → Prop} {Q : Exit → Act → World → Prop} {d : Done}

theorem wp_val {m : Sem Value} (he : execOp a.eval o = (do pure (.value (← m)))) (hm : ∃ v w', m.run x.P x.w = .ok v w' ∧ Fine C x w0 M d v w')
    (hK : ∀ v w', Fine C x w0 M d v w' → K (a.put o.dst v) w') : o.wp x.P a x.w K Q := by
  obtain ⟨v, w', h1, h2⟩ := hm
  unfold Oper.wp
  rw [he]
  simp only [Sem.run_bind, h1, Result.andThen_ok, Sem.run_pure, Oper.upon]
  exact hK v w' h2

theorem wp_unit {m : Sem Unit} (he : execOp a.eval o = (do m; pure .skip)) (hm : ∃ w', m.run x.P x.w = .ok () w' ∧ ∀ u, Fine C x w0 M d u w')
    (hK : ∀ v w', Fine C x w0 M d v w' → K (a.put o.dst v) w') : o.wp x.P a x.w K Q := by
  obtain ⟨w', h1, h2⟩ := hm
  unfold Oper.wp
  rw [he]
  simp only [Sem.run_bind, h1, Result.andThen_ok, Sem.run_pure, Oper.upon]
  exact hK _ w' (h2 _)

theorem eqGuard_one {op : BinOp} {sa sb s : SV} {gs : List Ex} (h : symBin op sa sb = some (gs, s)) {va vb : Value} (ha : G x sa va) (hb : G x sb vb) (t : TypeId) (xo yo : Operand) (P : Program) (w : World) :
    (eqGuard op t xo yo va vb).run P w = .ok () w := by
  unfold symBin at h
  split at h
  · obtain ⟨_, rfl⟩ := ha
    obtain ⟨_, rfl⟩ := hb
    cases op <;> simp [eqGuard]
  · obtain ⟨_, rfl⟩ := ha
    obtain ⟨_, rfl⟩ := hb
    cases op <;> simp [eqGuard]
  · cases h

/-- a call's facts -/
structure CallFact (Φ : Nat → List D → Option (List D)) (C : Cfg) (e : List D) (f : Nat) (h : Hand) : Prop where
  sc : ∀ u ∈ h.us, u.sc e.length = true
  fact : ∃ s ds, C.sig f = some s ∧ Φ f (dens e h.us) = some ds ∧ ∀ i, i < ds.length → h.base + i < e.length ∧ e.getD (h.base + i) default = ds.getD i default

structure SigOk (C : Cfg) (Φ : Nat → List D → Option (List D)) : Prop where
  enters : ∀ f, C.of f ≠ [] → ∀ args w, (callFunc f args).run C.P w = .ok (.enter f args) w
  impl : ∀ f cid s, cid ∈ C.of f → C.sig cid = some s → Impl C.P f s (Φ cid)
  len : ∀ f s, C.sig f = some s → ∀ as ds, Φ f as = some ds → ds.length = s.outN

theorem tryCall_ok {C : Cfg} {H : List SObj} {k base : Nat} {As : List Slot} {d : Done} : ∀ {l : List Nat}, tryCall C H k base As l = some d →
    ∃ cid s, cid ∈ l ∧ C.sig cid = some s ∧ callOk C.P (mkHand s H As k base) s H As = true ∧ d = ⟨[], (mkHand s H As k base).renS s s.outS, .call cid (mkHand s H As k base)⟩
  | [], h => by cases h
  | cid :: l, h => by
    simp only [tryCall] at h
    have rest : tryCall C H k base As l = some d → ∃ cid' s, cid' ∈ cid :: l ∧ C.sig cid' = some s ∧ callOk C.P (mkHand s H As k base) s H As = true ∧ d = ⟨[], (mkHand s H As k base).renS s s.outS, .call cid' (mkHand s H As k base)⟩ := fun h => by
      obtain ⟨c, s, h1, h2⟩ := tryCall_ok h
      exact ⟨c, s, List.mem_cons_of_mem _ h1, h2⟩
    split at h
    · rename_i s hs
      split at h
      · rename_i hk
        cases h
        exact ⟨cid, s, List.mem_cons_self .., hs, hk, rfl⟩
      · exact rest h
    · exact rest h

theorem symPtrs_ok : ∀ {l : List Slot} {r : List (Nat × Nat)} {vs : List Value}, symPtrs l = some r → (vs.length = l.length ∧ ∀ i t, l[i]? = some t → GS x t (vs.getD i undef)) → ptrsTo x r vs.toArray
  | [], r, vs, h, hg => by cases h; exact ⟨hg.1, fun j p hj => by simp at hj⟩
  | s :: l, r, vs, h, hg => by
    unfold symPtrs at h
    split at h
    · rename_i h0; cases h0
    · rename_i oid off l' h0
      cases h0
      obtain ⟨r', h1, rfl⟩ := Option.map_eq_some_iff.1 h
      cases vs with
      | nil => have := hg.1; simp at this
      | cons v vs =>
        have ih := symPtrs_ok h1 (vs := vs) ⟨by have := hg.1; simpa using this, fun i t hi => by simpa using hg.2 (i + 1) t (by simpa using hi)⟩
        refine ⟨by have := ih.1; simpa using this, fun j p hj => ?_⟩
        cases j with
        | zero => simp only [List.getElem?_cons_zero, Option.some.injEq] at hj; subst hj; exact hg.2 0 _ rfl
        | succ j => simpa using ih.2 j p (by simpa using hj)
    · cases h

theorem ptrSlots_ok {l : List (Nat × Nat)} {c : Array Value} (h : ptrsTo x l c) : c.toList.length = (ptrSlots l).length ∧ ∀ i t, (ptrSlots l)[i]? = some t → GS x t (c.toList.getD i undef) := by
  refine ⟨by simpa [ptrSlots] using h.1, fun i t hi => ?_⟩
  simp only [ptrSlots, List.getElem?_map, Option.map_eq_some_iff] at hi
  obtain ⟨p, h1, rfl⟩ := hi
  show ptrTo x p _
  simpa [Array.getD_eq_getD_getElem?, List.getD_eq_getElem?_getD] using h.2 i p h1

theorem slots_append {l m : List Slot} {a b : List Value} (h1 : a.length = l.length ∧ ∀ i t, l[i]? = some t → GS x t (a.getD i undef)) (h2 : b.length = m.length ∧ ∀ i t, m[i]? = some t → GS x t (b.getD i undef)) :
    (a ++ b).length = (l ++ m).length ∧ ∀ i t, (l ++ m)[i]? = some t → GS x t ((a ++ b).getD i undef) := by
  refine ⟨by simp [h1.1, h2.1], fun i t hi => ?_⟩
  rcases Nat.lt_or_ge i l.length with h | h
  · rw [List.getElem?_append_left h] at hi
    have := h1.2 i t hi
    simpa [List.getD_eq_getElem?_getD, List.getElem?_append_left (show i < a.length by omega)] using this
  · rw [List.getElem?_append_right h] at hi
    have := h2.2 _ t hi
    simpa [List.getD_eq_getElem?_getD, List.getElem?_append_right (show a.length ≤ i by omega), h1.1] using this

theorem symBytes_ok (hs : Sat x w0 M) {src dst : TypeId} {s : SV} (h : symBytes x.P src dst s = some d) {v : Value} (hg : G x s v) : ∃ u w', (convert src dst v).run x.P x.w = .ok u w' ∧ Fine C x w0 M d u w' := by
  unfold symBytes at h
  split at h
  · rename_i E e hsrc hdst
    simp only [Option.ite_none_right_eq_some, Option.some.injEq] at h
    obtain ⟨⟨hts, hu8⟩, rfl⟩ := h
    have hE : x.P.underlying E = some (.int .u8) := by
      split at hu8
      · assumption
      · cases hu8
    obtain ⟨hsc, rfl⟩ := hg
    generalize hstr : (e.den x.e).str = s
    refine ⟨_, _, Lib.run_convert_string_bytes x.w src dst E s hsrc hdst hE, ?_⟩
    have hsz := Lib.bytesWorld_size x.w E s
    have hold := Lib.bytesWorld_at_old x.w E s
    generalize hy : ({ x with I := fun b => x.I b ∨ b = x.w.heap.size, w := Lib.bytesWorld x.w E s } : Env) = y
    have yw : y.w = Lib.bytesWorld x.w E s := by rw [← hy]
    have yI : ∀ b, y.I b ↔ x.I b ∨ b = x.w.heap.size := fun b => by rw [← hy]
    have yP : y.P = x.P := by rw [← hy]
    have ye : y.e = x.e := by rw [← hy]
    have yH : y.H = x.H := by rw [← hy]
    have yν : y.ν = x.ν := by rw [← hy]
    have hext : Ext x y := by
      refine ⟨yP, fun b hb => (yI b).2 (.inl hb), ⟨[], by simp [ye]⟩, fun b hb => by rw [yw]; exact hold b (hs.ibound b hb), fun o h => by rw [yH]; exact h, fun o T l fz _ h => ?_, fun o T e u _ h => ?_⟩
      · rw [yH] at h; rw [yν]; exact ⟨⟨l, fz, h⟩, rfl⟩
      · rw [yH] at h; rw [yν]; exact ⟨e, u, h, Nat.le_refl _, fun _ => rfl⟩
    refine ⟨y, yw, ye, yP, fun p => by rw [yH]; rfl, fun b hb => ?_, ?_, hext, ?_⟩
    · rcases (yI b).1 hb with hb | hb
      · exact .inl hb
      · exact .inr (.inl (by omega))
    · refine Sat.step hs hext (fun _ => False) (fun o _ => ⟨by rw [yH], by rw [yν]⟩) (fun o b _ hl hb => ?_) (fun _ h => h.elim) (fun _ _ _ h => h.elim) (fun b hb => ?_) (fun _ _ h => h.elim) ?_
      · have hlt := live_blk_lt hs hl hb
        refine ⟨by rw [yw]; exact hold b hlt, fun h => ?_, fun h => (yI b).2 (.inl h)⟩
        rcases (yI b).1 h with h | h
        · exact h
        · omega
      · rw [yw, hsz]
        rcases (yI b).1 hb with hb | hb
        · have := hs.ibound b hb; omega
        · omega
      · have hf := hs.frame
        refine ⟨by rw [yw]; exact hf.os, by rw [yw]; exact hf.tape, by rw [yw]; exact hf.output, by rw [yw, hsz]; have := hf.size; omega, fun b hb hm => ?_⟩
        rw [yw, hold b (Nat.lt_of_lt_of_le hb hf.size)]
        exact hf.block b hb hm
    · have hbl : ((Ex.bytes e).den x.e).rows.length = s.size := by simp [Ex.den, bytesOf, hstr]
      refine ⟨by rw [ye]; exact hsc, ?_⟩
      rw [yP, ye, yw]
      refine .row hts ((yI _).2 (.inr rfl)) (Lib.bytesWorld_at_new x.w E s) hbl (grownCap_ge x.w s.size 0 E) (by simp [Lib.bytesCells]) (fun r hr => ?_) (fun i j t hi ht => ?_)
      · simp only [Ex.den, D.rows_l, bytesOf, List.mem_map] at hr
        obtain ⟨_, _, rfl⟩ := hr
        rfl
      · have hj : j = 0 := by have := (List.getElem?_eq_some_iff.1 ht).1; simp only [List.length_singleton] at this; omega
        subst hj
        simp only [List.getElem?_cons_zero, Option.some.injEq] at ht
        subst ht
        have hi0 : i < s.size := hi
        have hi' : i < s.data.size := hi0
        have g0 : s.data[i]? = some s.data[i] := Array.getElem?_eq_getElem hi'
        have e1 : (Lib.bytesCells x.w E s).getD (0 + i * [LTy.int .u8].length + 0) undef = .int .u8 (s.data[i].toNat) := by
          simp [Lib.bytesCells, hi0, Array.getElem?_append]
        have e2 : ((((Ex.bytes e).den x.e).rows).getD i []).getD 0 default = D.i (s.data[i].toNat) := by
          simp [Ex.den, bytesOf, hstr, g0]
        rw [e1, e2]
        exact @Rd.int _ _ _ .u8 (D.i (s.data[i].toNat))
  · cases h

theorem run_nil_ifc {P : Program} (w : World) {t : TypeId} {ms : Array (String × TypeId)} (ht : P.underlying t = some (.interface ms)) (v : Value) (b : Bool) (h : (b = true ∧ v = .nilIface) ∨ (b = false ∧ ∃ t' u, v = .iface t' u)) :
    (binOp .eql t v .nilIface).run P w = .ok (.bool b) w ∧ (binOp .neq t v .nilIface).run P w = .ok (.bool (!b)) w := by
  have hd : ∀ d : Nat, (Op.equalIn (d + 1) t v .nilIface).run P w = .ok b w := fun d => by
    rcases h with ⟨rfl, rfl⟩ | ⟨rfl, t', u, rfl⟩ <;> simp [Op.equalIn, run_underlying ht]
  rcases h with ⟨rfl, rfl⟩ | ⟨rfl, t', u, rfl⟩
  · constructor
    · simp only [binOp]
      simp [Op.equal, Op.maxDepth, hd 9999]
    · simp only [binOp]
      simp [Op.equal, Op.maxDepth, hd 9999]
  · constructor
    · simp only [binOp]
      simp [Op.equal, Op.maxDepth, hd 9999]
    · simp only [binOp]
      simp [Op.equal, Op.maxDepth, hd 9999]

theorem run_nil_guard {P : Program} (w : World) (op : BinOp) (t : TypeId) (p : Operand) (v : Value) (h : v = .nilIface ∨ ∃ t' u, v = .iface t' u) : (eqGuard op t p (.const .nilIface) v .nilIface).run P w = .ok () w := by
  rcases h with rfl | ⟨t', u, rfl⟩ <;> cases op <;> simp [eqGuard]

theorem symNil_ok {op : BinOp} {t : TypeId} {p y : Operand} {s : S1} (h : symNil x.P op t y s = some d) {v : Value} (hg : G1 x s v) (w : World) :
    y = .const .nilIface ∧ ∃ u, (do eqGuard op t p (.const .nilIface) v .nilIface; binOp op t v .nilIface : Sem Value).run x.P w = .ok u w ∧ (Sat x w0 M → Fine C x w0 M d u x.w) := by
  unfold symNil at h
  split at h
  · rename_i ms e hu
    refine ⟨rfl, ?_⟩
    obtain ⟨h1, h2, h3⟩ := hg
    have hv : ((e.den x.e).bool = true ∧ v = .nilIface) ∨ ((e.den x.e).bool = false ∧ ∃ t' u, v = .iface t' u) := by
      cases hb : (e.den x.e).bool with
      | true => exact .inl ⟨rfl, h2 hb⟩
      | false => exact .inr ⟨rfl, h3 hb⟩
    obtain ⟨r1, r2⟩ := run_nil_ifc w hu v _ hv
    have hgd : ∀ op, (eqGuard op t p (.const .nilIface) v .nilIface).run x.P w = .ok () w := fun op => run_nil_guard w op t p v (hv.imp (·.2) (·.2))
    split at h
    · cases h
      exact ⟨_, by simp [hgd, r1], fun hs => Fine.val hs ⟨h1, rfl⟩⟩
    · cases h
      exact ⟨.bool (!(e.den x.e).bool), by simp [hgd, r2], fun hs => Fine.val hs ⟨by rw [mkNo_sc]; exact h1, by rw [mkNo_den]⟩⟩
    · cases h
  · cases h

theorem OG.none : OG x none none := trivial

theorem list_one {vs : List Value} {s : S1} (h : vs.length = 1 ∧ ∀ i t, [Slot.v s][i]? = some t → GS x t (vs.getD i undef)) : ∃ v, vs = [v] ∧ G1 x s v := by
  match vs, h with
  | [v], h => exact ⟨v, rfl, h.2 0 _ rfl⟩

theorem list_two {vs : List Value} {s y : SV} (h : vs.length = 2 ∧ ∀ i t, [Slot.v (.one s), .v (.one y)][i]? = some t → GS x t (vs.getD i undef)) : ∃ v u, vs = [v, u] ∧ G x s v ∧ G x y u := by
  match vs, h with
  | [v, u], h => exact ⟨v, u, rfl, h.2 0 _ rfl, h.2 1 _ rfl⟩

theorem symBuiltin_ok (hs : Sat x w0 M) {k : Nat} {b : Builtin} {ts : List TypeId} {as : List Slot} (hd : symBuiltin x.P x.H k b ts as = some d) {vs : List Value}
    (hv : vs.length = as.length ∧ ∀ i t, as[i]? = some t → GS x t (vs.getD i undef)) (hg : ∀ c ∈ d.gs, (c.den x.e).bool = true) (ty : TypeId) (cs : Array Bool) :
    ∃ m : Sem Value, builtin b ts.toArray ty cs vs.toArray = (do pure (.value (← m))) ∧ ∃ u w', m.run x.P x.w = .ok u w' ∧ Fine C x w0 M d u w' := by
  obtain ⟨tsa, htsa⟩ : ∃ a, a = ts.toArray := ⟨_, rfl⟩
  rw [← htsa]
  cases b <;> simp only [symBuiltin, reduceCtorEq] at hd
  case len =>
    subst htsa
    split at hd
    · obtain ⟨r, h3, rfl⟩ := Option.map_eq_some_iff.1 hd
      obtain ⟨v, rfl, h4⟩ := list_one hv
      obtain ⟨u, h5, h6⟩ := symLen_ok (ty := ty) hs h3 h4 x.w
      exact ⟨_, rfl, u, _, h5, Fine.val hs h6⟩
    all_goals first | cases hd | (rename_i hq; cases hq)
  case append =>
    subst htsa
    split at hd
    · rename_i hq; cases hq
    · obtain ⟨v, u, rfl, h4, h5⟩ := list_two hv
      exact ⟨_, rfl, symApp_ok hs hd h4 h5 hg⟩
    all_goals first | cases hd | (rename_i hq; cases hq)
  case max =>
    split at hd
    · rename_i hq; cases hq
    · rename_i hq; cases hq
    · obtain ⟨r, h3, rfl⟩ := Option.map_eq_some_iff.1 hd
      obtain ⟨v, u, rfl, h4, h5⟩ := list_two hv
      refine ⟨Builtin.max_ _ ty _, rfl, ?_⟩
      obtain ⟨q, h6, h7⟩ := symExt_ok h3 h4 h5 tsa ty x.w
      exact ⟨q, _, h6, Fine.val hs h7⟩
    all_goals first | cases hd | (rename_i hq; cases hq)
  case min =>
    split at hd
    · rename_i hq; cases hq
    · rename_i hq; cases hq
    · rename_i hq; cases hq
    · obtain ⟨r, h3, rfl⟩ := Option.map_eq_some_iff.1 hd
      obtain ⟨v, u, rfl, h4, h5⟩ := list_two hv
      refine ⟨Builtin.min_ _ ty _, rfl, ?_⟩
      obtain ⟨q, h6, h7⟩ := symExt_ok h3 h4 h5 tsa ty x.w
      exact ⟨q, _, h6, Fine.val hs h7⟩
    all_goals first | cases hd | (rename_i hq; cases hq)

theorem op_call_ok {Φ : Nat → List D → Option (List D)} (hsig : SigOk C Φ) (hP : x.P = C.P) (hs : Sat x w0 M) {k base : Nat} {c : Call} (hop : o.op = .call c) {n : Nat} {ρc : Ex → Bool → Lk} {kn : Ex → Option Bool}
    (hd : symOp C x.H n ρ ρc kn k base (.call c) = some d) (hρ : LkOk x ρ a.eval) (hg : ∀ c ∈ d.gs, (c.den x.e).bool = true)
    (hcall : ∀ f h, d.ef = .call f h → CallFact Φ C x.e f h) (hK : ∀ v w', Fine C x w0 M d v w' → K (a.put o.dst v) w') : o.wp C.P a x.w K Q := by
  obtain ⟨dst, op, type, pos, after, guard⟩ := o
  obtain rfl := hop
  obtain ⟨callee, args, argTypes⟩ := c
  simp only [symOp] at hd
  cases callee with
  | value f =>
    simp only at hd
    obtain ⟨s, h1, hd⟩ := Option.bind_eq_some_iff.1 hd
    obtain ⟨as, h2, hd⟩ := Option.bind_eq_some_iff.1 hd
    cases s with
    | fn fid r1 r2 =>
      simp only [symCall] at hd
      obtain ⟨cid, sg, hmem, h3, h4, rfl⟩ := tryCall_ok hd
      obtain ⟨va, vc, hv, g1, g2⟩ := lkv_ok hρ h1
      obtain ⟨sg', ds, k1, k2, k3⟩ := (hcall _ _ rfl).fact
      rw [h3] at k1
      cases k1
      have hargs := slots_append (slots_append (ptrSlots_ok g1) (lks_ok hρ h2)) (ptrSlots_ok g2)
      obtain ⟨_, hcalls⟩ := call_ok (h := mkHand sg x.H (ptrSlots r1 ++ as ++ ptrSlots r2) k base) (s := sg) (K := fid) (args := va ++ args.map a.eval ++ vc) hs (by rw [hP]; exact h4) (by rw [hP]; exact hsig.impl _ _ _ hmem h3)
        ⟨by simpa using hargs.1, fun i t hi => by simpa [Array.getD_eq_getD_getElem?, List.getD_eq_getElem?_getD, ← Array.getElem?_toList] using hargs.2 i t hi⟩ k2 k3
      have hexec : (execOp a.eval ⟨dst, .call ⟨.value f, args, argTypes⟩, type, pos, after, guard⟩).run C.P x.w = .ok (.enter fid (va ++ args.map a.eval ++ vc)) x.w := by
        have := hsig.enters fid (fun h => by rw [h] at hmem; cases hmem) (va ++ args.map a.eval ++ vc) x.w
        simp only [execOp, resolve, hv, Deferred.ofValue, invoke, Sem.run_bind, Sem.run_pure, Result.andThen_ok]
        exact this
      unfold Oper.wp
      rw [hexec]
      rw [hP] at hcalls
      simp only [Oper.upon]
      refine hcalls.mono ?_
      rintro e w' ⟨v, z', rfl, q1, q2, q3, q4, qb, q5, q6, q7⟩
      exact hK v w' ⟨z', q1, q2, by rw [q3, hP], fun p => by rw [q4]; simp only [Ef.mod, h3]; generalize (mkHand sg x.H (ptrSlots r1 ++ as ++ ptrSlots r2) k base).corr sg p = q; cases q <;> rfl, qb, q5, q6, q7⟩
    | _ => cases hd
  | builtin b =>
    simp only [← hP] at hd
    obtain ⟨as, h2, hd⟩ := Option.bind_eq_some_iff.1 hd
    obtain ⟨m, h3, h4⟩ := symBuiltin_ok (C := C) hs hd (lks_ok hρ h2) hg type (args.map fun | .const _ => true | _ => false)
    rw [← hP]
    refine wp_val (m := m) (C := C) (M := M) (w0 := w0) (d := d) ?_ h4 hK
    simp only [Array.toArray_toList, ← Array.toList_map] at h3
    simp only [execOp, resolve, invoke, pure_bind]
    exact h3
  | invoke r m => cases hd

set_option maxHeartbeats 1000000 in
theorem op_ok {Φ : Nat → List D → Option (List D)} (hsig : SigOk C Φ) (hP : x.P = C.P) (hs : Sat x w0 M) {n : Nat} (hn : n ≤ x.e.length) {ρc : Ex → Bool → Lk} {kn : Ex → Option Bool} {k base : Nat}
    (hd : symOp C x.H n ρ ρc kn k base o.op = some d) (hρ : LkOk x ρ a.eval) (hρc : ∀ e t, (e.den x.e).bool = t → LkOk x (ρc e t) a.eval) (hkn : ∀ e b, kn e = some b → (e.den x.e).bool = b) (hg : ∀ c ∈ d.gs, (c.den x.e).bool = true)
    (hcall : ∀ f h, d.ef = .call f h → CallFact Φ C x.e f h) (hK : ∀ v w', Fine C x w0 M d v w' → K (a.put o.dst v) w') : o.wp C.P a x.w K Q := by
  rw [← hP]
  obtain ⟨dst, op, type, pos, after, guard⟩ := o
  cases op <;> simp only [symOp, reduceCtorEq, ← hP] at hd
  case move p =>
    obtain ⟨s, h1, rfl⟩ := Option.map_eq_some_iff.1 hd
    exact hK _ _ (Fine.val hs (hρ p s h1))
  case assign p =>
    obtain ⟨s, h1, rfl⟩ := Option.map_eq_some_iff.1 hd
    exact hK _ _ (Fine.val hs (hρ p s h1))
  case pick c p q =>
    obtain ⟨s, h1, rfl⟩ := Option.map_eq_some_iff.1 hd
    obtain ⟨t, h2, h3⟩ := symPick'_ok h1 hn hρ hρc hkn
    refine wp_val (m := do pure (if ← asBool (a.eval c) then a.eval p else a.eval q)) (d := .val s) (by simp [execOp]) ⟨_, x.w, by simp [h2, asBool], Fine.val hs h3⟩ hK
  case alloc T => exact wp_val rfl (symAlloc_ok hs hd) hK
  case box T v =>
    obtain ⟨s, h1, hd⟩ := Option.bind_eq_some_iff.1 hd
    exact wp_val rfl (symBox_ok hs hd (lk1_ok hρ h1)) hK
  case build t ps =>
    obtain ⟨l, h1, hd⟩ := Option.bind_eq_some_iff.1 hd
    obtain ⟨r, h2, rfl⟩ := Option.map_eq_some_iff.1 hd
    have hp := lkParts_ok hs hρ h1
    obtain ⟨c, h3, h4⟩ := symBuild_ok h2 (vs := ps.map fun p => (p.1, a.eval p.2)) (by simpa using hp) x.w
    exact wp_val (m := Instr.build t (ps.map fun (i, x) => (i, a.eval x))) (d := .val (.agg r)) rfl ⟨_, _, h3, Fine.val hs ⟨c, rfl, h4⟩⟩ hK
  case buildSlice t m ps =>
    obtain ⟨l, h1, hd⟩ := Option.bind_eq_some_iff.1 hd
    have hp := lkParts_ok hs hρ h1
    exact wp_val (m := Instr.buildSlice t m (ps.map fun (i, x) => (i, a.eval x))) rfl (symBuildSlice_ok hs hd (vs := ps.map fun p => (p.1, a.eval p.2)) (by simpa using hp)) hK
  case load t p =>
    obtain ⟨s, h1, hd⟩ := Option.bind_eq_some_iff.1 hd
    obtain ⟨r, h2, rfl⟩ := Option.map_eq_some_iff.1 hd
    obtain ⟨v, h3, h4⟩ := symLoad_ok hs h2 (lkv_ok hρ h1)
    exact wp_val (d := .val r) rfl ⟨v, _, h3, Fine.val hs h4⟩ hK
  case store t p q =>
    obtain ⟨s, h1, hd⟩ := Option.bind_eq_some_iff.1 hd
    obtain ⟨y, h2, hd⟩ := Option.bind_eq_some_iff.1 hd
    obtain ⟨⟨oid, ob⟩, h3, rfl⟩ := Option.map_eq_some_iff.1 hd
    exact wp_unit (d := ⟨[], skipSlot, .put oid ob⟩) rfl (symStore_ok hs h3 (lkv_ok hρ h1) (lk1_ok hρ h2)) hK
  case nilCheck p =>
    obtain ⟨s, h1, hd⟩ := Option.bind_eq_some_iff.1 hd
    simp only [Option.ite_none_right_eq_some, Option.some.injEq] at hd
    obtain ⟨h2, rfl⟩ := hd
    have hg1 := lkv_ok hρ h1
    have : (execOp a.eval ⟨dst, .nilCheck p, type, pos, after, guard⟩) = (do pure (.value (← (pure (a.eval p) : Sem Value)))) := by
      rcases sure_ok h2 hg1 with ⟨b, c, hv⟩ | ⟨f, b, c, hv⟩ <;> simp [execOp, hv]
    exact wp_val (d := .val (.one s)) this ⟨_, _, rfl, Fine.val hs hg1⟩ hK
  case binOp op t p q t2 =>
    obtain ⟨s1, h1, hd⟩ := Option.bind_eq_some_iff.1 hd
    obtain ⟨s2, h2, hd⟩ := Option.bind_eq_some_iff.1 hd
    have g1 := lk1_ok hρ h1
    have g2 := lk1_ok hρ h2
    split at hd
    · rename_i d0 hnil
      cases hd
      obtain ⟨hgd, v, hrun, hv⟩ := symNil_ok (p := p) hnil g1 x.w
      refine wp_val (m := do eqGuard op t p q (a.eval p) (a.eval q); binOp op t (a.eval p) (a.eval q)) rfl ⟨v, _, ?_, hv hs⟩ hK
      obtain ⟨rfl⟩ := hgd
      simp only [Act.eval] at hrun ⊢
      exact hrun
    unfold symBinOp at hd
    split at hd
    · rename_i l m
      obtain ⟨r, h3, rfl⟩ := Option.map_eq_some_iff.1 hd
      obtain ⟨c1, e1, k1⟩ := g1
      obtain ⟨c2, e2, k2⟩ := g2
      obtain ⟨h4, v, h5, h6⟩ := symEq_ok h3 k1 k2 p q x.w
      refine wp_val (m := do eqGuard op t p q (a.eval p) (a.eval q); binOp op t (a.eval p) (a.eval q)) (d := .val (.one r)) rfl ⟨v, _, ?_, Fine.val hs h6⟩ hK
      rw [e1, e2]
      simp [h4, h5]
    · rename_i s t'
      obtain ⟨⟨gs, r⟩, h3, rfl⟩ := Option.map_eq_some_iff.1 hd
      obtain ⟨v, h5, h6⟩ := symBin_ok h3 g1 g2 hg t x.w
      refine wp_val (m := do eqGuard op t p q (a.eval p) (a.eval q); binOp op t (a.eval p) (a.eval q)) (d := ⟨gs, .v (.one r), .keep⟩) rfl ⟨v, _, ?_, Fine.val hs h6⟩ hK
      simp [eqGuard_one h3 g1 g2, h5]
    · cases hd
  case unOp op t p =>
    obtain ⟨s, h1, hd⟩ := Option.bind_eq_some_iff.1 hd
    obtain ⟨r, h2, rfl⟩ := Option.map_eq_some_iff.1 hd
    obtain ⟨u, h3, h4⟩ := symUn_ok h2 (lkv_ok hρ h1) x.w
    exact wp_val (d := .val (.one r)) rfl ⟨u, _, h3, Fine.val hs h4⟩ hK
  case makeInterface t p =>
    simp only [Option.ite_none_right_eq_some, Option.some.injEq] at hd
    obtain ⟨h1, rfl⟩ := hd
    refine wp_val (d := .val (.one (.ifc (.blit false)))) rfl ⟨.iface t (a.eval p), x.w, ?_, Fine.val hs ⟨rfl, fun h => (by cases h), fun _ => ⟨_, _, rfl⟩⟩⟩ hK
    unfold nonIface at h1
    split at h1
    · cases h1
    · rename_i d0 hd0 hu
      simp only [Instr.makeInterface, Sem.run_bind, run_underlying hu, Result.andThen_ok]
      rfl
    · cases h1
  case convert t u p =>
    obtain ⟨s, h1, hd⟩ := Option.bind_eq_some_iff.1 hd
    split at hd
    · rename_i r h2
      cases hd
      obtain ⟨u, h3, h4⟩ := symConv_ok hs h2 (lkv_ok hρ h1)
      exact wp_val (d := .val (.one r)) rfl ⟨u, _, h3, Fine.val hs h4⟩ hK
    · exact wp_val rfl (symBytes_ok hs hd (lkv_ok hρ h1)) hK
  case makeFunc fn first caps =>
    cases fn <;> simp only [reduceCtorEq] at hd
    obtain ⟨l1, h1, hd⟩ := Option.bind_eq_some_iff.1 hd
    obtain ⟨r1, h2, hd⟩ := Option.bind_eq_some_iff.1 hd
    obtain ⟨l2, h3, hd⟩ := Option.bind_eq_some_iff.1 hd
    obtain ⟨r2, h4, rfl⟩ := Option.map_eq_some_iff.1 hd
    refine wp_val (d := .val (.one (.fn _ r1 r2))) rfl ⟨_, x.w, rfl, Fine.val hs ?_⟩ hK
    exact ⟨_, _, rfl, by have := symPtrs_ok h2 (lks_ok hρ h1); rwa [← Array.toList_map, Array.toArray_toList] at this, by have := symPtrs_ok h4 (lks_ok hρ h3); rwa [← Array.toList_map, Array.toArray_toList] at this⟩
  case slice t p lo hi mx =>
    cases mx <;> simp only [reduceCtorEq] at hd
    obtain ⟨s, h1, hd⟩ := Option.bind_eq_some_iff.1 hd
    obtain ⟨l, h2, hd⟩ := Option.bind_eq_some_iff.1 hd
    obtain ⟨h, h3, hd⟩ := Option.bind_eq_some_iff.1 hd
    obtain ⟨⟨gs, r⟩, h4, rfl⟩ := Option.map_eq_some_iff.1 hd
    obtain ⟨v, h5, h6⟩ := symSlice_ok hs h4 (lkv_ok hρ h1) (lko_ok hρ h2) (lko_ok hρ h3) hg
    exact wp_val (d := ⟨gs, .v (.one r), .keep⟩) rfl ⟨v, _, h5, Fine.val hs h6⟩ hK
  case fieldAddr t p f =>
    obtain ⟨s, h1, hd⟩ := Option.bind_eq_some_iff.1 hd
    simp only [Option.ite_none_right_eq_some] at hd
    obtain ⟨h2, hd⟩ := hd
    obtain ⟨r, h3, rfl⟩ := Option.map_eq_some_iff.1 hd
    have g1 := lkv_ok hρ h1
    rcases sure_ok h2 g1 with hv | ⟨f', b, c, hv⟩
    · obtain ⟨v, h5, h6⟩ := symFieldAddr_ok h3 g1 hv x.w
      exact wp_val (d := .val (.one r)) rfl ⟨v, _, h5, Fine.val hs h6⟩ hK
    · exfalso
      unfold symFieldAddr at h3
      obtain ⟨⟨off, ft, nn⟩, _, h3⟩ := Option.bind_eq_some_iff.1 h3
      rw [hv] at g1
      cases s <;> simp only [reduceCtorEq] at h3
      · obtain ⟨_, hg2⟩ := g1
        obtain ⟨T, l, fz, hl⟩ := isCells_spec h2
        obtain ⟨b, _, hb⟩ := hg2 T l fz hl
        cases hb
      · simp only [sure, curVer] at h2
        split at h2
        · rename_i T e u hl
          obtain ⟨_, _, _, _, _, _, _, _, hb⟩ := (g1.2.2 T e u hl).2 (by simpa using h2)
          cases hb
        · cases h2
      · obtain ⟨_, _, _, _, _, _, _, _, _, _, _, hb⟩ := g1
        cases hb
  case field t p f =>
    obtain ⟨s, h1, hd⟩ := Option.bind_eq_some_iff.1 hd
    obtain ⟨r, h2, rfl⟩ := Option.map_eq_some_iff.1 hd
    obtain ⟨v, h5, h6⟩ := symField_ok h2 (lk1_ok hρ h1) x.w
    exact wp_val (d := .val r) rfl ⟨v, _, h5, Fine.val hs h6⟩ hK
  case indexAddr t p i =>
    obtain ⟨s, h1, hd⟩ := Option.bind_eq_some_iff.1 hd
    obtain ⟨j, h2, hd⟩ := Option.bind_eq_some_iff.1 hd
    simp only [Option.ite_none_right_eq_some] at hd
    obtain ⟨hsu, hd⟩ := hd
    obtain ⟨⟨gs, r⟩, h3, rfl⟩ := Option.map_eq_some_iff.1 hd
    have g1 := lkv_ok hρ h1
    obtain ⟨v, h5, h6⟩ := symIndexAddr_ok hs h3 g1 (lkv_ok hρ h2) hg (fun oid off hq => by
      subst hq
      rcases sure_ok hsu g1 with hv | ⟨f, b, c, hv⟩
      · exact hv
      · exfalso
        obtain ⟨T, l, fz, hl⟩ := isCells_spec hsu
        obtain ⟨b, _, hb⟩ := g1.2 T l fz hl
        rw [hv] at hb
        cases hb) x.w
    exact wp_val (d := ⟨gs, .v (.one r), .keep⟩) rfl ⟨v, _, h5, Fine.val hs h6⟩ hK
  case index t p i =>
    obtain ⟨s, h1, hd⟩ := Option.bind_eq_some_iff.1 hd
    obtain ⟨j, h2, hd⟩ := Option.bind_eq_some_iff.1 hd
    obtain ⟨⟨gs, r⟩, h3, rfl⟩ := Option.map_eq_some_iff.1 hd
    obtain ⟨v, h5, h6⟩ := symIndex_ok h3 (lk1_ok hρ h1) (lkv_ok hρ h2) hg x.w
    exact wp_val (d := ⟨gs, .v r, .keep⟩) rfl ⟨v, _, h5, Fine.val hs h6⟩ hK
  case extract t i =>
    obtain ⟨s, h1, hd⟩ := Option.bind_eq_some_iff.1 hd
    have g1 := hρ t s h1
    split at hd
    · rename_i l
      obtain ⟨r, h2, rfl⟩ := Option.map_eq_some_iff.1 hd
      obtain ⟨c, hv, hn', hl⟩ := g1
      have hi : i < c.size := by rw [hn']; exact (List.getElem?_eq_some_iff.1 h2).1
      refine wp_val (d := .val r) rfl ⟨c.getD i undef, x.w, ?_, Fine.val hs (hl i r h2)⟩ hK
      simp [hv, Instr.extract, hi]
    · cases hd
  case call c =>
    rw [hP]
    exact op_call_ok hsig hP hs (o := ⟨dst, .call c, type, pos, after, guard⟩) (k := k) (base := base) (n := n) (ρc := ρc) (kn := kn) rfl (by rw [hP] at hd; exact hd) hρ hg hcall hK

end
end Glx
namespace Glx
open Go

/-- conditions, each with the truth that is wanted of it -/
abbrev Cd := List (Ex × Bool)
def Holds (e : List D) (c : Cd) : Prop := ∀ p ∈ c, (p.1.den e).bool = p.2

/-- is a condition's truth known? -/
def tri (path : Cd) (x : Ex) : Option Bool := match x with
  | .blit b => some b
  | x => (path.find? fun c => c.1 == x).map (·.2)

theorem tri_ok {path : Cd} {x : Ex} {b : Bool} {e : List D} (h : tri path x = some b) (hp : Holds e path) : (x.den e).bool = b := by
  have key : ∀ x, (path.find? fun c => c.1 == x).map (·.2) = some b → (x.den e).bool = b := by
    intro x h
    obtain ⟨c, h1, rfl⟩ := Option.map_eq_some_iff.1 h
    have h2 := List.find?_some h1
    have h3 := List.mem_of_find?_eq_some h1
    simp only [beq_iff_eq] at h2
    rw [← h2]
    exact hp c h3
  unfold tri at h
  split at h
  · cases h; rfl
  · exact key _ h

def bitsOf : List Nat → Nat
  | [] => 0
  | p :: l => 2 ^ p ||| bitsOf l

theorem bitsOf_spec : ∀ (l : List Nat) (p : Nat), (bitsOf l).testBit p = true ↔ p ∈ l
  | [], p => by simp [bitsOf]
  | q :: l, p => by
    simp only [bitsOf, Nat.testBit_or, Bool.or_eq_true, List.mem_cons, bitsOf_spec l p, Nat.testBit_two_pow, decide_eq_true_eq]
    constructor
    · rintro (h | h)
      · exact .inl h.symm
      · exact .inr h
    · rintro (h | h)
      · exact .inl h.symm
      · exact .inr h

/-- what is written down of one operation -/
structure Rec where
  path : Cd
  cd : Cd
  run : Bool
  n : Nat
  k : Nat
  base : Nat
  ids : List Nat
  out : Done
  H : List SObj
  bef : Nat

def ixOf : List Oper → Nat → Nat → Option Nat
  | [], _, _ => none
  | o :: l, t, j => if o.dst = some t then some j else ixOf l t (j + 1)

/-- what an operation may know of its operands -/
def regLk (ops : List Oper) (S : List Slot) (befs : List Nat) (R : List Rec) (i : Nat) (cd : Cd) : Lk
  | .tmp t => match ixOf ops t 0 with
    | some j => if (befs.getD i 0).testBit j = true then (R[j]?).bind fun r => if (r.run && r.cd.all fun c => cd.contains c) = true then some r.out.dst else none
      else if j = i ∨ (befs.getD j 0).testBit i = true then opd S (.tmp t) else none
    | none => opd S (.tmp t)
  | p => opd S p

def Ef.touch (C : Cfg) : Ef → List Nat
  | .keep => []
  | .put o _ => [o]
  | .call f h => match C.sig f with
    | some s => (List.range s.cnt).map (h.k0 + ·) ++ srcs h.σ s.inH
    | none => []

theorem Ef.touch_ok {C : Cfg} {ef : Ef} {p : Nat} {s : SObj} (h : ef.mod C p = some s) : p ∈ ef.touch C := by
  cases ef with
  | keep => cases h
  | put o s' =>
    simp only [Ef.mod] at h
    split at h
    · rename_i hp; subst hp; simp [Ef.touch]
    · cases h
  | call f hd =>
    simp only [Ef.mod] at h
    split at h
    · rename_i sg hsg
      split at h
      · rename_i k hk
        simp only [Ef.touch, hsg]
        unfold Hand.corr at hk
        split at hk
        · rename_i h1
          exact List.mem_append_left _ (List.mem_map.2 ⟨p - hd.k0, List.mem_range.2 (by omega), by omega⟩)
        · have h2 := List.find?_some hk
          simp only [Bool.and_eq_true, beq_iff_eq] at h2
          exact List.mem_append_right _ (mem_srcs h2.1 h2.2)
      · cases h
    · cases h

/-- the block after so many operations, by text -/
def obOf (C : Cfg) (L : Nat → Bool) (p : Nat) : List Rec → Nat → SObj → SObj
  | [], _, acc => acc
  | r :: l, i, acc => obOf C L p l (i + 1) (if L i && r.run then (r.out.ef.mod C p).getD acc else acc)

theorem obOf_append {C : Cfg} {L : Nat → Bool} {p : Nat} : ∀ (l m : List Rec) (i : Nat) (acc : SObj), obOf C L p (l ++ m) i acc = obOf C L p m (i + l.length) (obOf C L p l i acc)
  | [], m, i, acc => rfl
  | r :: l, m, i, acc => by
    simp only [List.cons_append, obOf, List.length_cons]
    rw [obOf_append l m, Nat.add_right_comm, Nat.add_assoc]

theorem obOf_congr {C : Cfg} {L L' : Nat → Bool} {p : Nat} : ∀ (l : List Rec) (i : Nat) (acc : SObj), (∀ j r, l[j]? = some r → r.run = true → r.out.ef.mod C p ≠ none → L (i + j) = L' (i + j)) → obOf C L p l i acc = obOf C L' p l i acc
  | [], _, _, _ => rfl
  | r :: l, i, acc, h => by
    have ih := fun acc => obOf_congr (L := L) (L' := L') l (i + 1) acc fun j r' hj h1 h2 => by have := h (j + 1) r' (by simpa using hj) h1 h2; rw [Nat.add_right_comm i 1 j]; exact this
    simp only [obOf]
    rw [ih]
    congr 1
    cases hm : r.out.ef.mod C p with
    | none => simp
    | some s =>
      cases hr : r.run with
      | false => simp
      | true =>
        have := h 0 r rfl hr (by simp [hm])
        simp only [Nat.add_zero] at this
        rw [this]

theorem obOf_none {C : Cfg} {L : Nat → Bool} {p : Nat} : ∀ (l : List Rec) (i : Nat) (acc : SObj), (∀ j r, l[j]? = some r → r.run = true → r.out.ef.mod C p ≠ none → L (i + j) = false) → obOf C L p l i acc = acc
  | [], _, _, _ => rfl
  | r :: l, i, acc, h => by
    simp only [obOf]
    rw [obOf_none l (i + 1) _ fun j r' hj h1 h2 => by have := h (j + 1) r' (by simpa using hj) h1 h2; rw [Nat.add_right_comm i 1 j]; exact this]
    cases hm : r.out.ef.mod C p with
    | none => simp
    | some s =>
      cases hr : r.run with
      | false => simp
      | true =>
        have := h 0 r rfl hr (by simp [hm])
        simp only [Nat.add_zero] at this
        simp [this]

theorem ixOf_spec : ∀ {ops : List Oper} {t j k : Nat}, ixOf ops t k = some j → k ≤ j ∧ ∃ o, ops[j - k]? = some o ∧ o.dst = some t
  | [], _, _, _, h => by cases h
  | o :: l, t, j, k, h => by
    simp only [ixOf] at h
    split at h
    · rename_i h1
      cases h
      exact ⟨Nat.le_refl _, o, by simp, h1⟩
    · obtain ⟨h1, o', h2, h3⟩ := ixOf_spec h
      refine ⟨by omega, o', ?_, h3⟩
      rw [show j - k = (j - (k + 1)) + 1 by omega]
      simpa using h2

/-- what is known of one operation -/
structure RecOk (C : Cfg) (Φ : Nat → List D → Option (List D)) (ops : List Oper) (S : List Slot) (befs : List Nat) (H0 : List SObj) (N : Nat) (R : List Rec) (e : List D) (i : Nat) (o : Oper) (r : Rec) : Prop where
  scP : ∀ c ∈ r.path, c.1.sc e.length = true
  scC : ∀ c ∈ r.cd, c.1.sc e.length = true
  scG : r.run = true → ∀ g ∈ r.out.gs, g.sc e.length = true
  scD : ∀ ex, r.out.dst = .v (.one (.bool ex)) → ex.sc e.length = true
  path : Holds e r.path
  n : r.n ≤ e.length
  heap : ∀ p, look r.H p = obOf C (fun _ => true) p (R.take i) 0 (look H0 p)
  befEq : r.bef = befs.getD i 0
  befLt : ∀ j, r.bef.testBit j = true → j < i
  dst : ∀ t, o.dst = some t → ixOf ops t 0 = some i ∧ t < S.length
  guard0 : o.guard = none → r.run = true ∧ r.cd = []
  guard : ∀ g want, o.guard = some (g, want) → r.bef.testBit g = true ∧ ∃ rg og, R[g]? = some rg ∧ ops[g]? = some og ∧ og.dst.isSome = true ∧
    ((rg.run = false ∧ r.run = false) ∨ (rg.run = true ∧ ∃ ex, rg.out.dst = .v (.one (.bool ex)) ∧ (∀ c ∈ (ex, want) :: rg.cd, c.1.sc e.length = true) ∧ (r.run = true → (Holds e r.cd ↔ Holds e ((ex, want) :: rg.cd))) ∧ (r.run = false → ¬ Holds e ((ex, want) :: rg.cd))))
  sym : r.run = true → symOp C (mask N (bitsOf r.ids) (look r.H)) r.n (regLk ops S befs (R.take i) i (r.cd ++ r.path)) (fun ex b => regLk ops S befs (R.take i) i ((ex, b) :: (r.cd ++ r.path))) (tri r.path) r.k r.base o.op = some r.out
  gs : r.run = true → Holds e r.cd → ∀ g ∈ r.out.gs, (g.den e).bool = true
  call : r.run = true → ∀ f h, r.out.ef = .call f h → CallFact Φ C e f h
  eff : r.run = true → r.cd = [] ∨ r.out.ef = .keep
  idsN : ∀ p ∈ r.ids, p < N
  mods : r.run = true → ∀ p ∈ r.out.ef.touch C, p ∈ r.ids
  fz : r.run = true → ∀ p T l, r.out.ef.mod C p ≠ some (.cells T l true)
  win : ∀ p ∈ r.ids, (look r.H p).within (bitsOf r.ids) = true
  win2 : r.run = true → ∀ p s, r.out.ef.mod C p = some s → s.within (bitsOf r.ids) = true
  win3 : r.run = true → r.out.dst.within (bitsOf r.ids) = true

structure RegOk (C : Cfg) (Φ : Nat → List D → Option (List D)) (ops : List Oper) (S : List Slot) (befs : List Nat) (H0 : List SObj) (N : Nat) (R : List Rec) (e : List D) : Prop where
  all : ∀ i o, ops[i]? = some o → ∃ r, R[i]? = some r ∧ RecOk C Φ ops S befs H0 N R e i o r
  len : R.length = ops.length
  start : ∀ p, N ≤ p → look H0 p = .unborn
  bnd : ∀ j, ops.length ≤ j → befs.getD j 0 = 0
  conf : ∀ (i j : Nat) (ri rj : Rec), i < j → R[i]? = some ri → R[j]? = some rj → ri.run = true → rj.run = true → rj.bef.testBit i = true ∨ ((∀ p ∈ ri.out.ef.touch C, p ∉ rj.ids) ∧ (∀ p ∈ rj.out.ef.touch C, p ∉ ri.ids))

/-- so many operations are done -/
structure Inv (C : Cfg) (ops : List Oper) (S : List Slot) (H0 : List SObj) (R : List Rec) (x0 : Env) (w0 : World) (M : Nat → Prop) (ds : List Deferred) (L : Nat → Bool) (a : Act) (x : Env) : Prop where
  P : x.P = C.P
  e : x.e = x0.e
  sat : Sat x w0 M
  ext : Ext x0 x
  heap : ∀ p, look x.H p = obOf C L p R 0 (look H0 p)
  back : ∀ b, x.I b → x0.I b ∨ w0.heap.size ≤ b ∨ M b
  defers : a.defers = ds
  size : a.tmps.size = S.length
  old : ∀ t s, (∀ i, ixOf ops t 0 = some i → L i = false) → S[t]? = some s → GS x s (a.tmps.getD t undef)
  new : ∀ t i, ixOf ops t 0 = some i → L i = true → ∃ r, R[i]? = some r ∧ (r.run = true ∧ Holds x0.e r.cd → GS x r.out.dst (a.tmps.getD t undef)) ∧ (¬ (r.run = true ∧ Holds x0.e r.cd) → a.tmps.getD t undef = undef)

section
variable {C : Cfg} {Φ : Nat → List D → Option (List D)} {ops : List Oper} {S : List Slot} {befs : List Nat} {H0 : List SObj} {N : Nat} {R : List Rec} {x0 x : Env} {w0 : World} {M : Nat → Prop} {ds : List Deferred} {L : Nat → Bool} {a : Act}

theorem put_tmps {a : Act} {dst : Option Tmp} {v : Value} {t : Nat} : (a.put dst v).tmps.getD t undef = if dst = some t ∧ t < a.tmps.size then v else a.tmps.getD t undef := by
  cases dst with
  | none => simp [Act.put]
  | some d =>
    simp only [Act.put, Option.some.injEq]
    by_cases hd : d = t
    · subst hd
      by_cases hl : d < a.tmps.size <;> simp [hl]
    · simp [hd, Array.getD_eq_getD_getElem?, Array.getElem?_setIfInBounds_ne hd]

theorem put_size {a : Act} {dst : Option Tmp} {v : Value} : (a.put dst v).tmps.size = a.tmps.size := by
  cases dst <;> simp [Act.put]
theorem put_defers' {a : Act} {dst : Option Tmp} {v : Value} : (a.put dst v).defers = a.defers := by
  cases dst <;> simp [Act.put]

theorem opd_const {p : Operand} {s : Slot} (hp : ∀ t, p ≠ .tmp t) (h : opd S p = some s) (a : Act) : GS x s (a.eval p) := by
  cases p with
  | tmp t => exact absurd rfl (hp t)
  | const v =>
    simp only [opd] at h
    obtain ⟨s', h1, rfl⟩ := Option.map_eq_some_iff.1 h
    exact constS1_ok h1
  | func f =>
    simp only [opd, Option.some.injEq] at h
    subst h
    exact ⟨#[], #[], rfl, ⟨rfl, by simp⟩, ⟨rfl, by simp⟩⟩
  | global g => simp [opd] at h

theorem regLk_ok {i : Nat} {cd : Cd} (hinv : Inv C ops S H0 R x0 w0 M ds L a x) (hL : L i = false) (hbef : ∀ j, (befs.getD i 0).testBit j = true → L j = true ∧ j < i) (hlate : ∀ j, (befs.getD j 0).testBit i = true → L j = false) (hcd : Holds x0.e cd) :
    LkOk x (regLk ops S befs (R.take i) i cd) a.eval := by
  intro p s h
  cases p with
  | tmp t =>
    simp only [regLk] at h
    split at h
    · rename_i j hj
      split at h
      · rename_i hb
        obtain ⟨h1, h2⟩ := hbef j hb
        obtain ⟨r, h3, h4⟩ := Option.bind_eq_some_iff.1 h
        simp only [Option.ite_none_right_eq_some, Bool.and_eq_true, List.all_eq_true, List.contains_eq_mem, decide_eq_true_eq, Option.some.injEq] at h4
        obtain ⟨⟨h5, h6⟩, rfl⟩ := h4
        obtain ⟨r', g1, g2, _⟩ := hinv.new t j hj h1
        rw [List.getElem?_take_of_lt h2, g1] at h3
        cases h3
        exact g2 ⟨h5, fun c hc => hcd c (h6 c hc)⟩
      · split at h
        · rename_i hji
          simp only [opd] at h
          split at h
          · cases h
          · refine hinv.old t s (fun k hk => ?_) h
            rw [hj] at hk
            cases hk
            rcases hji with rfl | hji
            · exact hL
            · exact hlate j hji
        · cases h
    · rename_i hj
      simp only [opd] at h
      split at h
      · cases h
      · exact hinv.old t s (fun k hk => by rw [hj] at hk; cases hk) h
  | const v => exact opd_const (fun t => by simp) (by simpa [regLk] using h) a
  | func f => exact opd_const (fun t => by simp) (by simpa [regLk] using h) a
  | global g => simp [regLk, opd] at h

theorem LkOk.ext {y : Env} {ρ : Lk} {ev : Operand → Value} (he : Ext x y) (h : LkOk x ρ ev) : LkOk y ρ ev := fun p s hp => (h p s hp).ext he

/-- one more -/
theorem reg_step (hsig : SigOk C Φ) (hok : RegOk C Φ ops S befs H0 N R x0.e) (hinv : Inv C ops S H0 R x0 w0 M ds L a x) {i : Nat} {o : Oper} (ho : ops[i]? = some o) (hL : L i = false)
    (hbef : ∀ r, R[i]? = some r → ∀ j, r.bef.testBit j = true → L j = true) (hdown : ∀ j r, R[j]? = some r → L j = true → ∀ m, r.bef.testBit m = true → L m = true)
    {Q : Exit → Act → World → Prop} {K : Act → World → Prop} (hK : ∀ a' x', Inv C ops S H0 R x0 w0 M ds (fun j => j == i || L j) a' x' → K a' x'.w) : wpOp C.P ops.toArray Q i K a x.w := by
  obtain ⟨r, hr, hrec⟩ := hok.all i o ho
  have hb : ∀ j, r.bef.testBit j = true → L j = true ∧ j < i := fun j h => ⟨hbef r hr j h, hrec.befLt j h⟩
  have hb' : ∀ j, (befs.getD i 0).testBit j = true → L j = true ∧ j < i := fun j h => hb j (by rw [hrec.befEq]; exact h)
  have hlate : ∀ j, (befs.getD j 0).testBit i = true → L j = false := by
    intro j h
    cases hq : L j with
    | false => rfl
    | true =>
      rcases Nat.lt_or_ge j ops.length with hjl | hjl
      · obtain ⟨rj, k1, k2⟩ := hok.all j ops[j] (List.getElem?_eq_getElem hjl)
        have := hdown j rj k1 hq i (by rw [k2.befEq]; exact h)
        rw [hL] at this; cases this
      · have := hok.bnd j hjl
        rw [this] at h
        simp at h
  -- who turns a block of those that are looked at, did so already, or will do so later
  have hmod : ∀ p, p ∈ r.ids → r.run = true → ∀ j rj, R[j]? = some rj → rj.run = true → rj.out.ef.mod C p ≠ none → j ≠ i → (L j = true ↔ j < i) := by
    intro p hp hrun j rj hj h1 h2 hne
    have hpt : p ∈ rj.out.ef.touch C := by
      cases hq : rj.out.ef.mod C p with
      | none => exact absurd hq h2
      | some s => exact Ef.touch_ok hq
    rcases Nat.lt_or_gt_of_ne hne with h3 | h3
    · refine ⟨fun _ => h3, fun _ => ?_⟩
      rcases hok.conf j i rj r h3 hj hr h1 hrun with h4 | ⟨h4, _⟩
      · exact (hb j h4).1
      · exact absurd hp (h4 p hpt)
    · refine ⟨fun h5 => ?_, fun h5 => by omega⟩
      rcases hok.conf i j r rj h3 hr hj hrun h1 with h4 | ⟨_, h4⟩
      · have := hdown j rj hj h5 i h4
        rw [hL] at this; cases this
      · exact absurd hp (h4 p hpt)
  have hlen : i < R.length := (List.getElem?_eq_some_iff.1 hr).1
  have hsplit : R = R.take i ++ r :: R.drop (i + 1) := by
    have := List.getElem?_eq_some_iff.1 hr
    obtain ⟨h1, h2⟩ := this
    rw [← h2, ← List.drop_eq_getElem_cons h1, List.take_append_drop]
  have htl : (R.take i).length = i := by rw [List.length_take]; omega
  have hview : r.run = true → ∀ p, p ∈ r.ids → look x.H p = look r.H p := by
    intro hrun p hp
    rw [hinv.heap, hrec.heap]
    conv => lhs; rw [hsplit]
    rw [obOf_append, htl, Nat.zero_add]
    rw [obOf_none]
    · refine obOf_congr _ _ _ fun j rj hj h1 h2 => ?_
      have hjl : j < i := by have := (List.getElem?_eq_some_iff.1 hj).1; rw [htl] at this; exact this
      rw [List.getElem?_take_of_lt hjl] at hj
      rw [Nat.zero_add]
      exact (hmod p hp hrun j rj hj h1 h2 (by omega)).2 hjl
    · intro j rj hj h1 h2
      cases j with
      | zero => rw [Nat.add_zero]; exact hL
      | succ j =>
        simp only [List.getElem?_cons_succ, List.getElem?_drop] at hj
        have := (hmod p hp hrun _ rj hj h1 h2 (by omega))
        rw [show i + (j + 1) = i + 1 + j by omega]
        cases hq : L (i + 1 + j) with
        | false => rfl
        | true => have := this.1 hq; omega
  have hafter : ∀ p, obOf C (fun j => j == i || L j) p R 0 (look H0 p) = if r.run = true then (r.out.ef.mod C p).getD (look x.H p) else look x.H p := by
    intro p
    have hsame : (r.run = true → r.out.ef.mod C p = none) → obOf C (fun j => j == i || L j) p R 0 (look H0 p) = look x.H p := by
      intro h
      rw [hinv.heap]
      refine obOf_congr _ _ _ fun j rj hj h1 h2 => ?_
      by_cases hji : j = i
      · subst hji
        rw [hr] at hj
        cases hj
        exact absurd (h h1) h2
      · simp [hji]
    cases hrun : r.run with
    | false => exact (hsame (by simp [hrun])).trans (by simp)
    | true =>
      rw [if_pos rfl]
      cases hm : r.out.ef.mod C p with
      | none => exact hsame fun _ => hm
      | some s =>
        have hp : p ∈ r.ids := hrec.mods hrun p (Ef.touch_ok hm)
        conv => lhs; rw [hsplit]
        rw [obOf_append, htl, Nat.zero_add]
        simp only [obOf, hrun, Bool.and_true, BEq.rfl, Bool.true_or, if_true, hm, Option.getD_some]
        refine obOf_none _ _ _ fun j rj hj h1 h2 => ?_
        simp only [List.getElem?_drop] at hj
        have := hmod p hp hrun _ rj hj h1 h2 (by omega)
        have hne : (i + 1 + j == i) = false := by simp; omega
        rw [hne, Bool.false_or]
        cases hq : L (i + 1 + j) with
        | false => rfl
        | true => have := this.1 hq; omega
  -- is it wanted?
  have hwant : Region.wanted o (yielded ops.toArray a.tmps) = true ↔ (r.run = true ∧ Holds x0.e r.cd) := by
    cases hg : o.guard with
    | none =>
      obtain ⟨h1, h2⟩ := hrec.guard0 hg
      simp [Region.wanted, hg, h1, h2, Holds]
    | some gw =>
      obtain ⟨g, want⟩ := gw
      obtain ⟨h1, rg, og, h2, h3, h4, h5⟩ := hrec.guard g want hg
      obtain ⟨d, hd⟩ := Option.isSome_iff_exists.1 h4
      obtain ⟨rg', q1, qrec⟩ := hok.all g og h3
      rw [h2] at q1
      cases q1
      obtain ⟨hix, hdl⟩ := qrec.dst d hd
      obtain ⟨rg', q1, q2, q3⟩ := hinv.new d g hix (hb g h1).1
      rw [h2] at q1
      cases q1
      have hdl' : d < a.tmps.size := by rw [hinv.size]; exact hdl
      have hy : yielded ops.toArray a.tmps g = match a.tmps.getD d undef with | .bool b => some b | _ => none := by
        simp only [yielded, List.getElem?_toArray, h3, Option.bind_some, hd, Array.getElem?_eq_getElem hdl', Array.getD_eq_getD_getElem?, Option.getD_some]
        cases a.tmps[d] <;> rfl
      simp only [Region.wanted, hg, hy, beq_iff_eq]
      rcases h5 with ⟨h6, h7⟩ | ⟨h6, ex, h7, _, h8, h9⟩
      · have hu := q3 (by simp [h6])
        rw [hu]
        simp [h7, undef]
      · by_cases hh : Holds x0.e rg.cd
        · have hgs := q2 ⟨h6, hh⟩
          rw [h7] at hgs
          obtain ⟨_, hv⟩ := hgs
          rw [hinv.e] at hv
          rw [hv]
          simp only [Option.some.injEq]
          have hiff : Holds x0.e ((ex, want) :: rg.cd) ↔ (ex.den x0.e).bool = want := by
            constructor
            · intro h; exact h _ (List.mem_cons_self ..)
            · intro h c hc
              rcases List.mem_cons.1 hc with rfl | hc
              · exact h
              · exact hh c hc
          cases hrun : r.run with
          | true => rw [← hiff, ← h8 hrun]; simp
          | false =>
            have := h9 hrun
            rw [hiff] at this
            simp [this]
        · have hu := q3 (fun h => hh h.2)
          rw [hu]
          have hno : ¬ (r.run = true ∧ Holds x0.e r.cd) := by
            rintro ⟨k1, k2⟩
            exact hh fun c hc => (h8 k1).1 k2 c (List.mem_cons_of_mem _ hc)
          simp [undef, hno]
  have hofa : ops.toArray[i]? = some o := by simpa using ho
  -- the slots behind it
  have hput : ∀ (v : Value) (y : Env), y.P = C.P → y.e = x0.e → Sat y w0 M → Ext x y → (∀ p, look y.H p = obOf C (fun j => j == i || L j) p R 0 (look H0 p)) →
      (r.run = true ∧ Holds x0.e r.cd → GS y r.out.dst v) → (¬ (r.run = true ∧ Holds x0.e r.cd) → v = undef) → (∀ b, y.I b → x.I b ∨ x.w.heap.size ≤ b ∨ Mof x b) → Inv C ops S H0 R x0 w0 M ds (fun j => j == i || L j) (a.put o.dst v) y := by
    intro v y e1 e2 e3 e4 e5 e6 e7 e8
    refine ⟨e1, e2, e3, hinv.ext.trans e4, e5, fun b hb => ?_, by rw [put_defers', hinv.defers], by rw [put_size, hinv.size], fun t s h1 h2 => ?_, fun t j h1 h2 => ?_⟩
    · rcases e8 b hb with h | h | ⟨o, h1, h2⟩
      · exact hinv.back b h
      · exact .inr (.inl (Nat.le_trans hinv.sat.frame.size h))
      · rcases hinv.sat.mine o b h1 h2 with h | h
        · exact .inr (.inr h)
        · exact .inr (.inl h)
    · rw [put_tmps, if_neg]
      · refine (hinv.old t s (fun k hk => ?_) h2).ext e4
        have := h1 k hk
        simp only [Bool.or_eq_false_iff] at this
        exact this.2
      · rintro ⟨h3, _⟩
        have := h1 i (hrec.dst t h3).1
        simp at this
    · rw [put_tmps]
      by_cases hd : o.dst = some t
      · obtain ⟨h3, h4⟩ := hrec.dst t hd
        rw [h1] at h3
        cases h3
        rw [if_pos ⟨hd, by rw [hinv.size]; exact h4⟩]
        exact ⟨r, hr, e6, e7⟩
      · rw [if_neg (fun h => hd h.1)]
        have hji : j ≠ i := by
          intro h
          subst h
          obtain ⟨_, o', h3, h4⟩ := ixOf_spec h1
          rw [Nat.sub_zero, ho] at h3
          cases h3
          exact hd h4
        obtain ⟨r', k1, k2, k3⟩ := hinv.new t j h1 (by simpa [hji] using h2)
        exact ⟨r', k1, fun h => (k2 h).ext e4, k3⟩
  unfold wpOp
  simp only [hofa]
  by_cases hw : Region.wanted o (yielded ops.toArray a.tmps) = true
  · rw [if_pos hw]
    left
    obtain ⟨hrun, hcd⟩ := hwant.1 hw
    have hxN : ∀ p, N ≤ p → look x.H p = .unborn := by
      intro p hp
      rw [hinv.heap, ← hok.start p hp]
      refine obOf_none _ _ _ fun j rj hj h1 h2 => ?_
      exfalso
      cases hq : rj.out.ef.mod C p with
      | none => exact h2 hq
      | some s =>
        have hjl : j < ops.length := by rw [← hok.len]; exact (List.getElem?_eq_some_iff.1 hj).1
        obtain ⟨rj', k1, k2⟩ := hok.all j ops[j] (List.getElem?_eq_getElem hjl)
        rw [hj] at k1
        cases k1
        have := k2.idsN p (k2.mods h1 p (Ef.touch_ok hq))
        omega
    have hmaskH : (x.mask N (bitsOf r.ids)).H = mask N (bitsOf r.ids) (look r.H) := mask_congr fun p _ h => hview hrun p ((bitsOf_spec _ _).1 h)
    have hme := mask_ext (ids := bitsOf r.ids) hxN
    have hpath : Holds x0.e (r.cd ++ r.path) := by
      intro c hc
      rcases List.mem_append.1 hc with h | h
      · exact hcd c h
      · exact hrec.path c h
    refine op_ok (x := x.mask N (bitsOf r.ids)) (d := r.out) hsig hinv.P (mask_sat hinv.sat hxN) (n := r.n) (ρ := regLk ops S befs (R.take i) i (r.cd ++ r.path)) (ρc := fun ex b => regLk ops S befs (R.take i) i ((ex, b) :: (r.cd ++ r.path))) (kn := tri r.path) (k := r.k) (base := r.base)
      (by show r.n ≤ x.e.length; rw [hinv.e]; exact hrec.n) (by rw [hmaskH]; exact hrec.sym hrun) (LkOk.ext hme (regLk_ok hinv hL hb' hlate hpath)) (fun ex t ht => LkOk.ext hme (regLk_ok hinv hL hb' hlate (fun c hc => ?_))) (fun ex b hk => by show (ex.den x.e).bool = b; rw [hinv.e]; exact tri_ok hk hrec.path) (fun c hc => ?_) (fun f h hf => ?_) (fun v w' hf => ?_)
    · rcases List.mem_cons.1 hc with rfl | hc
      · have ht' : (ex.den x.e).bool = t := ht
        rw [hinv.e] at ht'
        exact ht'
      · exact hpath c hc
    · show (c.den x.e).bool = true
      rw [hinv.e]
      exact hrec.gs hrun hcd c hc
    · show CallFact Φ C x.e f h
      rw [hinv.e]
      exact hrec.call hrun f h hf
    · obtain ⟨y', f1, f2, f3, f4, f5, f6, f7, f8⟩ := hf
      have hidsN : ∀ p, (bitsOf r.ids).testBit p = true → p < N := fun p h => hrec.idsN p ((bitsOf_spec _ _).1 h)
      have hmlk : ∀ p, (bitsOf r.ids).testBit p = true → look (x.mask N (bitsOf r.ids)).H p = look x.H p := fun p h => by
        show look (mask N (bitsOf r.ids) (look x.H)) p = _
        rw [look_mask, if_pos (hidsN p h), if_pos h]
      obtain ⟨g1, g2, g3, g4, g5⟩ := unmask hinv.sat hxN hidsN f6 f7 f5 (fun p T l hp h => by
          rw [f4] at h ⊢
          cases hq : r.out.ef.mod C p with
          | none => rw [Option.getD_none, hmlk p hp]
          | some s => rw [hq, Option.getD_some] at h; subst h; exact absurd hq (hrec.fz hrun p T l)) (fun p hp => by
          rw [f4]
          cases hq : r.out.ef.mod C p with
          | none =>
            rw [Option.getD_none, hmlk p hp, hview hrun p ((bitsOf_spec _ _).1 hp)]
            exact hrec.win p ((bitsOf_spec _ _).1 hp)
          | some s => exact hrec.win2 hrun p s hq)
      have hyw : (x.unmask y' N (bitsOf r.ids)).w = w' := f1
      rw [← hyw]
      refine hK _ _ (hput v _ ?_ ?_ g1 g2 (fun p => ?_) (fun _ => g4 _ _ (hrec.win3 hrun) f8) (fun h => absurd ⟨hrun, hcd⟩ h) g5)
      · show y'.P = C.P; rw [f3]; exact hinv.P
      · show y'.e = x0.e; rw [f2]; exact hinv.e
      · rw [g3, hafter, if_pos hrun]
        split
        · rename_i hp
          rw [f4, hmlk p hp]
        · rename_i hp
          cases hq : r.out.ef.mod C p with
          | none => rfl
          | some s => exact absurd ((bitsOf_spec _ _).2 (hrec.mods hrun p (Ef.touch_ok hq))) hp
  · rw [if_neg hw]
    have hno : ¬ (r.run = true ∧ Holds x0.e r.cd) := fun h => hw (hwant.2 h)
    refine hK _ _ (hput undef x hinv.P hinv.e hinv.sat (Ext.refl x) (fun p => ?_) (fun h => absurd h hno) (fun _ => rfl) (fun b => .inl))
    rw [hafter]
    split
    · rename_i hrun
      rcases hrec.eff hrun with h1 | h1
      · exact absurd ⟨hrun, by rw [h1]; intro c hc; cases hc⟩ hno
      · rw [h1]; rfl
    · rfl

end
end Glx
namespace Glx
open Go

def prune (path : Cd) : Cd → Option Cd
  | [] => some []
  | (x, b) :: l => match tri path x with
    | some b' => if b' = b then prune path l else none
    | none => (prune path l).map ((x, b) :: ·)

theorem prune_some {path : Cd} {e : List D} (hp : Holds e path) : ∀ {l r : Cd}, prune path l = some r → (Holds e r ↔ Holds e l) ∧ ∀ c ∈ r, c ∈ l
  | [], r, h => by cases h; exact ⟨Iff.rfl, fun _ h => h⟩
  | (x, b) :: l, r, h => by
    simp only [prune] at h
    split at h
    · rename_i b' ht
      split at h
      · rename_i hb
        subst hb
        obtain ⟨h1, h2⟩ := prune_some hp h
        refine ⟨h1.trans ⟨fun h3 c hc => ?_, fun h3 c hc => h3 c (List.mem_cons_of_mem _ hc)⟩, fun c hc => List.mem_cons_of_mem _ (h2 c hc)⟩
        rcases List.mem_cons.1 hc with rfl | hc
        · exact tri_ok ht hp
        · exact h3 c hc
      · cases h
    · obtain ⟨r', h1, rfl⟩ := Option.map_eq_some_iff.1 h
      obtain ⟨h2, h3⟩ := prune_some hp h1
      refine ⟨⟨fun h4 c hc => ?_, fun h4 c hc => ?_⟩, fun c hc => ?_⟩
      · rcases List.mem_cons.1 hc with rfl | hc
        · exact h4 _ (List.mem_cons_self ..)
        · exact h2.1 (fun c hc => h4 c (List.mem_cons_of_mem _ hc)) c hc
      · rcases List.mem_cons.1 hc with rfl | hc
        · exact h4 _ (List.mem_cons_self ..)
        · exact h2.2 (fun c hc => h4 c (List.mem_cons_of_mem _ hc)) c hc
      · rcases List.mem_cons.1 hc with rfl | hc
        · exact List.mem_cons_self ..
        · exact List.mem_cons_of_mem _ (h3 c hc)

theorem prune_none {path : Cd} {e : List D} (hp : Holds e path) : ∀ {l : Cd}, prune path l = none → ¬ Holds e l
  | [], h => by cases h
  | (x, b) :: l, h => by
    simp only [prune] at h
    split at h
    · rename_i b' ht
      split at h
      · intro h1
        exact prune_none hp h fun c hc => h1 c (List.mem_cons_of_mem _ hc)
      · rename_i hb
        intro h1
        exact hb ((tri_ok ht hp).symm.trans (h1 (x, b) (List.mem_cons_self ..)))
    · intro h1
      rw [Option.map_eq_none_iff] at h
      exact prune_none hp h fun c hc => h1 c (List.mem_cons_of_mem _ hc)

def imp : Cd → Ex → Ex
  | [], g => g
  | (x, true) :: l, g => mkIteB x (imp l g) (.blit true)
  | (x, false) :: l, g => mkIteB x (.blit true) (imp l g)

theorem imp_ok {e : List D} : ∀ {l : Cd} {g : Ex}, ((imp l g).den e).bool = true → Holds e l → (g.den e).bool = true
  | [], _, h, _ => h
  | (x, true) :: l, g, h, hh => by
    simp only [imp, mkIteB_den] at h
    have h1 := hh _ (List.mem_cons_self ..)
    simp only at h1
    rw [h1, if_pos rfl] at h
    exact imp_ok h fun c hc => hh c (List.mem_cons_of_mem _ hc)
  | (x, false) :: l, g, h, hh => by
    simp only [imp, mkIteB_den] at h
    have h1 := hh _ (List.mem_cons_self ..)
    simp only at h1
    rw [h1] at h
    simp only [Bool.false_eq_true, if_false] at h
    exact imp_ok h fun c hc => hh c (List.mem_cons_of_mem _ hc)

def wrapGs {α : Type} (l : List Ex) (k : Tm α) : Tm α := l.foldr .guard k

theorem run_wrapGs {α : Type} {Φ : Nat → List D → Option (List D)} {k : Tm α} {e : List D} {r : Res α} : ∀ {l : List Ex}, Run Φ none (wrapGs l k) e r → (∀ g ∈ l, (g.den e).bool = true) ∧ Run Φ none k e r
  | [], h => ⟨fun g hg => by (cases hg), h⟩
  | c :: l, h => by
    cases h with
    | guard h1 h2 =>
      obtain ⟨h3, h4⟩ := run_wrapGs (l := l) h2
      refine ⟨fun g hg => ?_, h4⟩
      rcases List.mem_cons.1 hg with rfl | hg
      · exact h1
      · exact h3 g hg

/-! ### The blocks that may be looked at -/
def SV.ments : SV → List Nat
  | .ptr o _ | .own o _ | .oel o _ _ _ => [o]
  | .fn _ a c => (a ++ c).map (·.1)
  | _ => []
def Slot.ments (s : Slot) : List Nat := (slotCells s).flatMap SV.ments
def SObj.ments : SObj → List Nat
  | .cells _ l _ => l.flatMap SV.ments
  | _ => []

def closeIds (H : List SObj) : Nat → List Nat → List Nat → List Nat
  | 0, _, seen => seen
  | _ + 1, [], seen => seen
  | f + 1, p :: l, seen => if seen.contains p then closeIds H f l seen else closeIds H f ((look H p).ments ++ l) (p :: seen)

structure RCfg where
  C : Cfg
  ops : List Oper
  S : List Slot
  N : Nat
  draw : Bool
  befs : List Nat

def befOf (befs : List Nat) (o : Oper) : Nat := o.after.toList.foldl (fun s e => if Region.binds .any e then s ||| 2 ^ e.on ||| befs.getD e.on 0 else s) 0

/-- what comes ahead of each -/
def befsOf : List Oper → List Nat → List Nat
  | [], acc => acc
  | o :: l, acc => befsOf l (acc ++ [befOf acc o])

def rawLk (g : RCfg) (R : List Rec) : Operand → List Nat
  | .tmp t => match ixOf g.ops t 0 with
    | some j => match R[j]? with
      | some r => r.out.dst.ments
      | none => ((g.S[t]?).map Slot.ments).getD []
    | none => ((g.S[t]?).map Slot.ments).getD []
  | _ => []

/-- new blocks that an operation may want -/
def newOf (C : Cfg) : Op → Nat
  | .alloc _ | .box .. | .buildSlice .. => 1
  | .call c => match c.callee with
    | .builtin _ => 1
    | .value (.func f) => ((C.of f).map fun c => ((C.sig c).map Sig.cnt).getD 0).foldl max 0
    | _ => 4
  | _ => 0

def condOf (path : Cd) (R : List Rec) : Option (Nat × Bool) → Option (Option Cd)
  | none => some (some [])
  | some (g, want) => (R[g]?).bind fun rg => if rg.run = true then match rg.out.dst with
      | .v (.one (.bool ex)) => some (prune path ((ex, want) :: rg.cd))
      | _ => none
    else some none

structure RLeaf where
  R : List Rec
  H : List SObj
  n : Nat

def Ef.app (C : Cfg) (H : List SObj) : Ef → List SObj
  | .keep => H
  | .put o s => Glx.put H o s
  | ef => (List.range ((ef.touch C).foldl (fun m p => max m (p + 1)) H.length)).map fun p => (ef.mod C p).getD (look H p)

theorem foldl_max : ∀ (l : List Nat) (a : Nat), a ≤ l.foldl (fun m p => max m (p + 1)) a ∧ ∀ p ∈ l, p < l.foldl (fun m p => max m (p + 1)) a
  | [], a => ⟨Nat.le_refl _, fun p hp => by cases hp⟩
  | q :: l, a => by
    obtain ⟨h1, h2⟩ := foldl_max l (max a (q + 1))
    simp only [List.foldl_cons]
    refine ⟨by omega, fun p hp => ?_⟩
    rcases List.mem_cons.1 hp with rfl | hp
    · omega
    · exact h2 p hp

theorem look_app {C : Cfg} {H : List SObj} {ef : Ef} (p : Nat) : look (ef.app C H) p = (ef.mod C p).getD (look H p) := by
  cases ef with
  | keep => rfl
  | put o s => simp only [Ef.app, look_put, Ef.mod]; split <;> rfl
  | call f hd =>
    simp only [Ef.app]
    obtain ⟨k1, k2⟩ := foldl_max ((Ef.call f hd).touch C) H.length
    generalize ((Ef.call f hd).touch C).foldl (fun m p => max m (p + 1)) H.length = n at k1 k2
    by_cases hp : p < n
    · conv => lhs; unfold look
      rw [List.getD_eq_getElem?_getD, List.getElem?_map, List.getElem?_range hp]
      rfl
    · have h1 : look ((List.range n).map fun p => ((Ef.call f hd).mod C p).getD (look H p)) p = .unborn := by
        unfold look
        rw [List.getD_eq_getElem?_getD, List.getElem?_eq_none (by simp; omega)]
        rfl
      rw [h1]
      have h2 : look H p = .unborn := by
        unfold look
        rw [List.getD_eq_getElem?_getD, List.getElem?_eq_none (by omega)]
        rfl
      cases hq : (Ef.call f hd).mod C p with
      | none => simp [h2]
      | some s => have := k2 p (Ef.touch_ok hq); omega

def guardAt (g : RCfg) (bef : Nat) : Option (Nat × Bool) → Bool
  | none => true
  | some (j, _) => bef.testBit j && (match g.ops[j]? with | some o => o.dst.isSome | none => false)

def dstAt (g : RCfg) (i : Nat) : Option Tmp → Bool
  | none => true
  | some t => ixOf g.ops t 0 == some i && decide (t < g.S.length)

def noFz : Option SObj → Bool
  | some (.cells _ _ true) => false
  | _ => true

def dstSc (n : Nat) : Slot → Bool
  | .v (.one (.bool ex)) => ex.sc n
  | _ => true

def Ef.grow (C : Cfg) : Ef → Nat
  | .call f _ => match C.sig f with | some s => s.outN | none => 0
  | _ => 0

def outAt (g : RCfg) (H : List SObj) (n : Nat) (ids : List Nat) (bits : Nat) (out : Done) : Bool :=
  (ids.all fun p => decide (p < g.N) && (look H p).within bits) && (out.ef.touch g.C).all (fun p => ids.contains p && noFz (out.ef.mod g.C p) && ((out.ef.mod g.C p).map (SObj.within bits)).getD true) && out.dst.within bits && out.gs.all (Ex.sc n) && dstSc (n + out.ef.grow g.C) out.dst

def apartAt (C : Cfg) (ri rj : Rec) : Bool :=
  !ri.run || !rj.run || ((ri.out.ef.touch C).all (fun p => !rj.ids.contains p) && (rj.out.ef.touch C).all (fun p => !ri.ids.contains p))

def apartAll (C : Cfg) (rj : Rec) : List Rec → Nat → Bool
  | [], _ => true
  | ri :: l, i => (rj.bef.testBit i || apartAt C ri rj) && apartAll C rj l (i + 1)

def leafOk (g : RCfg) (R : List Rec) : Bool :=
  if g.draw then ((List.range R.length).all fun j => match R[j]? with | some rj => apartAll g.C rj (R.take j) 0 | none => true)
  else (List.range R.length).all fun j => match R[j]? with | some rj => rj.bef == 2 ^ j - 1 | none => true

/-- the operations from here on, as a term -/
def rwalk (g : RCfg) : Nat → List Oper → Cd → List Rec → List SObj → Nat → Option (Tm RLeaf)
  | 0, _, _, _, _, _ => none
  | _ + 1, [], _, R, H, n => if leafOk g R = true then some (.leaf ⟨R, H, n⟩) else none
  | f + 1, o :: rest, path, R, H, n =>
    let i := R.length
    let bef := g.befs.getD i 0
    if decide (bef < 2 ^ i) && dstAt g i o.dst && guardAt g bef o.guard then
      (condOf path R o.guard).bind fun
      | none => rwalk g f rest path (R ++ [⟨path, [], false, n, 0, 0, [], ⟨[], skipSlot, .keep⟩, H, bef⟩]) H n
      | some cd =>
        let nk := newOf g.C o.op
        let ids := closeIds H 60 ((o.op.operands.toList.flatMap (rawLk g R))) ((List.range nk).map (H.length + ·))
        let bits := bitsOf ids
        (symOp g.C (mask g.N bits (look H)) n (regLk g.ops g.S g.befs R i (cd ++ path)) (fun ex b => regLk g.ops g.S g.befs R i ((ex, b) :: (cd ++ path))) (tri path) H.length n o.op).bind fun out =>
        if cd.all (fun c => c.1.sc n) && outAt g H n ids bits out then
          let k := rwalk g f rest path (R ++ [⟨path, cd, true, n, H.length, n, ids, out, H, bef⟩]) (out.ef.app g.C H)
          match cd, out.ef with
          | _, .keep => (k n).map (wrapGs (out.gs.map (imp cd)))
          | [], .put _ _ => (k n).map (wrapGs out.gs)
          | [], .call fid h => if h.us.all (Ex.sc n) && h.base == n && out.gs.isEmpty then ((g.C.sig fid).bind fun s => k (n + s.outN)).map (Tm.call fid h.us) else none
          | (x, _) :: _, _ => (rwalk g f (o :: rest) (path ++ [(x, true)]) R H n).bind fun a => (rwalk g f (o :: rest) (path ++ [(x, false)]) R H n).map fun b => .ite x a b
        else none
    else none

section
variable {C : Cfg} {Φ : Nat → List D → Option (List D)} {ops : List Oper} {S : List Slot} {befs : List Nat} {H0 : List SObj} {N : Nat} {R : List Rec} {e : List D}

theorem holds_ext {c : Cd} (hs : ∀ p ∈ c, p.1.sc e.length = true) (ds : List D) : Holds (e ++ ds) c ↔ Holds e c := by
  constructor
  · intro h p hp
    rw [← Ex.den_ext e ds p.1 (hs p hp)]; exact h p hp
  · intro h p hp
    rw [Ex.den_ext e ds p.1 (hs p hp)]; exact h p hp

theorem CallFact.ext {f : Nat} {h : Hand} (hc : CallFact Φ C e f h) (ds : List D) : CallFact Φ C (e ++ ds) f h := by
  obtain ⟨hsc, s, rs, h1, h2, h3⟩ := hc
  refine ⟨fun u hu => Ex.sc_mono (by simp) u (hsc u hu), s, rs, h1, ?_, fun i hi => ?_⟩
  · have : dens (e ++ ds) h.us = dens e h.us := List.map_congr_left fun u hu => Ex.den_ext e ds u (hsc u hu)
    rw [this]; exact h2
  · obtain ⟨h4, h5⟩ := h3 i hi
    refine ⟨by simp; omega, ?_⟩
    rw [← h5]
    simp [List.getElem?_append_left h4]

theorem RecOk.ext {i : Nat} {o : Oper} {r : Rec} (h : RecOk C Φ ops S befs H0 N R e i o r) (hi : i < R.length) (R' : List Rec) (ds : List D) : RecOk C Φ ops S befs H0 N (R ++ R') (e ++ ds) i o r := by
  have hsc : ∀ x : Ex, x.sc e.length = true → x.sc (e ++ ds).length = true := fun x hx => Ex.sc_mono (by simp) x hx
  have htake : (R ++ R').take i = R.take i := by rw [List.take_append_of_le_length (by omega)]
  refine ⟨fun c hc => hsc _ (h.scP c hc), fun c hc => hsc _ (h.scC c hc), fun hr g hg => hsc _ (h.scG hr g hg), fun ex hx => hsc _ (h.scD ex hx), (holds_ext h.scP ds).2 h.path, by have := h.n; simp; omega, fun p => by rw [htake]; exact h.heap p, h.befEq, h.befLt, h.dst, h.guard0, fun g want hg => ?_,
    fun hr => by rw [htake]; exact h.sym hr, fun hr hh g hg => ?_, fun hr f hd hf => (h.call hr f hd hf).ext ds, h.eff, h.idsN, h.mods, h.fz, h.win, h.win2, h.win3⟩
  · obtain ⟨h1, rg, og, h2, h3, h4, h5⟩ := h.guard g want hg
    have hgl : g < R.length := (List.getElem?_eq_some_iff.1 h2).1
    refine ⟨h1, rg, og, by rw [List.getElem?_append_left hgl]; exact h2, h3, h4, ?_⟩
    rcases h5 with h5 | ⟨h5, ex, h6, h7, h8, h9⟩
    · exact .inl h5
    · refine .inr ⟨h5, ex, h6, fun c hc => hsc _ (h7 c hc), fun hr => ?_, fun hr => ?_⟩
      · rw [holds_ext h.scC, holds_ext h7]; exact h8 hr
      · rw [holds_ext h7]; exact h9 hr
  · rw [Ex.den_ext e ds g (h.scG hr g hg)]
    exact h.gs hr ((holds_ext h.scC ds).1 hh) g hg

/-- all that came so far is well -/
def Sofar (C : Cfg) (Φ : Nat → List D → Option (List D)) (ops : List Oper) (S : List Slot) (befs : List Nat) (H0 : List SObj) (N : Nat) (R : List Rec) (e : List D) : Prop :=
  ∀ i o, i < R.length → ops[i]? = some o → ∃ r, R[i]? = some r ∧ RecOk C Φ ops S befs H0 N R e i o r

theorem Sofar.ext (h : Sofar C Φ ops S befs H0 N R e) (ds : List D) : Sofar C Φ ops S befs H0 N R (e ++ ds) := fun i o hi ho => by
  obtain ⟨r, h1, h2⟩ := h i o hi ho
  exact ⟨r, h1, by have := h2.ext hi [] ds; rwa [List.append_nil] at this⟩

theorem Sofar.snoc (h : Sofar C Φ ops S befs H0 N R e) {r : Rec} {ds : List D} (hr : ∀ o, ops[R.length]? = some o → RecOk C Φ ops S befs H0 N (R ++ [r]) (e ++ ds) R.length o r) : Sofar C Φ ops S befs H0 N (R ++ [r]) (e ++ ds) := by
  intro i o hi ho
  simp only [List.length_append, List.length_singleton] at hi
  rcases Nat.lt_or_ge i R.length with h1 | h1
  · obtain ⟨r', h2, h3⟩ := h i o h1 ho
    exact ⟨r', by rw [List.getElem?_append_left h1]; exact h2, h3.ext h1 [r] ds⟩
  · have : i = R.length := by omega
    subst this
    exact ⟨r, by simp, hr o ho⟩

theorem obOf_snoc {r : Rec} {p : Nat} {acc : SObj} : obOf C (fun _ => true) p (R ++ [r]) 0 acc = if r.run = true then (r.out.ef.mod C p).getD (obOf C (fun _ => true) p R 0 acc) else obOf C (fun _ => true) p R 0 acc := by
  rw [obOf_append]
  simp [obOf]

theorem condOf_ok {g : RCfg} {path : Cd} {bef : Nat} {gd : Option (Nat × Bool)} {c : Option Cd} (h : condOf path R gd = some c) (hp : Holds e path) (hsc : ∀ (i : Nat) (r : Rec), R[i]? = some r → (∀ c ∈ r.cd, c.1.sc e.length = true) ∧ ∀ ex, r.out.dst = .v (.one (.bool ex)) → ex.sc e.length = true) (hat : guardAt g bef gd = true) :
    (gd = none → c = some []) ∧ ∀ j want, gd = some (j, want) → bef.testBit j = true ∧ ∃ rg og, R[j]? = some rg ∧ g.ops[j]? = some og ∧ og.dst.isSome = true ∧
      ((rg.run = false ∧ c = none) ∨ (rg.run = true ∧ ∃ ex, rg.out.dst = .v (.one (.bool ex)) ∧ (∀ c ∈ (ex, want) :: rg.cd, c.1.sc e.length = true) ∧
        (∀ cd, c = some cd → (Holds e cd ↔ Holds e ((ex, want) :: rg.cd))) ∧ (c = none → ¬ Holds e ((ex, want) :: rg.cd)))) := by
  cases gd with
  | none =>
    simp only [condOf, Option.some.injEq] at h
    exact ⟨fun _ => h.symm, fun j want hj => by cases hj⟩
  | some jw =>
    obtain ⟨j, want⟩ := jw
    refine ⟨fun hn => by (cases hn), fun j' want' hj => ?_⟩
    cases hj
    simp only [condOf] at h
    obtain ⟨rg, h1, h2⟩ := Option.bind_eq_some_iff.1 h
    simp only [guardAt, Bool.and_eq_true] at hat
    obtain ⟨ha, hb⟩ := hat
    split at hb
    · rename_i og hog
      refine ⟨ha, rg, og, h1, hog, hb, ?_⟩
      split at h2
      · rename_i hrun
        right
        refine ⟨hrun, ?_⟩
        split at h2
        · rename_i ex hex
          simp only [Option.some.injEq] at h2
          refine ⟨ex, hex, fun c hc => ?_, fun cd hcd => ?_, fun hcd => ?_⟩
          · rcases List.mem_cons.1 hc with rfl | hc
            · exact (hsc j rg h1).2 ex hex
            · exact (hsc j rg h1).1 c hc
          · subst hcd
            exact (prune_some hp h2).1
          · subst hcd
            exact prune_none hp h2
        · cases h2
      · rename_i hrun
        left
        cases h2
        exact ⟨by simpa using hrun, rfl⟩
    · cases hb

theorem outAt_ok {g : RCfg} {H : List SObj} {n : Nat} {ids : List Nat} {bits : Nat} {out : Done} (h : outAt g H n ids bits out = true) :
    (∀ p ∈ ids, p < g.N) ∧ (∀ p ∈ ids, (look H p).within bits = true) ∧ (∀ p ∈ out.ef.touch g.C, p ∈ ids) ∧ (∀ p T l, out.ef.mod g.C p ≠ some (.cells T l true)) ∧
    (∀ p s, out.ef.mod g.C p = some s → s.within bits = true) ∧ out.dst.within bits = true ∧ (∀ c ∈ out.gs, c.sc n = true) ∧ (∀ ex, out.dst = .v (.one (.bool ex)) → ex.sc (n + out.ef.grow g.C) = true) := by
  simp only [outAt, Bool.and_eq_true, List.all_eq_true, decide_eq_true_eq, List.contains_eq_mem] at h
  obtain ⟨⟨⟨⟨h1, h2⟩, h3⟩, h4⟩, h5⟩ := h
  refine ⟨fun p hp => (h1 p hp).1, fun p hp => (h1 p hp).2, fun p hp => (h2 p hp).1.1, fun p T l hq => ?_, fun p s hq => ?_, h3, h4, fun ex hx => by rw [hx] at h5; exact h5⟩
  · have := (h2 p (Ef.touch_ok hq)).1.2
    rw [hq] at this
    cases this
  · have := (h2 p (Ef.touch_ok hq)).2
    rw [hq] at this
    simpa using this

/-- what a run of the term tells -/
theorem rwalk_ok {g : RCfg} (hsig : SigOk g.C Φ) : ∀ (f : Nat) (rest : List Oper) (path : Cd) (R : List Rec) (H : List SObj) (n : Nat) (t : Tm RLeaf) (e : List D) (res : Res RLeaf),
    rwalk g f rest path R H n = some t → Run Φ none t e res → e.length = n → Holds e path → (∀ c ∈ path, c.1.sc n = true) → Sofar g.C Φ g.ops g.S g.befs H0 g.N R e → rest = g.ops.drop R.length → R.length ≤ g.ops.length →
    (∀ p, look H p = obOf g.C (fun _ => true) p R 0 (look H0 p)) → ∃ lf ds, res = .leaf lf (e ++ ds) ∧ lf.n = (e ++ ds).length ∧ lf.R.length = g.ops.length ∧ Sofar g.C Φ g.ops g.S g.befs H0 g.N lf.R (e ++ ds) ∧
      (∀ p, look lf.H p = obOf g.C (fun _ => true) p lf.R 0 (look H0 p)) ∧ leafOk g lf.R = true
  | 0, _, _, _, _, _, _, _, _, h, _, _, _, _, _, _, _, _ => by cases h
  | _ + 1, [], path, R, H, n, t, e, res, h, hr, hn, hp, hsc, hso, hrest, hle, hH => by
    simp only [rwalk, Option.ite_none_right_eq_some, Option.some.injEq] at h
    obtain ⟨hlf, rfl⟩ := h
    cases hr
    refine ⟨_, [], by rw [List.append_nil], by rw [List.append_nil]; exact hn.symm, ?_, by rw [List.append_nil]; exact hso, hH, hlf⟩
    have := congrArg List.length hrest
    simp only [List.length_nil, List.length_drop] at this
    show R.length = _
    omega
  | f + 1, o :: rest, path, R, H, n, t, e, res, h, hr, hn, hp, hsc, hso, hrest, hle, hH => by
    have hio : g.ops[R.length]? = some o := by
      have : (g.ops.drop R.length)[0]? = some o := by rw [← hrest]; rfl
      simpa [List.getElem?_drop] using this
    have hil : R.length < g.ops.length := (List.getElem?_eq_some_iff.1 hio).1
    have hrest' : rest = g.ops.drop (R.length + 1) := by
      rw [← List.drop_drop, ← hrest]; rfl
    have hscs : ∀ (i : Nat) (r : Rec), R[i]? = some r → (∀ c ∈ r.cd, c.1.sc e.length = true) ∧ ∀ ex, r.out.dst = .v (.one (.bool ex)) → ex.sc e.length = true := by
      intro i r hi
      have hlt := (List.getElem?_eq_some_iff.1 hi).1
      obtain ⟨r', h1, h2⟩ := hso i g.ops[i] hlt (List.getElem?_eq_getElem (by omega))
      rw [hi] at h1
      cases h1
      exact ⟨h2.scC, h2.scD⟩
    simp only [rwalk] at h
    generalize hbf : g.befs.getD R.length 0 = bef at h
    split at h
    · rename_i hat
      simp only [Bool.and_eq_true, decide_eq_true_eq] at hat
      obtain ⟨⟨hblt, hdst⟩, hgat⟩ := hat
      have hbl : ∀ j, bef.testBit j = true → j < R.length := fun j hj => by
        rcases Nat.lt_or_ge j R.length with h1 | h1
        · exact h1
        · have := Nat.testBit_lt_two_pow (Nat.lt_of_lt_of_le hblt (Nat.pow_le_pow_right (by omega) h1))
          rw [this] at hj; cases hj
      have hd : ∀ t, o.dst = some t → ixOf g.ops t 0 = some R.length ∧ t < g.S.length := fun t ht => by
        rw [ht] at hdst
        simp only [dstAt, Bool.and_eq_true, beq_iff_eq, decide_eq_true_eq] at hdst
        exact hdst
      obtain ⟨c, hc, h⟩ := Option.bind_eq_some_iff.1 h
      obtain ⟨hg0, hg1⟩ := condOf_ok hc hp hscs hgat
      have hsame : ∀ (r : Rec), (R ++ [r]).take R.length = R := fun r => by rw [List.take_append_of_le_length (Nat.le_refl _), List.take_length]
      have hgetg : ∀ (r : Rec) (j : Nat) (rg : Rec), R[j]? = some rg → (R ++ [r])[j]? = some rg := fun r j rg hj => by rw [List.getElem?_append_left (List.getElem?_eq_some_iff.1 hj).1]; exact hj
      cases c with
      | none =>
        simp only at h
        refine rwalk_ok hsig f rest path _ H n t e res h hr hn hp hsc ?_ (by simpa using hrest') (by simp; omega) (fun p => by rw [obOf_snoc]; simpa using hH p)
        have := hso.snoc (r := ⟨path, [], false, n, 0, 0, [], ⟨[], skipSlot, .keep⟩, H, bef⟩) (ds := []) fun o' ho' => ?_
        · rwa [List.append_nil] at this
        · rw [hio] at ho'
          cases ho'
          rw [List.append_nil]
          refine ⟨fun c hc => by rw [hn]; exact hsc c hc, fun c hc => (by cases hc), fun h => (by cases h), fun ex hx => by simp [skipSlot] at hx, hp, by show n ≤ e.length; omega, fun p => by rw [hsame]; exact hH p, hbf.symm, hbl, hd, fun hn => ?_, fun j want hj => ?_, fun h => (by cases h), fun h => (by cases h), fun h => (by cases h), fun h => (by cases h), fun p hp => (by cases hp), fun h => (by cases h), fun h => (by cases h), fun p hp => (by cases hp), fun h => (by cases h), fun h => (by cases h)⟩
          · have := hg0 hn; cases this
          · obtain ⟨k1, rg, og, k2, k3, k4, k5⟩ := hg1 j want hj
            refine ⟨k1, rg, og, hgetg _ j rg k2, k3, k4, ?_⟩
            rcases k5 with ⟨k5, _⟩ | ⟨k5, ex, k6, k7, _, k9⟩
            · exact .inl ⟨k5, rfl⟩
            · exact .inr ⟨k5, ex, k6, k7, fun h => (by cases h), fun _ => k9 rfl⟩
      | some cd =>
        simp only at h
        generalize hids : closeIds H 60 (o.op.operands.toList.flatMap (rawLk g R)) ((List.range (newOf g.C o.op)).map (H.length + ·)) = ids at h
        obtain ⟨out, hout, h⟩ := Option.bind_eq_some_iff.1 h
        split at h
        · rename_i hat2
          simp only [Bool.and_eq_true, List.all_eq_true] at hat2
          obtain ⟨hcsc, hoat⟩ := hat2
          obtain ⟨o1, o2, o3, o4, o5, o6, o7, o8⟩ := outAt_ok hoat
          -- what is written down of it
          generalize hrr : (⟨path, cd, true, n, H.length, n, ids, out, H, bef⟩ : Rec) = r at h
          have hrec : ∀ ds : List D, out.ef.grow g.C ≤ ds.length → (Holds e cd → ∀ g ∈ out.gs, (g.den e).bool = true) → (∀ f h, out.ef = .call f h → CallFact Φ g.C (e ++ ds) f h) → (cd = [] ∨ out.ef = .keep) →
              Sofar g.C Φ g.ops g.S g.befs H0 g.N (R ++ [r]) (e ++ ds) := by
            intro ds f0 f1 f2 f3
            refine hso.snoc fun o' ho' => ?_
            rw [hio] at ho'
            cases ho'
            have hmono : ∀ x : Ex, x.sc n = true → x.sc (e ++ ds).length = true := fun x hx => Ex.sc_mono (by simp; omega) x hx
            have hce : ∀ c ∈ cd, c.1.sc e.length = true := fun c hc => by rw [hn]; exact hcsc c hc
            have hpe : ∀ c ∈ path, c.1.sc e.length = true := fun c hc => by rw [hn]; exact hsc c hc
            subst hrr
            refine ⟨fun c hc => hmono _ (hsc c hc), fun c hc => hmono _ (hcsc c hc), fun _ c hc => hmono _ (o7 c hc), fun ex hx => Ex.sc_mono (by simp; omega) _ (o8 ex hx), (holds_ext hpe ds).2 hp, by show n ≤ _; simp; omega, fun p => by rw [hsame]; exact hH p, hbf.symm, hbl, hd, fun hn => ?_, fun j want hj => ?_, fun _ => by rw [hsame]; exact hout,
              fun _ hh c hc => ?_, fun _ f h hf => f2 f h hf, fun _ => f3, o1, fun _ => o3, fun _ => o4, o2, fun _ => o5, fun _ => o6⟩
            · exact ⟨rfl, by have := hg0 hn; injection this⟩
            · obtain ⟨k1, rg, og, k2, k3, k4, k5⟩ := hg1 j want hj
              refine ⟨k1, rg, og, hgetg _ j rg k2, k3, k4, ?_⟩
              rcases k5 with ⟨_, k5⟩ | ⟨k5, ex, k6, k7, k8, _⟩
              · cases k5
              · refine .inr ⟨k5, ex, k6, fun c hc => Ex.sc_mono (by simp) _ (k7 c hc), fun _ => ?_, fun h => (by cases h)⟩
                rw [holds_ext hce, holds_ext k7]
                exact k8 cd rfl
            · have hcc : c.sc e.length = true := by rw [hn]; exact o7 c hc
              rw [Ex.den_ext e ds c hcc]
              exact f1 ((holds_ext hce ds).1 hh) c hc
          have hH' : ∀ p, look (out.ef.app g.C H) p = obOf g.C (fun _ => true) p (R ++ [r]) 0 (look H0 p) := by
            intro p
            rw [look_app, obOf_snoc, ← hrr, if_pos rfl, hH p]
          have hrl : rest = g.ops.drop (R ++ [r]).length := by simpa using hrest'
          have hll : (R ++ [r]).length ≤ g.ops.length := by simp; omega
          have hsplit : ∀ (x : Ex) (b : Bool) (l : Cd), cd = (x, b) :: l → ((rwalk g f (o :: rest) (path ++ [(x, true)]) R H n).bind fun a => (rwalk g f (o :: rest) (path ++ [(x, false)]) R H n).map fun b => Tm.ite x a b) = some t →
              ∃ lf ds, res = .leaf lf (e ++ ds) ∧ lf.n = (e ++ ds).length ∧ lf.R.length = g.ops.length ∧ Sofar g.C Φ g.ops g.S g.befs H0 g.N lf.R (e ++ ds) ∧ (∀ p, look lf.H p = obOf g.C (fun _ => true) p lf.R 0 (look H0 p)) ∧ leafOk g lf.R = true := by
            intro x b l hcd h
            obtain ⟨ta, h1, h⟩ := Option.bind_eq_some_iff.1 h
            obtain ⟨tb, h2, rfl⟩ := Option.map_eq_some_iff.1 h
            have hx : x.sc n = true := hcsc (x, b) (by rw [hcd]; exact List.mem_cons_self ..)
            have hsc' : ∀ b, ∀ c ∈ path ++ [(x, b)], c.1.sc n = true := by
              intro b c hc
              rcases List.mem_append.1 hc with hc | hc
              · exact hsc c hc
              · rw [List.mem_singleton] at hc; rw [hc]; exact hx
            have hp' : ∀ b, (x.den e).bool = b → Holds e (path ++ [(x, b)]) := by
              intro b hb c hc
              rcases List.mem_append.1 hc with hc | hc
              · exact hp c hc
              · rw [List.mem_singleton] at hc; rw [hc]; exact hb
            cases hr with
            | iteT q1 q2 => exact rwalk_ok hsig f (o :: rest) _ R H n ta e res h1 q2 hn (hp' true q1) (hsc' true) hso hrest hle hH
            | iteF q1 q2 => exact rwalk_ok hsig f (o :: rest) _ R H n tb e res h2 q2 hn (hp' false q1) (hsc' false) hso hrest hle hH
          cases hef : out.ef with
          | keep =>
            simp only [hef] at h hH'
            obtain ⟨t', ht', rfl⟩ := Option.map_eq_some_iff.1 h
            obtain ⟨q1, q2⟩ := run_wrapGs hr
            have hs1 := hrec [] (by rw [hef]; exact Nat.zero_le _) (fun hh c hc => imp_ok (q1 _ (List.mem_map_of_mem hc)) hh) (fun f h hf => by rw [hef] at hf; cases hf) (.inr hef)
            rw [List.append_nil] at hs1
            exact rwalk_ok hsig f rest path _ _ n t' e res ht' q2 hn hp hsc hs1 hrl hll hH'
          | put o' s' =>
            simp only [hef] at h hH'
            cases cd with
            | nil =>
              obtain ⟨t', ht', rfl⟩ := Option.map_eq_some_iff.1 h
              obtain ⟨q1, q2⟩ := run_wrapGs hr
              have hs1 := hrec [] (by rw [hef]; exact Nat.zero_le _) (fun _ c hc => q1 c hc) (fun f h hf => by rw [hef] at hf; cases hf) (.inl rfl)
              rw [List.append_nil] at hs1
              exact rwalk_ok hsig f rest path _ _ n t' e res ht' q2 hn hp hsc hs1 hrl hll hH'
            | cons xb l => exact hsplit xb.1 xb.2 l rfl h
          | call fid hd' =>
            simp only [hef] at h hH'
            cases cd with
            | nil =>
              simp only at h
              split at h
              · rename_i hck
                simp only [Bool.and_eq_true, List.all_eq_true, beq_iff_eq, List.isEmpty_iff] at hck
                obtain ⟨⟨hus, hba⟩, hgse⟩ := hck
                obtain ⟨t', ht', rfl⟩ := Option.map_eq_some_iff.1 h
                obtain ⟨sg, hsg, ht'⟩ := Option.bind_eq_some_iff.1 ht'
                cases hr with
                | call hc1 hc2 =>
                  rename_i ds
                  have hdl := hsig.len _ _ hsg _ _ hc1
                  have hs1 := hrec ds (by rw [hef]; simp only [Ef.grow, hsg]; omega) (fun _ c hc => by rw [hgse] at hc; cases hc) (fun f h hf => by
                    rw [hef] at hf
                    cases hf
                    refine ⟨fun u hu => Ex.sc_mono (by simp; omega) u (hus u hu), sg, ds, hsg, ?_, fun i hi => ?_⟩
                    · have : dens (e ++ ds) hd'.us = dens e hd'.us := List.map_congr_left fun u hu => Ex.den_ext e ds u (by rw [hn]; exact hus u hu)
                      rw [this]; exact hc1
                    · rw [hba, ← hn]
                      refine ⟨by simp; omega, ?_⟩
                      simp [List.getElem?_append_right]) (.inl rfl)
                  obtain ⟨lf, ds', z1, z2, z3, z4, z5⟩ := rwalk_ok hsig f rest path _ _ (n + sg.outN) t' (e ++ ds) res ht' hc2 (by simp; omega) ((holds_ext (fun c hc => by rw [hn]; exact hsc c hc) ds).2 hp) (fun c hc => Ex.sc_mono (by omega) _ (hsc c hc)) hs1 hrl hll hH'
                  exact ⟨lf, ds ++ ds', by rw [← List.append_assoc]; exact z1, by rw [← List.append_assoc]; exact z2, z3, by rw [← List.append_assoc]; exact z4, z5⟩
              · cases h
            | cons xb l => exact hsplit xb.1 xb.2 l rfl h
        · cases h
    · cases h

end
end Glx
namespace Glx
open Go

def regEnd : List Oper → List Rec → List Slot → List Slot
  | o :: ops, r :: R, S => regEnd ops R (match o.dst with
    | some t => S.set t (if r.run && r.cd.isEmpty then r.out.dst else skipSlot)
    | none => S)
  | _, _, S => S

theorem regEnd_length : ∀ (ops : List Oper) (R : List Rec) (S : List Slot), (regEnd ops R S).length = S.length
  | [], _, _ => by simp [regEnd]
  | _ :: _, [], _ => by simp [regEnd]
  | o :: ops, r :: R, S => by
    simp only [regEnd]
    rw [regEnd_length ops R]
    split <;> simp

theorem regEnd_get : ∀ (ops : List Oper) (R : List Rec) (S : List Slot) (t : Nat) (s : Slot), (regEnd ops R S)[t]? = some s →
    ((∀ (i : Nat) (o : Oper), ops[i]? = some o → i < R.length → o.dst ≠ some t) ∧ S[t]? = some s) ∨
    ∃ (i : Nat) (o : Oper) (r : Rec), ops[i]? = some o ∧ R[i]? = some r ∧ o.dst = some t ∧ s = if r.run && r.cd.isEmpty then r.out.dst else skipSlot
  | [], R, S, t, s, h => .inl ⟨fun i o hi => by simp at hi, by simpa [regEnd] using h⟩
  | o :: ops, [], S, t, s, h => .inl ⟨fun i o hi hl => by simp at hl, by simpa [regEnd] using h⟩
  | o :: ops, r :: R, S, t, s, h => by
    simp only [regEnd] at h
    rcases regEnd_get ops R _ t s h with ⟨h1, h2⟩ | ⟨i, o', r', h1, h2, h3, h4⟩
    · by_cases hd : o.dst = some t
      · right
        rw [hd] at h2
        simp only at h2
        have hl : t < S.length := by have := (List.getElem?_eq_some_iff.1 h2).1; simpa using this
        rw [List.getElem?_set_self hl] at h2
        exact ⟨0, o, r, rfl, rfl, hd, (Option.some.inj h2).symm⟩
      · left
        refine ⟨fun i o' hi hl => ?_, ?_⟩
        · cases i with
          | zero => simp only [List.getElem?_cons_zero, Option.some.injEq] at hi; subst hi; exact hd
          | succ i => exact h1 i o' (by simpa using hi) (by simpa using hl)
        · cases hq : o.dst with
          | none => rw [hq] at h2; exact h2
          | some u =>
            rw [hq] at h2
            simp only at h2
            rwa [List.getElem?_set_ne (by rintro rfl; exact hd hq)] at h2
    · exact .inr ⟨i + 1, o', r', by simpa using h1, by simpa using h2, h3, h4⟩

section
variable {C : Cfg} {Φ : Nat → List D → Option (List D)} {x : Env} {w0 : World} {M : Nat → Prop}

/-- the same picture: another list of the same blocks; a longer list of data; another count of draws -/
theorem Sat.relist (hs : Sat x w0 M) {H : List SObj} (hH : ∀ p, look H p = look x.H p) (ds : List D) (k : Nat) :
    Sat { x with H := H, e := x.e ++ ds, w := { x.w with drawn := k } } w0 M ∧ Ext x { x with H := H, e := x.e ++ ds, w := { x.w with drawn := k } } := by
  have he : Ext x { x with H := H, e := x.e ++ ds, w := { x.w with drawn := k } } :=
    ⟨rfl, fun _ h => h, ⟨ds, rfl⟩, fun _ _ => rfl, fun o h => by rw [← hH] at h; exact h, fun o T l fz _ h => ⟨⟨l, fz, by rw [← hH]; exact h⟩, rfl⟩, fun o T e u _ h => ⟨e, u, by rw [← hH]; exact h, Nat.le_refl _, fun _ => rfl⟩⟩
  refine ⟨Sat.step hs he (fun _ => False) (fun o _ => ⟨hH o, rfl⟩) (fun _ _ _ _ _ => ⟨rfl, Iff.rfl⟩) (fun _ h => h.elim) (fun _ _ _ h => h.elim) hs.ibound (fun _ _ h => h.elim) ?_, he⟩
  exact ⟨hs.frame.os, hs.frame.tape, hs.frame.output, hs.frame.size, hs.frame.block⟩

def region (C : Cfg) (draw : Bool) (ops : Array Oper) (S : List Slot) (H : List SObj) (n : Nat) : Option (Tm RLeaf) :=
  let l := ops.toList
  rwalk ⟨C, l, S, H.length + (l.map fun o => newOf C o.op).foldl (· + ·) 0, draw, if draw then befsOf l [] else (List.range l.length).map fun i => 2 ^ i - 1⟩ (3 * l.length + 20) l [] [] H n

theorem apartAll_ok {rj : Rec} : ∀ {l : List Rec} {i0 : Nat}, apartAll C rj l i0 = true → ∀ (i : Nat) (ri : Rec), l[i]? = some ri → rj.bef.testBit (i0 + i) = true ∨ apartAt C ri rj = true
  | [], _, _, i, ri, h => by simp at h
  | r :: l, i0, h, i, ri, hi => by
    simp only [apartAll, Bool.and_eq_true, Bool.or_eq_true] at h
    cases i with
    | zero => simp only [List.getElem?_cons_zero, Option.some.injEq] at hi; subst hi; exact h.1
    | succ i => have := apartAll_ok h.2 i ri (by simpa using hi); rwa [Nat.add_right_comm i0 1 i] at this

theorem conf_ok {g : RCfg} {R : List Rec} (h : leafOk g R = true) (i j : Nat) (ri rj : Rec) (hij : i < j) (hi : R[i]? = some ri) (hj : R[j]? = some rj) (hri : ri.run = true) (hrj : rj.run = true) :
    rj.bef.testBit i = true ∨ ((∀ p ∈ ri.out.ef.touch g.C, p ∉ rj.ids) ∧ (∀ p ∈ rj.out.ef.touch g.C, p ∉ ri.ids)) := by
  have hjl : j < R.length := (List.getElem?_eq_some_iff.1 hj).1
  unfold leafOk at h
  split at h
  · simp only [List.all_eq_true, List.mem_range] at h
    have := h j hjl
    rw [hj] at this
    simp only at this
    rcases apartAll_ok this i ri (by rw [List.getElem?_take_of_lt hij]; exact hi) with h1 | h1
    · rw [Nat.zero_add] at h1; exact .inl h1
    · right
      simp only [apartAt, hri, hrj, Bool.not_true, Bool.false_or, Bool.and_eq_true, List.all_eq_true, Bool.not_eq_true', List.contains_eq_mem, decide_eq_false_iff_not] at h1
      exact h1
  · simp only [List.all_eq_true, List.mem_range] at h
    have := h j hjl
    rw [hj] at this
    simp only [beq_iff_eq] at this
    left
    rw [this, Nat.testBit_two_pow_sub_one]
    simpa using hij

theorem befOf_spec {befs : List Nat} {o : Oper} {j : Nat} : (befOf befs o).testBit j = true ↔ ∃ e ∈ o.after.toList, Region.binds .any e = true ∧ (e.on = j ∨ (befs.getD e.on 0).testBit j = true) := by
  unfold befOf
  have key : ∀ (l : List Edge) (s : Nat), (l.foldl (fun s e => if Region.binds .any e then s ||| 2 ^ e.on ||| befs.getD e.on 0 else s) s).testBit j = true ↔
      s.testBit j = true ∨ ∃ e ∈ l, Region.binds .any e = true ∧ (e.on = j ∨ (befs.getD e.on 0).testBit j = true) := by
    intro l
    induction l with
    | nil => intro s; simp
    | cons e l ih =>
      intro s
      rw [List.foldl_cons, ih]
      by_cases hb : Region.binds .any e = true
      · rw [if_pos hb]
        simp only [Nat.testBit_or, Bool.or_eq_true, Nat.testBit_two_pow, decide_eq_true_eq, List.mem_cons, exists_eq_or_imp, hb, true_and]
        constructor
        · rintro ((h | h) | h)
          · rcases h with h | h
            · exact .inl h
            · exact .inr (.inl (.inl h))
          · exact .inr (.inl (.inr h))
          · exact .inr (.inr h)
        · rintro (h | (h | h) | h)
          · exact .inl (.inl (.inl h))
          · exact .inl (.inl (.inr h))
          · exact .inl (.inr h)
          · exact .inr h
      · rw [if_neg hb]
        simp [hb]
  rw [key]
  simp

theorem befsOf_spec : ∀ (l : List Oper) (acc : List Nat), (befsOf l acc).length = acc.length + l.length ∧ (∀ i, i < acc.length → (befsOf l acc).getD i 0 = acc.getD i 0) ∧
    ∀ (i : Nat) (o : Oper), l[i]? = some o → ∃ pre, (befsOf l acc).getD (acc.length + i) 0 = befOf pre o ∧ pre.length = acc.length + i ∧ ∀ k, k < pre.length → pre.getD k 0 = (befsOf l acc).getD k 0
  | [], acc => ⟨by simp [befsOf], fun i _ => rfl, fun i o hi => by simp at hi⟩
  | o :: l, acc => by
    obtain ⟨h1, h2, h3⟩ := befsOf_spec l (acc ++ [befOf acc o])
    simp only [befsOf]
    refine ⟨by rw [h1]; simp; omega, fun i hi => ?_, fun i o' hi => ?_⟩
    · rw [h2 i (by simp; omega)]
      simp [List.getElem?_append_left hi]
    · cases i with
      | zero =>
        simp only [List.getElem?_cons_zero, Option.some.injEq] at hi
        subst hi
        refine ⟨acc, ?_, rfl, fun k hk => ?_⟩
        · rw [h2 _ (by simp)]; simp
        · rw [h2 k (by simp; omega)]; simp [List.getElem?_append_left hk]
      | succ i =>
        obtain ⟨pre, k1, k2, k3⟩ := h3 i o' (by simpa using hi)
        simp only [List.length_append, List.length_singleton] at k1 k2
        exact ⟨pre, by rw [show acc.length + (i + 1) = acc.length + 1 + i by omega]; exact k1, by omega, k3⟩

variable {ops : List Oper} {S : List Slot} {befs : List Nat} {H0 : List SObj} {N : Nat} {R : List Rec} {x0 : Env} {ds : List Deferred}

theorem Inv.congr {L L' : Nat → Bool} {a : Act} (h : Inv C ops S H0 R x0 w0 M ds L a x) (hl : ∀ j, j < ops.length → L j = L' j) (hR : R.length = ops.length) : Inv C ops S H0 R x0 w0 M ds L' a x := by
  refine ⟨h.P, h.e, h.sat, h.ext, fun p => ?_, h.back, h.defers, h.size, fun t s hi hs => h.old t s (fun i hi' => ?_) hs, fun t i hi hL => ?_⟩
  · rw [h.heap]
    refine obOf_congr _ _ _ fun j r hj _ _ => ?_
    have := (List.getElem?_eq_some_iff.1 hj).1
    rw [Nat.zero_add]
    exact hl j (by omega)
  · obtain ⟨_, o, ho, _⟩ := ixOf_spec hi'
    have := (List.getElem?_eq_some_iff.1 ho).1
    rw [hl i (by omega)]
    exact hi i hi'
  · obtain ⟨_, o, ho, _⟩ := ixOf_spec hi
    have := (List.getElem?_eq_some_iff.1 ho).1
    exact h.new t i hi (by rw [hl i (by omega)]; exact hL)

/-- by text -/
theorem reg_seq (hsig : SigOk C Φ) (hok : RegOk C Φ ops S befs H0 N R x0.e) (hbef : ∀ (j : Nat) (r : Rec), R[j]? = some r → ∀ m, r.bef.testBit m = true → m < j) {Q : Exit → Act → World → Prop}
    (hQ : ∀ a x, Inv C ops S H0 R x0 w0 M ds (fun _ => true) a x → Q .normal a x.w) : ∀ (k i : Nat) (a : Act) (x : Env), i + k = ops.length → Inv C ops S H0 R x0 w0 M ds (fun j => decide (j < i)) a x →
      wpOps C.P ops.toArray Q (List.range' i k) a x.w
  | 0, i, a, x, hk, h => hQ a x (h.congr (fun j hj => by simp; omega) hok.len)
  | k + 1, i, a, x, hk, h => by
    have hi : i < ops.length := by omega
    rw [List.range'_succ, wpOps_cons]
    refine reg_step hsig hok h (List.getElem?_eq_getElem hi) (by simp) (fun r hr j hj => by simpa using hbef i r hr j hj) (fun j r hr hj m hm => ?_) (fun a' x' h' => ?_)
    · have := hbef j r hr m hm
      simp only [decide_eq_true_eq] at hj ⊢
      omega
    · refine reg_seq hsig hok hbef hQ k (i + 1) a' x' (by omega) (h'.congr (fun j hj => ?_) hok.len)
      by_cases h1 : j = i
      · simp [h1]
      · have : (j == i) = false := by simp [h1]
        rw [this, Bool.false_or]
        by_cases h2 : j < i
        · simp [h2]; omega
        · simp [h2]; omega

/-- in any order -/
theorem reg_any (hsig : SigOk C Φ) (hok : RegOk C Φ ops S befs H0 N R x0.e) (hbef : ∀ (j : Nat) (o : Oper), ops[j]? = some o → ∃ pre, befs.getD j 0 = befOf pre o ∧ pre.length = j ∧ ∀ k, k < pre.length → pre.getD k 0 = befs.getD k 0) {Q : Exit → Act → World → Prop}
    (hQ : ∀ a x, Inv C ops S H0 R x0 w0 M ds (fun _ => true) a x → Q .normal a x.w) : ∀ (fuel : Nat) (listed : Array Bool) (a : Act) (x : Env) (U : List Nat), listed.size = ops.length → U.Nodup → U.length = fuel →
      (∀ j, j < ops.length → (j ∈ U ↔ listed.getD j false = false)) → (∀ j ∈ U, j < ops.length) → (∀ (j : Nat) (r : Rec), R[j]? = some r → listed.getD j false = true → ∀ m, r.bef.testBit m = true → listed.getD m false = true) →
      Inv C ops S H0 R x0 w0 M ds (fun j => listed.getD j false) a x → wpAny C.P .any ops.toArray Q fuel listed a x.w := by
  intro fuel
  have hdone : ∀ (listed : Array Bool) (a : Act) (x : Env) (U : List Nat), (∀ j, j < ops.length → (j ∈ U ↔ listed.getD j false = false)) → U = [] → Inv C ops S H0 R x0 w0 M ds (fun j => listed.getD j false) a x → Q .normal a x.w := by
    intro listed a x U hU hnil h
    subst hnil
    refine hQ a x (h.congr (fun j hj => ?_) hok.len)
    have := hU j hj
    cases hq : listed.getD j false with
    | true => rfl
    | false => have := this.2 hq; cases this
  have hready : ∀ (listed : Array Bool) (U : List Nat), listed.size = ops.length → (∀ j, j < ops.length → (j ∈ U ↔ listed.getD j false = false)) → (∀ j ∈ U, j < ops.length) → Region.ready .any ops.toArray listed = [] → U = [] := by
    intro listed U hsz hU hUl hr
    have key : ∀ m, m ∉ U := by
      intro m
      induction m using Nat.strongRecOn with
      | _ m ih =>
        intro hm
        have hml := hUl m hm
        have : m ∈ Region.ready .any ops.toArray listed := by
          rw [mem_ready]
          refine ⟨?_, ops[m], by simp [hml], fun e he hb => ?_⟩
          · have h1 := (hU m hml).1 hm
            have hms : m < listed.size := by omega
            simpa [hms] using h1
          · obtain ⟨r, h1, h2⟩ := hok.all m ops[m] (List.getElem?_eq_getElem hml)
            obtain ⟨pre, h3, _⟩ := hbef m ops[m] (List.getElem?_eq_getElem hml)
            have h4 : r.bef.testBit e.on = true := by rw [h2.befEq, h3, befOf_spec]; exact ⟨e, by simpa using he, hb, .inl rfl⟩
            have h5 := h2.befLt _ h4
            have h6 := ih e.on h5
            cases hq : listed.getD e.on false with
            | true => rfl
            | false => exact absurd ((hU e.on (by omega)).2 hq) h6
        rw [hr] at this
        cases this
    cases U with
    | nil => rfl
    | cons m U => exact absurd (List.mem_cons_self ..) (key m)
  induction fuel with
  | zero =>
    intro listed a x U hsz hnd hlen hU hUl hdown h
    have hnil : U = [] := List.length_eq_zero_iff.1 hlen
    refine ⟨?_, hdone listed a x U hU hnil h⟩
    cases hr : Region.ready .any ops.toArray listed with
    | nil => rfl
    | cons m l =>
      have hm : m ∈ Region.ready .any ops.toArray listed := by rw [hr]; exact List.mem_cons_self ..
      rw [mem_ready] at hm
      obtain ⟨h1, o, h2, _⟩ := hm
      have hml : m < ops.length := by simpa using (Array.getElem?_eq_some_iff.1 h2).1
      have hms : m < listed.size := by omega
      have := (hU m hml).2 (by simpa [hms] using h1)
      rw [hnil] at this
      cases this
  | succ fuel ih =>
    intro listed a x U hsz hnd hlen hU hUl hdown h
    refine ⟨fun hr => hdone listed a x U hU (hready listed U hsz hU hUl hr) h, fun i hi => ?_⟩
    rw [mem_ready] at hi
    obtain ⟨h1, o, h2, h3⟩ := hi
    have hil : i < ops.length := by simpa using (Array.getElem?_eq_some_iff.1 h2).1
    have his : i < listed.size := by omega
    have ho : ops[i]? = some o := by simpa using h2
    have hLi : listed.getD i false = false := by simpa [his] using h1
    have hiU : i ∈ U := (hU i hil).2 hLi
    have hset : ∀ j, (listed.setIfInBounds i true).getD j false = (j == i || listed.getD j false) := by
      intro j
      by_cases hj : j = i
      · subst hj; simp [his]
      · have : (j == i) = false := by simp [hj]
        rw [this, Bool.false_or]
        exact getD_set_ne false (Ne.symm hj)
    have hbi : ∀ r, R[i]? = some r → ∀ j, r.bef.testBit j = true → listed.getD j false = true := by
      intro r hr j hj
      obtain ⟨r', k1, k2⟩ := hok.all i o ho
      rw [hr] at k1
      cases k1
      obtain ⟨pre, p1, p2, p3⟩ := hbef i o ho
      rw [k2.befEq, p1, befOf_spec] at hj
      obtain ⟨e, he, hb, h4⟩ := hj
      have h5 := h3 e (by simpa using he) hb
      rcases h4 with rfl | h4
      · exact h5
      · have hel : e.on < i := k2.befLt _ (by rw [k2.befEq, p1, befOf_spec]; exact ⟨e, he, hb, .inl rfl⟩)
        rw [p3 _ (by omega)] at h4
        obtain ⟨re, q1, q2⟩ := hok.all e.on ops[e.on] (List.getElem?_eq_getElem (by omega))
        exact hdown e.on re q1 h5 j (by rw [q2.befEq]; exact h4)
    refine reg_step hsig hok h ho hLi hbi hdown (fun a' x' h' => ?_)
    refine ih (listed.setIfInBounds i true) a' x' (U.erase i) (by simp [hsz]) (hnd.erase i) (by rw [List.length_erase_of_mem hiU, hlen]; rfl) (fun j hj => ?_) (fun j hj => hUl j (List.mem_of_mem_erase hj)) (fun j r hr hj m hm => ?_) (h'.congr (fun j _ => (hset j).symm) hok.len)
    · rw [hset, hnd.mem_erase_iff, hU j hj]
      by_cases hji : j = i
      · simp [hji]
      · simp [hji]
    · rw [hset] at hj ⊢
      by_cases hji : j = i
      · subst hji
        simp [hbi r hr m hm]
      · have : (j == i) = false := by simp [hji]
        rw [this, Bool.false_or] at hj
        simp [hdown j r hr hj m hm]

/-- a region -/
theorem region_ok (hsig : SigOk C Φ) (hmix : C.P.follows .mixedOrders = true) {id : Nat} {draw : Bool} {ops : Array Oper} {S : List Slot} {H : List SObj} {n : Nat} {t : Tm RLeaf} (h : region C draw ops S H n = some t) {e : List D} {res : Res RLeaf}
    (hr : Run Φ none t e res) (hn : e.length = n) : ∃ lf es, res = .leaf lf (e ++ es) ∧ lf.n = (e ++ es).length ∧ ∀ (x : Env) (a : Act) (Q : Exit → Act → World → Prop), x.P = C.P → x.e = e → x.H = H → Sat x w0 M → Slots x S a.tmps →
      (∀ a' x', x'.P = C.P → x'.e = e ++ es → x'.H = lf.H → Sat x' w0 M → Ext x x' → (∀ b, x'.I b → x.I b ∨ w0.heap.size ≤ b ∨ M b) → Slots x' (regEnd ops.toList lf.R S) a'.tmps → a'.defers = a.defers → Q .normal a' x'.w) → (Code.region id ops draw).wp C.P Q a x.w := by
  unfold region at h
  obtain ⟨lf, es, h1, h2, h3, h4, h5, h6⟩ := rwalk_ok (H0 := H) hsig _ _ _ _ _ _ _ _ _ h hr hn (fun c hc => by cases hc) (fun c hc => by cases hc) (fun i o hi => by simp at hi) (by simp) (by simp) (fun p => rfl)
  refine ⟨lf, es, h1, h2, fun x a Q hP he hH hs hS hQ => ?_⟩
  subst hH
  subst he
  generalize hbs : (if draw = true then befsOf ops.toList [] else (List.range ops.toList.length).map fun i => 2 ^ i - 1) = befs at h4 h6
  have hbnd : ∀ j, ops.toList.length ≤ j → befs.getD j 0 = 0 := by
    intro j hj
    have : befs.length = ops.toList.length := by
      rw [← hbs]
      split
      · rw [(befsOf_spec _ _).1]; simp
      · simp
    rw [List.getD_eq_getElem?_getD, List.getElem?_eq_none (by omega)]
    rfl
  generalize hN : x.H.length + (ops.toList.map fun o => newOf C o.op).foldl (· + ·) 0 = N at h4 h6
  have hstart : ∀ p, N ≤ p → look x.H p = .unborn := by
    intro p hp
    have : x.H.length ≤ p := by omega
    unfold look
    rw [List.getD_eq_getElem?_getD, List.getElem?_eq_none this]
    rfl
  have hok : RegOk C Φ ops.toList S befs x.H N lf.R (x.e ++ es) := ⟨fun i o ho => h4 i o (by rw [h3]; exact (List.getElem?_eq_some_iff.1 ho).1) ho, h3, hstart, hbnd, fun i j ri rj hij hi hj hri hrj => conf_ok h6 i j ri rj hij hi hj hri hrj⟩
  -- the end
  have hend : ∀ (x0 : Env), Ext x x0 → x0.e = x.e ++ es → x0.I = x.I → ∀ a' x', Inv C ops.toList S x.H lf.R x0 w0 M a.defers (fun _ => true) a' x' → Q .normal a' x'.w := by
    intro x0 hx0 hx0e hx0I a' x' hinv
    have hheap : ∀ p, look lf.H p = look x'.H p := fun p => by rw [h5, hinv.heap]
    obtain ⟨q1, q2⟩ := hinv.sat.relist hheap [] x'.w.drawn
    rw [List.append_nil] at q1 q2
    refine hQ a' { x' with H := lf.H } hinv.P (by rw [← hx0e]; exact hinv.e) rfl q1 (hx0.trans (hinv.ext.trans q2)) (by rw [← hx0I]; exact hinv.back) ⟨by rw [regEnd_length, hinv.size], fun t s hts => ?_⟩ hinv.defers
    refine GS.ext q2 ?_
    rcases regEnd_get _ _ _ t s hts with ⟨k1, k2⟩ | ⟨i, o, r, k1, k2, k3, rfl⟩
    · cases hix : ixOf ops.toList t 0 with
      | none => exact hinv.old t s (fun k hk => by rw [hix] at hk; cases hk) k2
      | some i =>
        obtain ⟨_, o, k3, k4⟩ := ixOf_spec hix
        exact absurd k4 (k1 _ o k3 (by rw [h3]; exact (List.getElem?_eq_some_iff.1 k3).1))
    · obtain ⟨r', q3, q4⟩ := hok.all i o k1
      rw [k2] at q3
      cases q3
      have hix := (q4.dst t k3).1
      obtain ⟨r', q5, q6, _⟩ := hinv.new t i hix rfl
      rw [k2] at q5
      cases q5
      split
      · rename_i hc
        simp only [Bool.and_eq_true, List.isEmpty_iff] at hc
        exact q6 ⟨hc.1, by rw [hc.2]; intro c hc; cases hc⟩
      · trivial
  have hinit : ∀ (x0 : Env), x0.P = C.P → x0.e = x.e ++ es → x0.H = x.H → Sat x0 w0 M → Ext x x0 → Inv C ops.toList S x.H lf.R x0 w0 M a.defers (fun _ => false) a x0 := by
    intro x0 e1 e2 e3 e4 e5
    refine ⟨e1, rfl, e4, Ext.refl _, fun p => ?_, fun b => .inl, rfl, hS.1, fun t s _ hts => (hS.2 t s hts).ext e5, fun t i _ hL => by cases hL⟩
    rw [e3]
    exact (obOf_none _ _ _ fun j r _ _ _ => rfl).symm
  cases draw with
  | false =>
    refine wp_region ?_
    obtain ⟨q1, q2⟩ := hs.relist (fun p => rfl) es x.w.drawn
    have := reg_seq (x0 := { x with e := x.e ++ es }) (Q := Q) (ds := a.defers) hsig hok (fun j r hj m hm => by
      obtain ⟨r', k1, k2⟩ := hok.all j ops.toList[j]! (by
        have hjl : j < ops.toList.length := by rw [← h3]; exact (List.getElem?_eq_some_iff.1 hj).1
        simp only [List.getElem?_eq_getElem hjl, getElem!_pos ops.toList j hjl])
      rw [hj] at k1
      cases k1
      exact k2.befLt m hm) (fun a' x' h' => hend _ q2 rfl rfl a' x' h') ops.toList.length 0 a { x with e := x.e ++ es } (by omega) ((hinit { x with e := x.e ++ es } hP rfl rfl q1 q2).congr (L' := fun j => decide (j < 0)) (fun j _ => by simp) h3)
    rw [Array.toArray_toList, ← List.range_eq_range'] at this
    simpa using this
  | true =>
    refine wp_region_any hmix ?_
    obtain ⟨q1, q2⟩ := hs.relist (fun p => rfl) es (x.w.drawn + 1)
    have hbefs : ∀ (j : Nat) (o : Oper), ops.toList[j]? = some o → ∃ pre, befs.getD j 0 = befOf pre o ∧ pre.length = j ∧ ∀ k, k < pre.length → pre.getD k 0 = befs.getD k 0 := by
      intro j o ho
      simp only [if_true] at hbs
      obtain ⟨_, _, k3⟩ := befsOf_spec ops.toList []
      obtain ⟨pre, p1, p2, p3⟩ := k3 j o ho
      rw [hbs] at p1 p3
      simp only [List.length_nil, Nat.zero_add] at p1 p2
      exact ⟨pre, p1, p2, p3⟩
    have := reg_any (x0 := { x with e := x.e ++ es, w := { x.w with drawn := x.w.drawn + 1 } }) (Q := Q) (ds := a.defers) hsig hok hbefs (fun a' x' h' => hend _ q2 rfl rfl a' x' h') ops.toList.length (Array.replicate ops.size false) a
      { x with e := x.e ++ es, w := { x.w with drawn := x.w.drawn + 1 } } (List.range ops.toList.length) (by simp) List.nodup_range (by simp) (fun j hj => by
        have : j < ops.size := by simpa using hj
        simp [this]) (fun j hj => List.mem_range.1 hj) (fun j r hr' hj => by
        exfalso
        by_cases hjs : j < ops.size
        · simp [hjs] at hj
        · simp [hjs] at hj) ((hinit { x with e := x.e ++ es, w := { x.w with drawn := x.w.drawn + 1 } } hP rfl rfl q1 q2).congr (L' := fun j => (Array.replicate ops.size false).getD j false) (fun j hj => by
        have : j < ops.size := by simpa using hj
        simp [this]) h3)
    rw [Array.toArray_toList] at this
    simpa using this

end
end Glx
namespace Glx
open Go

section
variable {A B : Type}

/-- a term behind each leaf -/
def Tm.bindO : Tm A → (A → Option (Tm B)) → Option (Tm B)
  | .leaf x, f => f x
  | .jump t o, _ => some (.jump t o)
  | .guard c k, f => (k.bindO f).map (.guard c)
  | .letx x k, f => (k.bindO f).map (.letx x)
  | .call i as k, f => (k.bindO f).map (.call i as)
  | .ite c a b, f => (a.bindO f).bind fun a => (b.bindO f).map fun b => .ite c a b
  | .join t m k, f => (m.bindO f).bind fun m => (k.bindO f).map fun k => .join t m k
  | .loop t i b, f => (b.bindO f).map (.loop t i)

/-- is a label bound within? -/
def Tm.binds (T : Nat) : Tm A → Bool
  | .leaf _ | .jump _ _ => false
  | .guard _ k | .letx _ k | .call _ _ k => k.binds T
  | .ite _ a b => a.binds T || b.binds T
  | .join t m k => t == T || m.binds T || k.binds T
  | .loop t _ b => t == T || b.binds T

/-- a run goes to a leaf, or to one label -/
def Only (Φ : Nat → List D → Option (List D)) (T : Nat) (t : Tm A) : Prop := ∀ e u ds, Run Φ none t e (.jump u ds) → u = T

theorem run_bindO {Φ : Nat → List D → Option (List D)} {T : Nat} {f : A → Option (Tm B)} (hf : ∀ a t2, f a = some t2 → Only Φ T t2) : ∀ (t : Tm A) (t' : Tm B) (e : List D) (res : Res B), t.binds T = false → t.bindO f = some t' → Run Φ none t' e res →
    (∃ a e1 t2, Run Φ none t e (.leaf a e1) ∧ f a = some t2 ∧ Run Φ none t2 e1 res) ∨ (∃ u ds, Run Φ none t e (.jump u ds) ∧ res = .jump u ds) := by
  intro t
  induction t with
  | leaf x => intro t' e res _ h hr; exact .inl ⟨x, e, t', .leaf, h, hr⟩
  | jump u o =>
    intro t' e res _ h hr
    simp only [Tm.bindO, Option.some.injEq] at h
    subst h
    cases hr
    exact .inr ⟨_, _, .jump, rfl⟩
  | guard c k ih =>
    intro t' e res hb h hr
    obtain ⟨k', h1, rfl⟩ := Option.map_eq_some_iff.1 h
    cases hr with
    | guard hc h2 =>
      rcases ih k' e res hb h1 h2 with ⟨a, e1, t2, r1, r2, r3⟩ | ⟨u, ds, r1, r2⟩
      · exact .inl ⟨a, e1, t2, .guard hc r1, r2, r3⟩
      · exact .inr ⟨u, ds, .guard hc r1, r2⟩
  | letx x k ih =>
    intro t' e res hb h hr
    obtain ⟨k', h1, rfl⟩ := Option.map_eq_some_iff.1 h
    cases hr with
    | letx h2 =>
      rcases ih k' _ res hb h1 h2 with ⟨a, e1, t2, r1, r2, r3⟩ | ⟨u, ds, r1, r2⟩
      · exact .inl ⟨a, e1, t2, .letx r1, r2, r3⟩
      · exact .inr ⟨u, ds, .letx r1, r2⟩
  | call i as k ih =>
    intro t' e res hb h hr
    obtain ⟨k', h1, rfl⟩ := Option.map_eq_some_iff.1 h
    cases hr with
    | call hc h2 =>
      rcases ih k' _ res hb h1 h2 with ⟨a, e1, t2, r1, r2, r3⟩ | ⟨u, ds, r1, r2⟩
      · exact .inl ⟨a, e1, t2, .call hc r1, r2, r3⟩
      · exact .inr ⟨u, ds, .call hc r1, r2⟩
  | ite c a b iha ihb =>
    intro t' e res hb h hr
    simp only [Tm.binds, Bool.or_eq_false_iff] at hb
    obtain ⟨a', h1, h⟩ := Option.bind_eq_some_iff.1 h
    obtain ⟨b', h2, rfl⟩ := Option.map_eq_some_iff.1 h
    cases hr with
    | iteT hc h3 =>
      rcases iha a' e res hb.1 h1 h3 with ⟨a, e1, t2, r1, r2, r3⟩ | ⟨u, ds, r1, r2⟩
      · exact .inl ⟨a, e1, t2, .iteT hc r1, r2, r3⟩
      · exact .inr ⟨u, ds, .iteT hc r1, r2⟩
    | iteF hc h3 =>
      rcases ihb b' e res hb.2 h2 h3 with ⟨a, e1, t2, r1, r2, r3⟩ | ⟨u, ds, r1, r2⟩
      · exact .inl ⟨a, e1, t2, .iteF hc r1, r2, r3⟩
      · exact .inr ⟨u, ds, .iteF hc r1, r2⟩
  | join t m k ihm ihk =>
    intro t' e res hb h hr
    simp only [Tm.binds, Bool.or_eq_false_iff, beq_eq_false_iff_ne] at hb
    obtain ⟨m', h1, h⟩ := Option.bind_eq_some_iff.1 h
    obtain ⟨k', h2, rfl⟩ := Option.map_eq_some_iff.1 h
    cases hr with
    | joinL h3 =>
      rcases ihm m' e _ hb.1.2 h1 h3 with ⟨a, e1, t2, r1, r2, r3⟩ | ⟨u, ds, r1, r2⟩
      · exact .inl ⟨a, e1, t2, .joinL r1, r2, r3⟩
      · cases r2
    | joinO hu h3 =>
      rcases ihm m' e _ hb.1.2 h1 h3 with ⟨a, e1, t2, r1, r2, r3⟩ | ⟨u, ds, r1, r2⟩
      · exact .inl ⟨a, e1, t2, .joinL r1, r2, r3⟩
      · cases r2; exact .inr ⟨_, _, .joinO hu r1, rfl⟩
    | joinJ h3 h4 =>
      rcases ihm m' e _ hb.1.2 h1 h3 with ⟨a, e1, t2, r1, r2, r3⟩ | ⟨u, ds, r1, r2⟩
      · exact absurd (hf a t2 r2 _ _ _ r3) hb.1.1
      · cases r2
        rcases ihk k' _ res hb.2 h2 h4 with ⟨a, e1, t2, q1, q2, q3⟩ | ⟨u, ds, q1, q2⟩
        · exact .inl ⟨a, e1, t2, .joinJ r1 q1, q2, q3⟩
        · exact .inr ⟨u, ds, .joinJ r1 q1, q2⟩
  | loop t init body ih =>
    intro t' e res hb h hr
    simp only [Tm.binds, Bool.or_eq_false_iff, beq_eq_false_iff_ne] at hb
    obtain ⟨b', h1, rfl⟩ := Option.map_eq_some_iff.1 h
    cases hr with
    | loop h2 =>
      have key : ∀ (o : Option (List D)) (tt : Tm B) (e' : List D) (res : Res B), Run Φ o tt e' res → ∀ st, o = some st → tt = .loop t init b' → e' = e →
          (∃ a e1 t2, Run Φ (some st) (.loop t init body) e (.leaf a e1) ∧ f a = some t2 ∧ Run Φ none t2 e1 res) ∨ (∃ u ds, Run Φ (some st) (.loop t init body) e (.jump u ds) ∧ res = .jump u ds) := by
        intro o tt e' res hrun
        induction hrun with
        | loopL h3 =>
          intro st ho ht he
          cases ho; cases ht; subst he
          rcases ih b' _ _ hb.2 h1 h3 with ⟨a, e1, t2, r1, r2, r3⟩ | ⟨u, ds, r1, r2⟩
          · exact .inl ⟨a, e1, t2, .loopL r1, r2, r3⟩
          · cases r2
        | loopO hu h3 =>
          intro st ho ht he
          cases ho; cases ht; subst he
          rcases ih b' _ _ hb.2 h1 h3 with ⟨a, e1, t2, r1, r2, r3⟩ | ⟨u, ds, r1, r2⟩
          · exact .inl ⟨a, e1, t2, .loopL r1, r2, r3⟩
          · cases r2; exact .inr ⟨_, _, .loopO hu r1, rfl⟩
        | loopJ h3 h4 _ ih2 =>
          intro st ho ht he
          cases ho; cases ht; subst he
          rcases ih b' _ _ hb.2 h1 h3 with ⟨a, e1, t2, r1, r2, r3⟩ | ⟨u, ds, r1, r2⟩
          · exact absurd (hf a t2 r2 _ _ _ r3) hb.1
          · cases r2
            rcases ih2 _ rfl rfl rfl with ⟨a, e1, t2, q1, q2, q3⟩ | ⟨u, ds, q1, q2⟩
            · exact .inl ⟨a, e1, t2, .loopJ r1 q1, q2, q3⟩
            · exact .inr ⟨u, ds, .loopJ r1 q1, q2⟩
        | _ => intro st ho; cases ho
      rcases key _ _ _ _ h2 _ rfl rfl rfl with ⟨a, e1, t2, r1, r2, r3⟩ | ⟨u, ds, r1, r2⟩
      · exact .inl ⟨a, e1, t2, .loop r1, r2, r3⟩
      · exact .inr ⟨u, ds, .loop r1, r2⟩

/-- a run goes to a leaf -/
def Never (Φ : Nat → List D → Option (List D)) (t : Tm A) : Prop := ∀ e u ds, ¬ Run Φ none t e (.jump u ds)

theorem run_bindN {Φ : Nat → List D → Option (List D)} {T : Nat} {f : A → Option (Tm B)} (hf : ∀ a t2, f a = some t2 → Only Φ T t2) {t : Tm A} {t' : Tm B} {e : List D} {res : Res B} (ht : Never Φ t) (hb : t.binds T = false) (h : t.bindO f = some t') (hr : Run Φ none t' e res) :
    ∃ a e1 t2, Run Φ none t e (.leaf a e1) ∧ f a = some t2 ∧ Run Φ none t2 e1 res := by
  rcases run_bindO hf t t' e res hb h hr with h1 | ⟨u, ds, h1, _⟩
  · exact h1
  · exact absurd h1 (ht e u ds)

end
end Glx
namespace Glx
open Go

inductive Kind where
  | normal
  | exit (id : Nat)
  | ret
  | dead
  deriving DecidableEq

structure St where
  S : List Slot
  H : List SObj
  n : Nat

abbrev Lf := Kind × St

structure Lay where
  S : List Slot
  H : List SObj
  m : Nat

/-! ### One picture for several -/
structure LS where
  vars : List (List Ex)
  objs : List (List (Option Nat))

def findIx {α : Type} [BEq α] (x : α) : List α → Nat → Option Nat
  | [], _ => none
  | y :: l, i => if y == x then some i else findIx x l (i + 1)

def LS.ex (nb : Nat) (ls : LS) (es : List Ex) : LS × Ex :=
  match es with
  | [] => (ls, .ilit 0)
  | e :: r => if r.all (· == e) && e.sc nb then (ls, e) else match findIx es ls.vars 0 with
    | some i => (ls, .var (nb + i))
    | none => ({ ls with vars := ls.vars ++ [es] }, .var (nb + ls.vars.length))

def LS.obj (ls : LS) (os : List (Option Nat)) : LS × Nat :=
  match findIx os ls.objs 0 with
  | some i => (ls, i)
  | none => ({ ls with objs := ls.objs ++ [os] }, ls.objs.length)

def auPtrs (ls : LS) : List (List (Nat × Nat)) → Nat → LS × List (Nat × Nat)
  | ll, n => (List.range n).foldl (fun (p : LS × List (Nat × Nat)) i =>
      let c := ll.map fun l => l.getD i (0, 0)
      let (ls, o) := p.1.obj (c.map fun q => some q.1)
      (ls, p.2 ++ [(o, (c.headD (0, 0)).2)])) (ls, [])

def auSV (nb : Nat) (Hs : List (List SObj)) (ls : LS) (l : List SV) : LS × SV :=
  match l with
  | [] => (ls, .top)
  | .int k e :: r => match r.mapM (fun | .int k' e => if k' = k then some e else none | _ => none) with
    | some es => let (ls, x) := ls.ex nb (e :: es); (ls, .int k x)
    | none => (ls, .top)
  | .bool e :: r => match r.mapM (fun | .bool e => some e | _ => none) with
    | some es => let (ls, x) := ls.ex nb (e :: es); (ls, .bool x)
    | none => (ls, .top)
  | .str e :: r => match r.mapM (fun | .str e => some e | _ => none) with
    | some es => let (ls, x) := ls.ex nb (e :: es); (ls, .str x)
    | none => (ls, .top)
  | .ifc e :: r => match r.mapM (fun | .ifc e => some e | _ => none) with
    | some es => let (ls, x) := ls.ex nb (e :: es); (ls, .ifc x)
    | none => (ls, .top)
  | .nilp :: r => (ls, if r.all (fun s => decide (s = .nilp)) then .nilp else .top)
  | .nilf :: r => (ls, if r.all (fun s => decide (s = .nilf)) then .nilf else .top)
  | .ptr o off :: r => match r.mapM (fun | .ptr o' off' => if off' = off then some (some o') else none | _ => none) with
    | some os => let (ls, o) := ls.obj (some o :: os); (ls, .ptr o off)
    | none => (ls, .top)
  | .fn f a c :: r => match r.mapM (fun | .fn f' a' c' => if f' = f && a'.length == a.length && c'.length == c.length then some (a', c') else none | _ => none) with
    | some ps =>
      let (ls, a1) := auPtrs ls (a :: ps.map (·.1)) a.length
      let (ls, c1) := auPtrs ls (c :: ps.map (·.2)) c.length
      (ls, .fn f a1 c1)
    | none => (ls, .top)
  | .pel .. :: _ => (ls, .top)
  | .oel .. :: _ => (ls, .top)
  | .top :: _ => (ls, .top)
  | l =>
    if l.all (fun s => decide (s = .nils)) then (ls, .nils)
    else match l.find? (fun | .sl _ _ => true | _ => false) with
      | some (.sl T _) => match (l.zip Hs).mapM (fun | (.sl T' e, _) => if T' = T then some e else none | (.nils, _) => some .nil | (.own o v, H) => (match borrow H (.own o v) with | some (T', e) => if T' = T then some e else none | none => none) | _ => none) with
        | some es => let (ls, x) := ls.ex nb es; (ls, .sl T x)
        | none => (ls, .top)
      | _ => match (l.zip Hs).mapM (fun | (.own o v, H) => if curVer H o v then some (some o) else none | (.nils, _) => some none | _ => none) with
        | some os => let (ls, o) := ls.obj os; (ls, .own o 0)
        | none => (ls, .top)

def auL (nb : Nat) (Hs : List (List SObj)) (ls : LS) (ll : List (List SV)) (n : Nat) : LS × List SV :=
  (List.range n).foldl (fun (p : LS × List SV) i => let (ls, s) := auSV nb Hs p.1 (ll.map fun l => l.getD i .top); (ls, p.2 ++ [s])) (ls, [])

def au1 (nb : Nat) (Hs : List (List SObj)) (ls : LS) (l : List S1) : LS × S1 :=
  match l with
  | .one s :: r => match r.mapM (fun | .one s => some s | _ => none) with
    | some ss => let (ls, x) := auSV nb Hs ls (s :: ss); (ls, .one x)
    | none => (ls, .one .top)
  | .agg a :: r => match r.mapM (fun | .agg b => if b.length == a.length then some b else none | _ => none) with
    | some ss => let (ls, x) := auL nb Hs ls (a :: ss) a.length; (ls, .agg x)
    | none => (ls, .one .top)
  | [] => (ls, .one .top)

def auS (nb : Nat) (Hs : List (List SObj)) (ls : LS) (l : List Slot) : LS × Slot :=
  match l with
  | .v s :: r => match r.mapM (fun | .v s => some s | _ => none) with
    | some ss => let (ls, x) := au1 nb Hs ls (s :: ss); (ls, .v x)
    | none => (ls, skipSlot)
  | .tup a :: r => match r.mapM (fun | .tup b => if b.length == a.length then some b else none | _ => none) with
    | some ss =>
      let (ls, x) := (List.range a.length).foldl (fun (p : LS × List S1) i => let (ls, s) := au1 nb Hs p.1 ((a :: ss).map fun l => l.getD i (.one .top)); (ls, p.2 ++ [s])) (ls, [])
      (ls, .tup x)
    | none => (ls, skipSlot)
  | [] => (ls, skipSlot)

def auObj (nb : Nat) (Hs : List (List SObj)) (ls : LS) (src : List (Option Nat)) : LS × SObj :=
  let obs : List (Option SObj) := (src.zip Hs).map fun p => p.1.map (look p.2)
  match obs.find? Option.isSome with
  | some (some (.cells T l fz)) => match obs.mapM (fun | some (.cells T' l' fz') => if T' = T && fz' == fz && l'.length == l.length then some l' else none | _ => none) with
    | some ls' => let (ls, x) := auL nb Hs ls ls' l.length; (ls, .cells T x fz)
    | none => (ls, .dead)
  | some (some (.row T _ _)) => match obs.mapM (fun | some (.row T' e _) => if T' = T then some e else none | none => some .nil | _ => none) with
    | some es => let (ls, x) := ls.ex nb es; (ls, .row T x 0)
    | none => (ls, .dead)
  | _ => (ls, .dead)

def auObjs (nb : Nat) (Hs : List (List SObj)) : Nat → LS → List SObj → LS × List SObj
  | 0, ls, H => (ls, H)
  | f + 1, ls, H => match ls.objs[H.length]? with
    | some src => let (ls, s) := auObj nb Hs ls src; auObjs nb Hs f ls (H ++ [s])
    | none => (ls, H)

def antiUnify (B nb live : Nat) (sts : List St) : Lay :=
  let Hs := sts.map (·.H)
  let ls : LS := ⟨[], (List.range B).map fun o => List.replicate sts.length (some o)⟩
  let (ls, S) := (List.range ((sts.map (·.S.length)).headD 0)).foldl (fun (p : LS × List Slot) i =>
    if live.testBit i then let (ls, s) := auS nb Hs p.1 (sts.map fun st => st.S.getD i skipSlot); (ls, p.2 ++ [s]) else (p.1, p.2 ++ [skipSlot])) (ls, [])
  let (ls, H) := auObjs nb Hs 200 ls []
  ⟨S, H, ls.vars.length⟩

/-! ### How one fits -/
def HS.setN (nb : Nat) (h : HS) (t e : Ex) : HS := match t with
  | .var i => if nb ≤ i then { h with us := h.us.set (i - nb) (some e) } else h
  | _ => h

def matchSV (nb : Nat) (H' H : List SObj) : Nat → HS → SV × SV → HS
  | 0, h, _ => h
  | n + 1, h, (t, a) => match t, a with
    | .int _ t, .int _ e => h.setN nb t e
    | .bool t, .bool e => h.setN nb t e
    | .ifc t, .ifc e => h.setN nb t e
    | .str t, .str e => h.setN nb t e
    | .sl _ t, .sl _ e => h.setN nb t e
    | .sl _ t, .nils => h.setN nb t .nil
    | .own o' _, .nils => match look H' o' with
      | .row _ t _ => { h.setN nb t .nil with σ := h.σ.set o' (some none) }
      | _ => h
    | .own o' _, .own o _ => match look H' o', look H o with
      | .row _ t _, .row _ e _ => { h.setN nb t e with σ := h.σ.set o' (some (some o)) }
      | _, _ => h
    | .ptr o' _, .ptr o _ => if (src h.σ o').isSome then h else match look H' o', look H o with
      | .cells _ l _, .cells _ m _ => (l.zip m).foldl (matchSV nb H' H n) { h with σ := h.σ.set o' (some (some o)) }
      | _, _ => h
    | .fn _ a c, .fn _ a' c' => (((a ++ c).zip (a' ++ c')).map fun p => (SV.ptr p.1.1 p.1.2, SV.ptr p.2.1 p.2.2)).foldl (matchSV nb H' H n) h
    | _, _ => h

def mkFit (B nb : Nat) (L : Lay) (st : St) : List Ex × Src :=
  let h : HS := ⟨List.replicate L.m none, List.replicate L.H.length none, []⟩
  let h := (List.range B).foldl (fun h o => match look L.H o with
    | .cells .. => matchSV nb L.H st.H 20 h (.ptr o 0, .ptr o 0)
    | .row .. => matchSV nb L.H st.H 20 h (.own o 0, .own o 0)
    | _ => h) h
  let h := ((L.S.zip st.S).flatMap fun p => (slotCells p.1).zip (slotCells p.2)).foldl (matchSV nb L.H st.H 20) h
  (h.us.map (·.getD (.ilit 0)), h.σ)

def baseOk (B : Nat) (σ : Src) (H' : List SObj) : Bool := (List.range B).all fun o => match look H' o with
  | .unborn => false
  | .cells .. => src σ o == some (some o)
  | _ => true

def fitSlots (nb : Nat) (us : List Ex) (σ : Src) (H' H : List SObj) : List Slot → List Slot → Bool
  | [], [] => true
  | t :: ts, s :: ss => fitS nb us σ H' H t s && fitSlots nb us σ H' H ts ss
  | _, _ => false

def fitSt (P : Program) (B nb : Nat) (L : Lay) (us : List Ex) (σ : Src) (st : St) : Bool :=
  us.length == L.m && decide (nb ≤ st.n) && fitSlots nb us σ L.H st.H L.S st.S && fitAll P nb us σ L.H st.H && baseOk B σ L.H

def Lay.st (L : Lay) (nb : Nat) : St := ⟨L.S, L.H, nb + L.m⟩

/-! ### What a text reads, what it sets -/
def opBits : Operand → Nat
  | .tmp t => 2 ^ t
  | _ => 0

def usesOf : Code → Nat
  | .region _ ops _ => ops.toList.foldl (fun b o => o.op.operands.toList.foldl (fun b p => b ||| opBits p) b) 0
  | .seq a b => usesOf a ||| usesOf b
  | .cond c a b => opBits c ||| usesOf a ||| usesOf b
  | .block _ a => usesOf a
  | .loop a => usesOf a
  | _ => 0

def setsOf : Code → Nat
  | .region _ ops _ => ops.toList.foldl (fun b o => match o.dst with | some t => b ||| 2 ^ t | none => b) 0
  | .seq a b => setsOf a ||| setsOf b
  | .cond _ a b => setsOf a ||| setsOf b
  | .block _ a => setsOf a
  | .loop a => setsOf a
  | _ => 0

def normals : Tm Lf → List St
  | .leaf (.normal, st) => [st]
  | .leaf _ | .jump _ _ => []
  | .guard _ k | .letx _ k | .call _ _ k => normals k
  | .ite _ a b => normals a ++ normals b
  | .join _ m k => normals m ++ normals k
  | .loop _ _ b => normals b

/-! ### A loop's picture: all that its text may turn is open -/
def openE (p : Nat × Nat) : Ex × (Nat × Nat) := (.var (p.1 + p.2), (p.1, p.2 + 1))

def openSV (p : Nat × Nat) : SV → SV × (Nat × Nat)
  | .int k _ => let (x, p) := openE p; (.int k x, p)
  | .bool _ => let (x, p) := openE p; (.bool x, p)
  | .ifc _ => let (x, p) := openE p; (.ifc x, p)
  | .str _ => let (x, p) := openE p; (.str x, p)
  | .sl T _ => let (x, p) := openE p; (.sl T x, p)
  | s => (s, p)

def openL (p : Nat × Nat) : List SV → List SV × (Nat × Nat)
  | [] => ([], p)
  | s :: l => let (s, p) := openSV p s; let (l, p) := openL p l; (s :: l, p)

def openS (p : Nat × Nat) : Slot → Slot × (Nat × Nat)
  | .v (.one s) => let (s, p) := openSV p s; (.v (.one s), p)
  | .v (.agg l) => let (l, p) := openL p l; (.v (.agg l), p)
  | s => (s, p)

def openSlots (sets : Nat) (p : Nat × Nat) : List Slot → Nat → List Slot × (Nat × Nat)
  | [], _ => ([], p)
  | s :: l, i => let (s, p) := if sets.testBit i then openS p s else (s, p); let (l, p) := openSlots sets p l (i + 1); (s :: l, p)

def openObjs (p : Nat × Nat) : List SObj → List SObj × (Nat × Nat)
  | [] => ([], p)
  | .cells T l false :: r => let (l, p) := openL p l; let (r, p) := openObjs p r; (.cells T l false :: r, p)
  | .row T _ u :: r => let (x, p) := openE p; let (r, p) := openObjs p r; (.row T x u :: r, p)
  | o :: r => let (r, p) := openObjs p r; (o :: r, p)

/-- the first guess -/
def openLay (B live sets : Nat) (st : St) : Lay :=
  let L := antiUnify B st.n live [st]
  let (S, p) := openSlots sets (st.n, 0) L.S 0
  let (H, p) := openObjs p L.H
  ⟨S, H, p.2⟩

/-- a picture without the variables that stand -/
def closeE (nb : Nat) (fix : List (Option Ex)) : Ex → Ex
  | .var i => if i < nb then .var i else match fix[i - nb]? with
    | some (some e) => e
    | some none => .var (nb + ((fix.take (i - nb)).filter Option.isNone).length)
    | none => .var i
  | e => e
def closeSV (nb : Nat) (fix : List (Option Ex)) : SV → SV
  | .int k e => .int k (closeE nb fix e)
  | .bool e => .bool (closeE nb fix e)
  | .ifc e => .ifc (closeE nb fix e)
  | .str e => .str (closeE nb fix e)
  | .sl T e => .sl T (closeE nb fix e)
  | s => s
def close1 (nb : Nat) (fix : List (Option Ex)) : S1 → S1
  | .one s => .one (closeSV nb fix s)
  | .agg l => .agg (l.map (closeSV nb fix))
def closeS (nb : Nat) (fix : List (Option Ex)) : Slot → Slot
  | .v s => .v (close1 nb fix s)
  | .tup l => .tup (l.map (close1 nb fix))
def closeO (nb : Nat) (fix : List (Option Ex)) : SObj → SObj
  | .cells T l fz => .cells T (l.map (closeSV nb fix)) fz
  | .row T e u => .row T (closeE nb fix e) u
  | o => o

end Glx
namespace Glx
open Go

def frSV (o : Nat) (T : TypeId) (e : Ex) (u : Nat) : SV → SV
  | .own o' v => if o' = o then (if v = u then .sl T e else .top) else .own o' v
  | s => s
def fr1 (o : Nat) (T : TypeId) (e : Ex) (u : Nat) : S1 → S1
  | .one s => .one (frSV o T e u s)
  | .agg l => .agg (l.map (frSV o T e u))
def frS (o : Nat) (T : TypeId) (e : Ex) (u : Nat) : Slot → Slot
  | .v s => .v (fr1 o T e u s)
  | .tup l => .tup (l.map (fr1 o T e u))
def frO (o : Nat) (T : TypeId) (e : Ex) (u : Nat) : SObj → SObj
  | .cells T' l fz => .cells T' (l.map (frSV o T e u)) fz
  | s => s

def freeze (o : Nat) (st : St) : St :=
  match look st.H o with
  | .row T e u => ⟨st.S.map (frS o T e u), (st.H.map (frO o T e u)).set o .dead, st.n⟩
  | _ => st

def freezes : List Nat → St → St
  | [], st => st
  | o :: l, st => freezes l (freeze o st)

theorem freeze_n (o : Nat) (st : St) : (freeze o st).n = st.n := by
  unfold freeze
  split <;> rfl

theorem freezes_n : ∀ (l : List Nat) (st : St), (freezes l st).n = st.n
  | [], _ => rfl
  | o :: l, st => by simp only [freezes]; rw [freezes_n l, freeze_n]

/-- all rows -/
def rowsOf (H : List SObj) : List Nat := (List.range H.length).filter fun o => match look H o with | .row .. => true | _ => false

/-- what a picture wants as plain data -/
def thaw1 (p : SV × SV) : Option Nat := match p.1, p.2 with
  | .sl _ _, .own o _ => some o
  | _, _ => none
def thaws (L : Lay) (B : Nat) (st : St) : List Nat :=
  ((L.S.zip st.S).flatMap fun p => (slotCells p.1).zip (slotCells p.2)).filterMap thaw1 ++
  (let σ := (mkFit B 0 L st).2
  (List.range L.H.length).flatMap fun k => match src σ k with
    | some (some o) => (match look L.H k, look st.H o with
      | .cells _ l _, .cells _ m _ => (l.zip m).filterMap thaw1
      | _, _ => [])
    | _ => [])

/-- the search: the picture, and the body's term with it -/
def search (P : Program) (B live : Nat) (st : St) (body : St → Option (Tm Lf)) : Nat → Lay → Option (Lay × Tm Lf)
  | 0, _ => none
  | f + 1, L =>
    let s := L.st st.n
    (body s).bind fun t =>
      let ns := normals t
      let fits := ns.map fun n => let n := freezes (thaws L B n) n; (mkFit B st.n L n, n)
      if fits.all fun p => fitSt P B st.n L p.1.1 p.1.2 p.2 then
        let us0 := (mkFit B st.n L (freezes (thaws L B st) st)).1
        let fix := (List.range L.m).map fun j => if fits.all fun p => p.1.1[j]? == some (.var (st.n + j)) then us0[j]? else none
        if fix.all Option.isNone then some (L, t)
        else search P B live st body f ⟨L.S.map (closeS st.n fix), L.H.map (closeO st.n fix), (fix.filter Option.isNone).length⟩
      else search P B live st body f (antiUnify B st.n live (s :: ns))

end Glx
namespace Glx
open Go

section
variable {x : Env} {w0 : World} {M : Nat → Prop}

theorem freeze_env (hs : Sat x w0 M) {o : Nat} {T : TypeId} {e : Ex} {u : Nat} (hl : look x.H o = .row T e u) :
    ∃ x' : Env, x'.w = x.w ∧ x'.P = x.P ∧ x'.e = x.e ∧ x'.ν = x.ν ∧ x'.H = (x.H.map (frO o T e u)).set o .dead ∧ Sat x' w0 M ∧ Ext x x' ∧ (∀ b, x'.I b → x.I b ∨ w0.heap.size ≤ b ∨ M b) ∧ (∀ p T' l fz, look x'.H p = .cells T' l fz → ∃ l', look x.H p = .cells T' l' fz) ∧
      (∀ s v, GS x s v → GS x' (frS o T e u s) v) := by
  have hlook : ∀ p, look ((x.H.map (frO o T e u)).set o .dead) p = if p = o then .dead else frO o T e u (look x.H p) := by
    intro p
    have ho : o < x.H.length := look_lt (by rw [hl]; rfl)
    unfold look
    by_cases hp : p = o
    · subst hp; simp [ho]
    · rw [if_neg hp, List.getD_eq_getElem?_getD, List.getElem?_set_ne (Ne.symm hp)]
      by_cases hpl : p < x.H.length
      · simp [hpl]
      · simp [List.getElem?_eq_none (Nat.le_of_not_lt hpl), frO]
  generalize hx : ({ x with I := fun b => x.I b ∨ blkOf (x.ν o) = some b, H := (x.H.map (frO o T e u)).set o .dead } : Env) = x'
  have xP : x'.P = x.P := by rw [← hx]
  have xI : ∀ b, x'.I b ↔ x.I b ∨ blkOf (x.ν o) = some b := fun b => by rw [← hx]
  have xν : x'.ν = x.ν := by rw [← hx]
  have xe : x'.e = x.e := by rw [← hx]
  have xw : x'.w = x.w := by rw [← hx]
  have xH : ∀ p, look x'.H p = if p = o then .dead else frO o T e u (look x.H p) := fun p => by rw [← hx]; exact hlook p
  have hfr : ∀ s : SObj, (frO o T e u s).live = s.live ∧ (frO o T e u s).loose = s.loose ∧ (frO o T e u s).born = s.born := by
    intro s; cases s <;> exact ⟨rfl, rfl, rfl⟩
  have hlive : ∀ p, (look x'.H p).live = true → p ≠ o ∧ (look x.H p).live = true := by
    intro p h
    rw [xH] at h
    split at h
    · cases h
    · rename_i hp; rw [(hfr _).1] at h; exact ⟨hp, h⟩
  have hext : Ext x x' := by
    refine ⟨xP, fun b hb => (xI b).2 (.inl hb), ⟨[], by simp [xe]⟩, fun b _ => by rw [xw], fun p hp => ?_, fun p T' l fz _ h => ?_, fun p T' e' u' _ h => ?_⟩
    · rw [xH]
      split
      · rfl
      · rw [(hfr _).2.2]; exact hp
    · rw [xH] at h
      split at h
      · cases h
      · rw [xν]
        cases hq : look x.H p with
        | cells T2 l2 fz2 => rw [hq] at h; simp only [frO, SObj.cells.injEq] at h; obtain ⟨rfl, _, _⟩ := h; exact ⟨⟨l2, fz2, rfl⟩, rfl⟩
        | row _ _ _ => rw [hq] at h; cases h
        | dead => rw [hq] at h; cases h
        | unborn => rw [hq] at h; cases h
    · rw [xH] at h
      split at h
      · cases h
      · rw [xν]
        cases hq : look x.H p with
        | cells T2 l2 fz2 => rw [hq] at h; cases h
        | row _ _ _ => rw [hq] at h; simp only [frO, SObj.row.injEq] at h; obtain ⟨rfl, rfl, rfl⟩ := h; exact ⟨_, _, rfl, Nat.le_refl _, fun _ => rfl⟩
        | dead => rw [hq] at h; cases h
        | unborn => rw [hq] at h; cases h
  have hrd : ∀ v, v = x.ν o → e.sc x.e.length = true ∧ Rd x.P (fun b => x.I b ∨ blkOf v = some b) x.w.heap (.sl T) v (e.den x.e) := by
    intro v hv
    refine borrow_ok (s := .own o u) hs (by simp [borrow, hl]) ⟨by rw [hl]; rfl, fun T' e' u' h => ?_⟩
    rw [hl] at h
    cases h
    exact ⟨Nat.le_refl _, fun _ => hv⟩
  have hG : ∀ s v, G x s v → G x' (frSV o T e u s) v := by
    intro s v h
    by_cases hown : ∃ v', s = .own o v'
    · obtain ⟨v', rfl⟩ := hown
      simp only [frSV, if_true]
      split
      · rename_i huv
        subst huv
        have hv := (h.2 T e _ hl).2 rfl
        obtain ⟨h1, h2⟩ := hrd v hv
        refine ⟨by rw [xe]; exact h1, ?_⟩
        rw [xP, xw, xe]
        refine h2.mono (fun b hb => ?_) fun _ _ => rfl
        rw [xI]
        rcases hb with hb | hb
        · exact .inl hb
        · exact .inr (by rw [← hv]; exact hb)
      · trivial
    · have : frSV o T e u s = s := by
        cases s with
        | own o' v' =>
          have : o' ≠ o := fun h => hown ⟨v', by rw [h]⟩
          simp [frSV, this]
        | _ => rfl
      rw [this]
      exact h.ext hext
  have hGL : ∀ l c, GL x l c → GL x' (l.map (frSV o T e u)) c := by
    intro l c h
    refine ⟨by rw [List.length_map]; exact h.1, fun j s hj => ?_⟩
    simp only [List.getElem?_map, Option.map_eq_some_iff] at hj
    obtain ⟨s', h1, rfl⟩ := hj
    exact hG s' _ (h.2 j s' h1)
  have hG1 : ∀ s v, G1 x s v → G1 x' (fr1 o T e u s) v := by
    intro s v h
    cases s with
    | one s => exact hG s v h
    | agg l => obtain ⟨c, h1, h2⟩ := h; exact ⟨c, h1, hGL l c h2⟩
  have hblk : ∀ p b, p ≠ o → (look x.H p).live = true → blkOf (x.ν p) = some b → blkOf (x.ν o) ≠ some b := fun p b hp h1 h2 => hs.apart p o b hp h1 (by rw [hl]; rfl) h2
  refine ⟨x', xw, xP, xe, xν, by rw [← hx], ?_, hext, fun b hb => ?_, fun p T' l fz h => ?_, fun s v h => ?_⟩
  · refine Sat.step hs hext (fun _ => True) (fun _ h => absurd trivial h) (fun _ _ h => absurd trivial h) (fun p _ => ?_) (fun p p' b _ hne h1 h2 h3 => ?_) (fun b hb => ?_) (fun p b _ h1 h2 => ?_) ⟨by rw [xw]; exact hs.frame.os, by rw [xw]; exact hs.frame.tape, by rw [xw]; exact hs.frame.output, by rw [xw]; exact hs.frame.size, by rw [xw]; exact hs.frame.block⟩
    · rw [xH]
      split
      · trivial
      · rename_i hp
        have hob := hs.objs p
        cases hq : look x.H p with
        | dead => trivial
        | unborn => trivial
        | cells T2 l2 fz2 =>
          rw [hq] at hob
          obtain ⟨b, c, k1, k2, k3, k4, k5⟩ := hob
          refine ⟨b, c, by rw [xν]; exact k1, by rw [xw]; exact k2, hGL l2 c k3, fun h => (xI b).2 (.inl (k4 h)), fun h hi => ?_⟩
          rcases (xI b).1 hi with hi | hi
          · exact k5 h hi
          · exact hblk p b hp (by rw [hq]; rfl) (by rw [k1]; rfl) hi
        | row T2 e2 u2 =>
          rw [hq] at hob
          obtain ⟨hsc, ts, n, xs, k1, k2, k3, k4, k5⟩ := hob
          refine ⟨by rw [xe]; exact hsc, ts, n, xs, by rw [xP]; exact k1, by rw [xν, xw]; exact k2, by rw [xe]; exact k3, ?_, fun b hb hi => ?_⟩
          · rw [xP, xw, xe]
            exact k4.mono (fun b hb => (xI b).2 (.inl hb)) fun _ _ => rfl
          · rw [xν] at hb
            rcases (xI b).1 hi with hi | hi
            · exact k5 b hb hi
            · exact hblk p b hp (by rw [hq]; rfl) (blkOf_own hb) hi
    · rw [xν] at h3 ⊢
      exact hs.apart p p' b hne (hlive p h1).2 (hlive p' h2).2 h3
    · rw [xw]
      rcases (xI b).1 hb with hb | hb
      · exact hs.ibound b hb
      · exact live_blk_lt hs (by rw [hl]; rfl) hb
    · rw [xν] at h2
      rw [xH] at h1
      split at h1
      · cases h1
      · rw [(hfr _).2.1] at h1
        exact hs.mine p b h1 h2
  · rcases (xI b).1 hb with hb | hb
    · exact .inl hb
    · rcases hs.mine o b (by rw [hl]; rfl) hb with h | h
      · exact .inr (.inr h)
      · exact .inr (.inl h)
  · rw [xH] at h
    split at h
    · cases h
    · cases hq : look x.H p with
      | cells T2 l2 fz2 => rw [hq] at h; simp only [frO, SObj.cells.injEq] at h; obtain ⟨rfl, _, rfl⟩ := h; exact ⟨l2, rfl⟩
      | row _ _ _ => rw [hq] at h; cases h
      | dead => rw [hq] at h; cases h
      | unborn => rw [hq] at h; cases h
  · cases s with
    | v s => exact hG1 s v h
    | tup l =>
      obtain ⟨c, h1, h2, h3⟩ := h
      refine ⟨c, h1, by rw [List.length_map]; exact h2, fun j s hj => ?_⟩
      simp only [List.getElem?_map, Option.map_eq_some_iff] at hj
      obtain ⟨s', h4, rfl⟩ := hj
      exact hG1 s' _ (h3 j s' h4)

end
end Glx
namespace Glx
open Go

def Kind.ex : Kind → Exit
  | .normal => .normal
  | .exit id => .exit id
  | .ret => .ret
  | .dead => .ret

/-- a path that is not told of -/
def orDead (st : St) : Option (Tm Lf) → Tm Lf
  | some t => t
  | none => .guard (.blit false) (.leaf (.dead, st))

/-- no label, no jump -/
def Tm.flat {A : Type} : Tm A → Bool
  | .leaf _ => true
  | .guard _ k | .letx _ k | .call _ _ k => k.flat
  | .ite _ a b => a.flat && b.flat
  | _ => false

def jumpOr (P : Program) (B nb T : Nat) (L : Lay) (lf : Lf) : Option (Tm Lf) :=
  match lf.1 with
  | .normal =>
    let st := freezes (thaws L B lf.2) lf.2
    let p := mkFit B nb L st
    if fitSt P B nb L p.1 p.2 st = true then some (.jump T p.1) else none
  | _ => some (.leaf lf)

/-- paths meet -/
def joinN (P : Program) (B T live : Nat) (st0 : St) (t : Tm Lf) : Option (Tm Lf) :=
  let ns := normals t
  if ns.length ≤ 1 then some t
  else
    let L := antiUnify B st0.n live ns
    if t.binds T then none else (t.bindO (jumpOr P B st0.n T L)).map fun m => .join T m (.leaf (.normal, L.st st0.n))

/-- a region; if it can't be told with rows of the walk's own, then without them -/
def regionF (C : Cfg) (draw : Bool) (ops : Array Oper) (st : St) : Option (St × Tm RLeaf) :=
  match region C draw ops st.S st.H st.n with
  | some t => some (st, t)
  | none => let st := freezes (rowsOf st.H) st; (region C draw ops st.S st.H st.n).map (st, ·)

def exec (C : Cfg) (B : Nat) : Code → Nat → Nat → St → Option (Tm Lf)
  | .skip, _, _, st => some (.leaf (.normal, st))
  | .exit id, _, _, st => some (.leaf (.exit id, st))
  | .ret, _, _, st => some (.leaf (.ret, st))
  | .region _ ops draw, d, live, st =>
    (regionF C draw ops st).bind fun (st, t) => if t.flat then (t.bindO fun lf => some (.leaf (.normal, ⟨regEnd ops.toList lf.R st.S, lf.H, lf.n⟩))).bind (joinN C.P B d live st) else none
  | .seq a b, d, live, st => (exec C B a (d + 1) (live ||| usesOf b) st).bind fun t => t.bindO fun lf => if lf.1 = .normal then some (orDead lf.2 (exec C B b (d + 1) live lf.2)) else some (.leaf lf)
  | .cond c x y, d, live, st => (opd st.S c).bind fun
    | .v (.one (.bool (.blit true))) => exec C B x (d + 1) live st
    | .v (.one (.bool (.blit false))) => exec C B y (d + 1) live st
    | .v (.one (.bool e)) => joinN C.P B d live st (.ite e (orDead st (exec C B x (d + 1) live st)) (orDead st (exec C B y (d + 1) live st)))
    | _ => none
  | .block id c, d, live, st => (exec C B c (d + 1) live st).bind fun t => (t.bindO fun lf => if lf.1 = .exit id then some (.leaf (.normal, lf.2)) else some (.leaf lf)).bind (joinN C.P B d live st)
  | .loop c, d, live, st =>
    let lv := live ||| usesOf c
    (search C.P B lv st (exec C B c (d + 1) lv) 8 (openLay B lv (setsOf c) st)).bind fun (L, t) =>
      let st' := freezes (thaws L B st) st
      let p := mkFit B st.n L st'
      if fitSt C.P B st.n L p.1 p.2 st' && !t.binds d then (t.bindO (jumpOr C.P B st.n d L)).map fun b => .loop d p.1 b else none
  | _, _, _, _ => none

theorem search_ok {P : Program} {B live : Nat} {st : St} {body : St → Option (Tm Lf)} : ∀ {f : Nat} {L L' : Lay} {t : Tm Lf}, search P B live st body f L = some (L', t) → body (L'.st st.n) = some t
  | 0, _, _, _, h => by cases h
  | f + 1, L, L', t, h => by
    simp only [search] at h
    obtain ⟨t', h1, h⟩ := Option.bind_eq_some_iff.1 h
    split at h
    · split at h
      · cases h; exact h1
      · exact search_ok h
    · exact search_ok h

section
variable {A B : Type} {Φ : Nat → List D → Option (List D)}

theorem flat_binds {T : Nat} : ∀ {t : Tm A}, t.flat = true → t.binds T = false := by
  intro t
  induction t <;> simp_all [Tm.flat, Tm.binds]

theorem flat_never {t : Tm A} (h : t.flat = true) : Never Φ t := by
  induction t with
  | leaf x => intro e u ds hr; cases hr
  | jump _ _ => cases h
  | join _ _ _ => cases h
  | loop _ _ _ => cases h
  | guard c k ih => intro e u ds hr; cases hr with | guard _ h2 => exact ih h _ _ _ h2
  | letx x k ih => intro e u ds hr; cases hr with | letx h2 => exact ih h _ _ _ h2
  | call i as k ih => intro e u ds hr; cases hr with | call _ h2 => exact ih h _ _ _ h2
  | ite c a b iha ihb =>
    simp only [Tm.flat, Bool.and_eq_true] at h
    intro e u ds hr
    cases hr with
    | iteT _ h2 => exact iha h.1 _ _ _ h2
    | iteF _ h2 => exact ihb h.2 _ _ _ h2

theorem binds_bound : ∀ t : Tm A, ∃ n, ∀ T, n ≤ T → t.binds T = false := by
  intro t
  induction t with
  | leaf x => exact ⟨0, fun _ _ => rfl⟩
  | jump _ _ => exact ⟨0, fun _ _ => rfl⟩
  | guard c k ih => exact ih
  | letx x k ih => exact ih
  | call i as k ih => exact ih
  | ite c a b iha ihb =>
    obtain ⟨n, hn⟩ := iha
    obtain ⟨m, hm⟩ := ihb
    exact ⟨max n m, fun T hT => by simp [Tm.binds, hn T (by omega), hm T (by omega)]⟩
  | join t a b iha ihb =>
    obtain ⟨n, hn⟩ := iha
    obtain ⟨m, hm⟩ := ihb
    exact ⟨max (t + 1) (max n m), fun T hT => by simp [Tm.binds, hn T (by omega), hm T (by omega)]; omega⟩
  | loop t i b ih =>
    obtain ⟨n, hn⟩ := ih
    exact ⟨max (t + 1) n, fun T hT => by simp [Tm.binds, hn T (by omega)]; omega⟩

theorem run_bind0 {f : A → Option (Tm B)} (hf : ∀ a t2, f a = some t2 → Never Φ t2) {t : Tm A} {t' : Tm B} {e : List D} {res : Res B} (ht : Never Φ t) (h : t.bindO f = some t') (hr : Run Φ none t' e res) :
    ∃ a e1 t2, Run Φ none t e (.leaf a e1) ∧ f a = some t2 ∧ Run Φ none t2 e1 res := by
  obtain ⟨n, hn⟩ := binds_bound t
  exact run_bindN (T := n) (fun a t2 h e u ds hr => absurd hr (hf a t2 h e u ds)) ht (hn n (Nat.le_refl _)) h hr

theorem never_bind {f : A → Option (Tm B)} (hf : ∀ a t2, f a = some t2 → Never Φ t2) {t : Tm A} {t' : Tm B} (ht : Never Φ t) (h : t.bindO f = some t') : Never Φ t' := by
  intro e u ds hr
  obtain ⟨a, e1, t2, _, h2, h3⟩ := run_bind0 hf ht h hr
  exact hf a t2 h2 e1 u ds h3

theorem never_leaf {x : A} : Never Φ (.leaf x) := by intro e u ds hr; cases hr

theorem jumpOr_only {P : Program} {Bn nb T : Nat} {L : Lay} (lf : Lf) (t2 : Tm Lf) (h : jumpOr P Bn nb T L lf = some t2) : Only Φ T t2 := by
  unfold jumpOr at h
  intro e u ds hr
  split at h
  · simp only [Option.ite_none_right_eq_some, Option.some.injEq] at h
    obtain ⟨_, rfl⟩ := h
    cases hr
    rfl
  · cases h
    cases hr

theorem joinN_never {P : Program} {Bn T live : Nat} {st0 : St} {t t' : Tm Lf} (ht : Never Φ t) (h : joinN P Bn T live st0 t = some t') : Never Φ t' := by
  unfold joinN at h
  simp only at h
  split at h
  · cases h; exact ht
  · split at h
    · cases h
    · rename_i hb
      obtain ⟨m, h1, rfl⟩ := Option.map_eq_some_iff.1 h
      intro e u ds hr
      cases hr with
      | joinO hu h2 =>
        obtain ⟨a, e1, t2, _, q2, q3⟩ := run_bindN (T := T) (fun a t2 h => jumpOr_only a t2 h) ht (by simpa using hb) h1 h2
        exact hu (jumpOr_only a t2 q2 _ _ _ q3)
      | joinJ _ h3 => cases h3

theorem orDead_never {st : St} {o : Option (Tm Lf)} (h : ∀ t, o = some t → Never Φ t) : Never Φ (orDead st o) := by
  cases o with
  | some t => exact h t rfl
  | none =>
    intro e u ds hr
    cases hr with
    | guard hc _ => cases hc

theorem orDead_run {st : St} {o : Option (Tm Lf)} {e : List D} {res : Res Lf} (h : Run Φ none (orDead st o) e res) : ∃ t, o = some t ∧ Run Φ none t e res := by
  cases o with
  | some t => exact ⟨t, rfl, h⟩
  | none =>
    cases h with
    | guard hc _ => cases hc

theorem exec_never {C : Cfg} {Bn : Nat} : ∀ (c : Code) (d live : Nat) (st : St) (t : Tm Lf), exec C Bn c d live st = some t → Never Φ t := by
  intro c
  induction c with
  | skip => intro d live st t h; simp only [exec, Option.some.injEq] at h; subst h; exact never_leaf
  | exit id => intro d live st t h; simp only [exec, Option.some.injEq] at h; subst h; exact never_leaf
  | ret => intro d live st t h; simp only [exec, Option.some.injEq] at h; subst h; exact never_leaf
  | region id ops draw =>
    intro d live st t h
    simp only [exec] at h
    obtain ⟨⟨st', t1⟩, _, h⟩ := Option.bind_eq_some_iff.1 h
    simp only at h
    split at h
    · rename_i hfl
      obtain ⟨t2, h2, h⟩ := Option.bind_eq_some_iff.1 h
      exact joinN_never (never_bind (fun a t2 h => by cases h; exact never_leaf) (flat_never hfl) h2) h
    · cases h
  | seq a b iha ihb =>
    intro d live st t h
    simp only [exec] at h
    obtain ⟨t1, h1, h⟩ := Option.bind_eq_some_iff.1 h
    refine never_bind (fun lf t2 h => ?_) (iha _ _ _ _ h1) h
    split at h
    · cases h; exact orDead_never (ihb _ _ _)
    · cases h; exact never_leaf
  | cond c x y ihx ihy =>
    intro d live st t h
    simp only [exec] at h
    obtain ⟨s, _, h⟩ := Option.bind_eq_some_iff.1 h
    split at h
    · exact ihx _ _ _ _ h
    · exact ihy _ _ _ _ h
    · refine joinN_never (fun e u ds hr => ?_) h
      cases hr with
      | iteT _ h3 => exact orDead_never (ihx _ _ _) _ _ _ h3
      | iteF _ h3 => exact orDead_never (ihy _ _ _) _ _ _ h3
    · cases h
  | block id c ih =>
    intro d live st t h
    simp only [exec] at h
    obtain ⟨t1, h1, h⟩ := Option.bind_eq_some_iff.1 h
    obtain ⟨t2, h2, h⟩ := Option.bind_eq_some_iff.1 h
    refine joinN_never (never_bind (fun a t2 h => ?_) (ih _ _ _ _ h1) h2) h
    split at h <;> cases h <;> exact never_leaf
  | loop c ih =>
    intro d live st t h
    simp only [exec] at h
    obtain ⟨⟨L, tb⟩, h1, h⟩ := Option.bind_eq_some_iff.1 h
    have hb := search_ok h1
    simp only [Option.ite_none_right_eq_some, Bool.and_eq_true, Bool.not_eq_true'] at h
    obtain ⟨⟨_, hbd⟩, h⟩ := h
    obtain ⟨b, h2, rfl⟩ := Option.map_eq_some_iff.1 h
    intro e u ds hr
    have key : ∀ (o : Option (List D)) (tt : Tm Lf) (e' : List D) (res : Res Lf), Run Φ o tt e' res → ∀ st', o = some st' → tt = .loop d (mkFit Bn st.n L (freezes (thaws L Bn st) st)).1 b → res ≠ .jump u ds := by
      intro o tt e' res hrun
      induction hrun with
      | loopL h3 => intro _ _ _ h; cases h
      | loopO hu h3 =>
        intro st' ho ht hq
        cases ho; cases ht
        obtain ⟨a, e1, t2, _, q2, q3⟩ := run_bindN (T := d) (fun a t2 h => jumpOr_only a t2 h) (ih _ _ _ _ hb) hbd h2 h3
        exact hu (jumpOr_only a t2 q2 _ _ _ q3)
      | loopJ h3 h4 _ ih2 =>
        intro st' ho ht hq
        cases ho; cases ht
        exact ih2 _ rfl rfl hq
      | _ => intro _ ho; cases ho
    cases hr with
    | loop h3 => exact key _ _ _ _ h3 _ rfl rfl rfl
  | _ => intro d live st t h; simp [exec] at h

end
end Glx
