/- A region, whole: of the term's leaf, in whichever order the operations come. -/
import Derived.Test.YtfelpmijieomaaaGreatDoorGlxRegB
namespace Glx
open Go

def regEnd : List Oper → List Rec → List Slot → List Slot
  | o :: ops, r :: R, S => regEnd ops R (match o.dst with
    | some t => S.set t (if r.run && r.cd.isEmpty then r.out.dst else skipSlot)
    | none => S)
  | _, _, S => S

theorem regEnd_length : ∀ (ops : List Oper) (R : List Rec) (S : List Slot), (regEnd ops R S).length = S.length
  | [], _, _ => by simp [regEnd]
  | _ :: _, [], _ => by simp [regEnd]
  | o :: ops, r :: R, S => by
    simp only [regEnd]
    rw [regEnd_length ops R]
    split <;> simp

theorem regEnd_get : ∀ (ops : List Oper) (R : List Rec) (S : List Slot) (t : Nat) (s : Slot), (regEnd ops R S)[t]? = some s →
    ((∀ (i : Nat) (o : Oper), ops[i]? = some o → i < R.length → o.dst ≠ some t) ∧ S[t]? = some s) ∨
    ∃ (i : Nat) (o : Oper) (r : Rec), ops[i]? = some o ∧ R[i]? = some r ∧ o.dst = some t ∧ s = if r.run && r.cd.isEmpty then r.out.dst else skipSlot
  | [], R, S, t, s, h => .inl ⟨fun i o hi => by simp at hi, by simpa [regEnd] using h⟩
  | o :: ops, [], S, t, s, h => .inl ⟨fun i o hi hl => by simp at hl, by simpa [regEnd] using h⟩
  | o :: ops, r :: R, S, t, s, h => by
    simp only [regEnd] at h
    rcases regEnd_get ops R _ t s h with ⟨h1, h2⟩ | ⟨i, o', r', h1, h2, h3, h4⟩
    · by_cases hd : o.dst = some t
      · right
        rw [hd] at h2
        simp only at h2
        have hl : t < S.length := by have := (List.getElem?_eq_some_iff.1 h2).1; simpa using this
        rw [List.getElem?_set_self hl] at h2
        exact ⟨0, o, r, rfl, rfl, hd, (Option.some.inj h2).symm⟩
      · left
        refine ⟨fun i o' hi hl => ?_, ?_⟩
        · cases i with
          | zero => simp only [List.getElem?_cons_zero, Option.some.injEq] at hi; subst hi; exact hd
          | succ i => exact h1 i o' (by simpa using hi) (by simpa using hl)
        · cases hq : o.dst with
          | none => rw [hq] at h2; exact h2
          | some u =>
            rw [hq] at h2
            simp only at h2
            rwa [List.getElem?_set_ne (by rintro rfl; exact hd hq)] at h2
    · exact .inr ⟨i + 1, o', r', by simpa using h1, by simpa using h2, h3, h4⟩

section
variable {C : Cfg} {Φ : Nat → List D → Option (List D)} {x : Env} {w0 : World} {M : Nat → Prop}

/-- the same picture: another list of the same blocks; a longer list of data; another count of draws -/
theorem Sat.relist (hs : Sat x w0 M) {H : List SObj} (hH : ∀ p, look H p = look x.H p) (ds : List D) (k : Nat) :
    Sat { x with H := H, e := x.e ++ ds, w := { x.w with drawn := k } } w0 M ∧ Ext x { x with H := H, e := x.e ++ ds, w := { x.w with drawn := k } } := by
  have he : Ext x { x with H := H, e := x.e ++ ds, w := { x.w with drawn := k } } :=
    ⟨rfl, fun _ h => h, ⟨ds, rfl⟩, fun _ _ => rfl, fun o h => by rw [← hH] at h; exact h, fun o T l fz _ h => ⟨⟨l, fz, by rw [← hH]; exact h⟩, rfl⟩, fun o T e u _ h => ⟨e, u, by rw [← hH]; exact h, Nat.le_refl _, fun _ => rfl⟩⟩
  refine ⟨Sat.step hs he (fun _ => False) (fun o _ => ⟨hH o, rfl⟩) (fun _ _ _ _ _ => ⟨rfl, Iff.rfl⟩) (fun _ h => h.elim) (fun _ _ _ h => h.elim) hs.ibound (fun _ _ h => h.elim) ?_, he⟩
  exact ⟨hs.frame.os, hs.frame.tape, hs.frame.output, hs.frame.size, hs.frame.block⟩

def region (C : Cfg) (draw : Bool) (ops : Array Oper) (S : List Slot) (H : List SObj) (n : Nat) : Option (Tm RLeaf) :=
  let l := ops.toList
  rwalk ⟨C, l, S, H.length + (l.map fun o => newOf C o.op).foldl (· + ·) 0, draw, if draw then befsOf l [] else (List.range l.length).map fun i => 2 ^ i - 1⟩ (3 * l.length + 20) l [] [] H n

theorem apartAll_ok {rj : Rec} : ∀ {l : List Rec} {i0 : Nat}, apartAll C rj l i0 = true → ∀ (i : Nat) (ri : Rec), l[i]? = some ri → rj.bef.testBit (i0 + i) = true ∨ apartAt C ri rj = true
  | [], _, _, i, ri, h => by simp at h
  | r :: l, i0, h, i, ri, hi => by
    simp only [apartAll, Bool.and_eq_true, Bool.or_eq_true] at h
    cases i with
    | zero => simp only [List.getElem?_cons_zero, Option.some.injEq] at hi; subst hi; exact h.1
    | succ i => have := apartAll_ok h.2 i ri (by simpa using hi); rwa [Nat.add_right_comm i0 1 i] at this

theorem conf_ok {g : RCfg} {R : List Rec} (h : leafOk g R = true) (i j : Nat) (ri rj : Rec) (hij : i < j) (hi : R[i]? = some ri) (hj : R[j]? = some rj) (hri : ri.run = true) (hrj : rj.run = true) :
    rj.bef.testBit i = true ∨ ((∀ p ∈ ri.out.ef.touch g.C, p ∉ rj.ids) ∧ (∀ p ∈ rj.out.ef.touch g.C, p ∉ ri.ids)) := by
  have hjl : j < R.length := (List.getElem?_eq_some_iff.1 hj).1
  unfold leafOk at h
  split at h
  · simp only [List.all_eq_true, List.mem_range] at h
    have := h j hjl
    rw [hj] at this
    simp only at this
    rcases apartAll_ok this i ri (by rw [List.getElem?_take_of_lt hij]; exact hi) with h1 | h1
    · rw [Nat.zero_add] at h1; exact .inl h1
    · right
      simp only [apartAt, hri, hrj, Bool.not_true, Bool.false_or, Bool.and_eq_true, List.all_eq_true, Bool.not_eq_true', List.contains_eq_mem, decide_eq_false_iff_not] at h1
      exact h1
  · simp only [List.all_eq_true, List.mem_range] at h
    have := h j hjl
    rw [hj] at this
    simp only [beq_iff_eq] at this
    left
    rw [this, Nat.testBit_two_pow_sub_one]
    simpa using hij

theorem befOf_spec {befs : List Nat} {o : Oper} {j : Nat} : (befOf befs o).testBit j = true ↔ ∃ e ∈ o.after.toList, Region.binds .any e = true ∧ (e.on = j ∨ (befs.getD e.on 0).testBit j = true) := by
  unfold befOf
  have key : ∀ (l : List Edge) (s : Nat), (l.foldl (fun s e => if Region.binds .any e then s ||| 2 ^ e.on ||| befs.getD e.on 0 else s) s).testBit j = true ↔
      s.testBit j = true ∨ ∃ e ∈ l, Region.binds .any e = true ∧ (e.on = j ∨ (befs.getD e.on 0).testBit j = true) := by
    intro l
    induction l with
    | nil => intro s; simp
    | cons e l ih =>
      intro s
      rw [List.foldl_cons, ih]
      by_cases hb : Region.binds .any e = true
      · rw [if_pos hb]
        simp only [Nat.testBit_or, Bool.or_eq_true, Nat.testBit_two_pow, decide_eq_true_eq, List.mem_cons, exists_eq_or_imp, hb, true_and]
        constructor
        · rintro ((h | h) | h)
          · rcases h with h | h
            · exact .inl h
            · exact .inr (.inl (.inl h))
          · exact .inr (.inl (.inr h))
          · exact .inr (.inr h)
        · rintro (h | (h | h) | h)
          · exact .inl (.inl (.inl h))
          · exact .inl (.inl (.inr h))
          · exact .inl (.inr h)
          · exact .inr h
      · rw [if_neg hb]
        simp [hb]
  rw [key]
  simp

theorem befsOf_spec : ∀ (l : List Oper) (acc : List Nat), (befsOf l acc).length = acc.length + l.length ∧ (∀ i, i < acc.length → (befsOf l acc).getD i 0 = acc.getD i 0) ∧
    ∀ (i : Nat) (o : Oper), l[i]? = some o → ∃ pre, (befsOf l acc).getD (acc.length + i) 0 = befOf pre o ∧ pre.length = acc.length + i ∧ ∀ k, k < pre.length → pre.getD k 0 = (befsOf l acc).getD k 0
  | [], acc => ⟨by simp [befsOf], fun i _ => rfl, fun i o hi => by simp at hi⟩
  | o :: l, acc => by
    obtain ⟨h1, h2, h3⟩ := befsOf_spec l (acc ++ [befOf acc o])
    simp only [befsOf]
    refine ⟨by rw [h1]; simp; omega, fun i hi => ?_, fun i o' hi => ?_⟩
    · rw [h2 i (by simp; omega)]
      simp [List.getElem?_append_left hi]
    · cases i with
      | zero =>
        simp only [List.getElem?_cons_zero, Option.some.injEq] at hi
        subst hi
        refine ⟨acc, ?_, rfl, fun k hk => ?_⟩
        · rw [h2 _ (by simp)]; simp
        · rw [h2 k (by simp; omega)]; simp [List.getElem?_append_left hk]
      | succ i =>
        obtain ⟨pre, k1, k2, k3⟩ := h3 i o' (by simpa using hi)
        simp only [List.length_append, List.length_singleton] at k1 k2
        exact ⟨pre, by rw [show acc.length + (i + 1) = acc.length + 1 + i by omega]; exact k1, by omega, k3⟩

variable {ops : List Oper} {S : List Slot} {befs : List Nat} {H0 : List SObj} {N : Nat} {R : List Rec} {x0 : Env} {ds : List Deferred}

theorem Inv.congr {L L' : Nat → Bool} {a : Act} (h : Inv C ops S H0 R x0 w0 M ds L a x) (hl : ∀ j, j < ops.length → L j = L' j) (hR : R.length = ops.length) : Inv C ops S H0 R x0 w0 M ds L' a x := by
  refine ⟨h.P, h.e, h.sat, h.ext, fun p => ?_, h.back, h.defers, h.size, fun t s hi hs => h.old t s (fun i hi' => ?_) hs, fun t i hi hL => ?_⟩
  · rw [h.heap]
    refine obOf_congr _ _ _ fun j r hj _ _ => ?_
    have := (List.getElem?_eq_some_iff.1 hj).1
    rw [Nat.zero_add]
    exact hl j (by omega)
  · obtain ⟨_, o, ho, _⟩ := ixOf_spec hi'
    have := (List.getElem?_eq_some_iff.1 ho).1
    rw [hl i (by omega)]
    exact hi i hi'
  · obtain ⟨_, o, ho, _⟩ := ixOf_spec hi
    have := (List.getElem?_eq_some_iff.1 ho).1
    exact h.new t i hi (by rw [hl i (by omega)]; exact hL)

/-- by text -/
theorem reg_seq (hsig : SigOk C Φ) (hok : RegOk C Φ ops S befs H0 N R x0.e) (hbef : ∀ (j : Nat) (r : Rec), R[j]? = some r → ∀ m, r.bef.testBit m = true → m < j) {Q : Exit → Act → World → Prop}
    (hQ : ∀ a x, Inv C ops S H0 R x0 w0 M ds (fun _ => true) a x → Q .normal a x.w) : ∀ (k i : Nat) (a : Act) (x : Env), i + k = ops.length → Inv C ops S H0 R x0 w0 M ds (fun j => decide (j < i)) a x →
      wpOps C.P ops.toArray Q (List.range' i k) a x.w
  | 0, i, a, x, hk, h => hQ a x (h.congr (fun j hj => by simp; omega) hok.len)
  | k + 1, i, a, x, hk, h => by
    have hi : i < ops.length := by omega
    rw [List.range'_succ, wpOps_cons]
    refine reg_step hsig hok h (List.getElem?_eq_getElem hi) (by simp) (fun r hr j hj => by simpa using hbef i r hr j hj) (fun j r hr hj m hm => ?_) (fun a' x' h' => ?_)
    · have := hbef j r hr m hm
      simp only [decide_eq_true_eq] at hj ⊢
      omega
    · refine reg_seq hsig hok hbef hQ k (i + 1) a' x' (by omega) (h'.congr (fun j hj => ?_) hok.len)
      by_cases h1 : j = i
      · simp [h1]
      · have : (j == i) = false := by simp [h1]
        rw [this, Bool.false_or]
        by_cases h2 : j < i
        · simp [h2]; omega
        · simp [h2]; omega

/-- in any order -/
theorem reg_any (hsig : SigOk C Φ) (hok : RegOk C Φ ops S befs H0 N R x0.e) (hbef : ∀ (j : Nat) (o : Oper), ops[j]? = some o → ∃ pre, befs.getD j 0 = befOf pre o ∧ pre.length = j ∧ ∀ k, k < pre.length → pre.getD k 0 = befs.getD k 0) {Q : Exit → Act → World → Prop}
    (hQ : ∀ a x, Inv C ops S H0 R x0 w0 M ds (fun _ => true) a x → Q .normal a x.w) : ∀ (fuel : Nat) (listed : Array Bool) (a : Act) (x : Env) (U : List Nat), listed.size = ops.length → U.Nodup → U.length = fuel →
      (∀ j, j < ops.length → (j ∈ U ↔ listed.getD j false = false)) → (∀ j ∈ U, j < ops.length) → (∀ (j : Nat) (r : Rec), R[j]? = some r → listed.getD j false = true → ∀ m, r.bef.testBit m = true → listed.getD m false = true) →
      Inv C ops S H0 R x0 w0 M ds (fun j => listed.getD j false) a x → wpAny C.P .any ops.toArray Q fuel listed a x.w := by
  intro fuel
  have hdone : ∀ (listed : Array Bool) (a : Act) (x : Env) (U : List Nat), (∀ j, j < ops.length → (j ∈ U ↔ listed.getD j false = false)) → U = [] → Inv C ops S H0 R x0 w0 M ds (fun j => listed.getD j false) a x → Q .normal a x.w := by
    intro listed a x U hU hnil h
    subst hnil
    refine hQ a x (h.congr (fun j hj => ?_) hok.len)
    have := hU j hj
    cases hq : listed.getD j false with
    | true => rfl
    | false => have := this.2 hq; cases this
  have hready : ∀ (listed : Array Bool) (U : List Nat), listed.size = ops.length → (∀ j, j < ops.length → (j ∈ U ↔ listed.getD j false = false)) → (∀ j ∈ U, j < ops.length) → Region.ready .any ops.toArray listed = [] → U = [] := by
    intro listed U hsz hU hUl hr
    have key : ∀ m, m ∉ U := by
      intro m
      induction m using Nat.strongRecOn with
      | _ m ih =>
        intro hm
        have hml := hUl m hm
        have : m ∈ Region.ready .any ops.toArray listed := by
          rw [mem_ready]
          refine ⟨?_, ops[m], by simp [hml], fun e he hb => ?_⟩
          · have h1 := (hU m hml).1 hm
            have hms : m < listed.size := by omega
            simpa [hms] using h1
          · obtain ⟨r, h1, h2⟩ := hok.all m ops[m] (List.getElem?_eq_getElem hml)
            obtain ⟨pre, h3, _⟩ := hbef m ops[m] (List.getElem?_eq_getElem hml)
            have h4 : r.bef.testBit e.on = true := by rw [h2.befEq, h3, befOf_spec]; exact ⟨e, by simpa using he, hb, .inl rfl⟩
            have h5 := h2.befLt _ h4
            have h6 := ih e.on h5
            cases hq : listed.getD e.on false with
            | true => rfl
            | false => exact absurd ((hU e.on (by omega)).2 hq) h6
        rw [hr] at this
        cases this
    cases U with
    | nil => rfl
    | cons m U => exact absurd (List.mem_cons_self ..) (key m)
  induction fuel with
  | zero =>
    intro listed a x U hsz hnd hlen hU hUl hdown h
    have hnil : U = [] := List.length_eq_zero_iff.1 hlen
    refine ⟨?_, hdone listed a x U hU hnil h⟩
    cases hr : Region.ready .any ops.toArray listed with
    | nil => rfl
    | cons m l =>
      have hm : m ∈ Region.ready .any ops.toArray listed := by rw [hr]; exact List.mem_cons_self ..
      rw [mem_ready] at hm
      obtain ⟨h1, o, h2, _⟩ := hm
      have hml : m < ops.length := by simpa using (Array.getElem?_eq_some_iff.1 h2).1
      have hms : m < listed.size := by omega
      have := (hU m hml).2 (by simpa [hms] using h1)
      rw [hnil] at this
      cases this
  | succ fuel ih =>
    intro listed a x U hsz hnd hlen hU hUl hdown h
    refine ⟨fun hr => hdone listed a x U hU (hready listed U hsz hU hUl hr) h, fun i hi => ?_⟩
    rw [mem_ready] at hi
    obtain ⟨h1, o, h2, h3⟩ := hi
    have hil : i < ops.length := by simpa using (Array.getElem?_eq_some_iff.1 h2).1
    have his : i < listed.size := by omega
    have ho : ops[i]? = some o := by simpa using h2
    have hLi : listed.getD i false = false := by simpa [his] using h1
    have hiU : i ∈ U := (hU i hil).2 hLi
    have hset : ∀ j, (listed.setIfInBounds i true).getD j false = (j == i || listed.getD j false) := by
      intro j
      by_cases hj : j = i
      · subst hj; simp [his]
      · have : (j == i) = false := by simp [hj]
        rw [this, Bool.false_or]
        exact getD_set_ne false (Ne.symm hj)
    have hbi : ∀ r, R[i]? = some r → ∀ j, r.bef.testBit j = true → listed.getD j false = true := by
      intro r hr j hj
      obtain ⟨r', k1, k2⟩ := hok.all i o ho
      rw [hr] at k1
      cases k1
      obtain ⟨pre, p1, p2, p3⟩ := hbef i o ho
      rw [k2.befEq, p1, befOf_spec] at hj
      obtain ⟨e, he, hb, h4⟩ := hj
      have h5 := h3 e (by simpa using he) hb
      rcases h4 with rfl | h4
      · exact h5
      · have hel : e.on < i := k2.befLt _ (by rw [k2.befEq, p1, befOf_spec]; exact ⟨e, he, hb, .inl rfl⟩)
        rw [p3 _ (by omega)] at h4
        obtain ⟨re, q1, q2⟩ := hok.all e.on ops[e.on] (List.getElem?_eq_getElem (by omega))
        exact hdown e.on re q1 h5 j (by rw [q2.befEq]; exact h4)
    refine reg_step hsig hok h ho hLi hbi hdown (fun a' x' h' => ?_)
    refine ih (listed.setIfInBounds i true) a' x' (U.erase i) (by simp [hsz]) (hnd.erase i) (by rw [List.length_erase_of_mem hiU, hlen]; rfl) (fun j hj => ?_) (fun j hj => hUl j (List.mem_of_mem_erase hj)) (fun j r hr hj m hm => ?_) (h'.congr (fun j _ => (hset j).symm) hok.len)
    · rw [hset, hnd.mem_erase_iff, hU j hj]
      by_cases hji : j = i
      · simp [hji]
      · simp [hji]
    · rw [hset] at hj ⊢
      by_cases hji : j = i
      · subst hji
        simp [hbi r hr m hm]
      · have : (j == i) = false := by simp [hji]
        rw [this, Bool.false_or] at hj
        simp [hdown j r hr hj m hm]

/-- a region -/
theorem region_ok (hsig : SigOk C Φ) (hmix : C.P.follows .mixedOrders = true) {id : Nat} {draw : Bool} {ops : Array Oper} {S : List Slot} {H : List SObj} {n : Nat} {t : Tm RLeaf} (h : region C draw ops S H n = some t) {e : List D} {res : Res RLeaf}
    (hr : Run Φ none t e res) (hn : e.length = n) : ∃ lf es, res = .leaf lf (e ++ es) ∧ lf.n = (e ++ es).length ∧ ∀ (x : Env) (a : Act) (Q : Exit → Act → World → Prop), x.P = C.P → x.e = e → x.H = H → Sat x w0 M → Slots x S a.tmps →
      (∀ a' x', x'.P = C.P → x'.e = e ++ es → x'.H = lf.H → Sat x' w0 M → Ext x x' → (∀ b, x'.I b → x.I b ∨ w0.heap.size ≤ b ∨ M b) → Slots x' (regEnd ops.toList lf.R S) a'.tmps → a'.defers = a.defers → Q .normal a' x'.w) → (Code.region id ops draw).wp C.P Q a x.w := by
  unfold region at h
  obtain ⟨lf, es, h1, h2, h3, h4, h5, h6⟩ := rwalk_ok (H0 := H) hsig _ _ _ _ _ _ _ _ _ h hr hn (fun c hc => by cases hc) (fun c hc => by cases hc) (fun i o hi => by simp at hi) (by simp) (by simp) (fun p => rfl)
  refine ⟨lf, es, h1, h2, fun x a Q hP he hH hs hS hQ => ?_⟩
  subst hH
  subst he
  generalize hbs : (if draw = true then befsOf ops.toList [] else (List.range ops.toList.length).map fun i => 2 ^ i - 1) = befs at h4 h6
  have hbnd : ∀ j, ops.toList.length ≤ j → befs.getD j 0 = 0 := by
    intro j hj
    have : befs.length = ops.toList.length := by
      rw [← hbs]
      split
      · rw [(befsOf_spec _ _).1]; simp
      · simp
    rw [List.getD_eq_getElem?_getD, List.getElem?_eq_none (by omega)]
    rfl
  generalize hN : x.H.length + (ops.toList.map fun o => newOf C o.op).foldl (· + ·) 0 = N at h4 h6
  have hstart : ∀ p, N ≤ p → look x.H p = .unborn := by
    intro p hp
    have : x.H.length ≤ p := by omega
    unfold look
    rw [List.getD_eq_getElem?_getD, List.getElem?_eq_none this]
    rfl
  have hok : RegOk C Φ ops.toList S befs x.H N lf.R (x.e ++ es) := ⟨fun i o ho => h4 i o (by rw [h3]; exact (List.getElem?_eq_some_iff.1 ho).1) ho, h3, hstart, hbnd, fun i j ri rj hij hi hj hri hrj => conf_ok h6 i j ri rj hij hi hj hri hrj⟩
  -- the end
  have hend : ∀ (x0 : Env), Ext x x0 → x0.e = x.e ++ es → x0.I = x.I → ∀ a' x', Inv C ops.toList S x.H lf.R x0 w0 M a.defers (fun _ => true) a' x' → Q .normal a' x'.w := by
    intro x0 hx0 hx0e hx0I a' x' hinv
    have hheap : ∀ p, look lf.H p = look x'.H p := fun p => by rw [h5, hinv.heap]
    obtain ⟨q1, q2⟩ := hinv.sat.relist hheap [] x'.w.drawn
    rw [List.append_nil] at q1 q2
    refine hQ a' { x' with H := lf.H } hinv.P (by rw [← hx0e]; exact hinv.e) rfl q1 (hx0.trans (hinv.ext.trans q2)) (by rw [← hx0I]; exact hinv.back) ⟨by rw [regEnd_length, hinv.size], fun t s hts => ?_⟩ hinv.defers
    refine GS.ext q2 ?_
    rcases regEnd_get _ _ _ t s hts with ⟨k1, k2⟩ | ⟨i, o, r, k1, k2, k3, rfl⟩
    · cases hix : ixOf ops.toList t 0 with
      | none => exact hinv.old t s (fun k hk => by rw [hix] at hk; cases hk) k2
      | some i =>
        obtain ⟨_, o, k3, k4⟩ := ixOf_spec hix
        exact absurd k4 (k1 _ o k3 (by rw [h3]; exact (List.getElem?_eq_some_iff.1 k3).1))
    · obtain ⟨r', q3, q4⟩ := hok.all i o k1
      rw [k2] at q3
      cases q3
      have hix := (q4.dst t k3).1
      obtain ⟨r', q5, q6, _⟩ := hinv.new t i hix rfl
      rw [k2] at q5
      cases q5
      split
      · rename_i hc
        simp only [Bool.and_eq_true, List.isEmpty_iff] at hc
        exact q6 ⟨hc.1, by rw [hc.2]; intro c hc; cases hc⟩
      · trivial
  have hinit : ∀ (x0 : Env), x0.P = C.P → x0.e = x.e ++ es → x0.H = x.H → Sat x0 w0 M → Ext x x0 → Inv C ops.toList S x.H lf.R x0 w0 M a.defers (fun _ => false) a x0 := by
    intro x0 e1 e2 e3 e4 e5
    refine ⟨e1, rfl, e4, Ext.refl _, fun p => ?_, fun b => .inl, rfl, hS.1, fun t s _ hts => (hS.2 t s hts).ext e5, fun t i _ hL => by cases hL⟩
    rw [e3]
    exact (obOf_none _ _ _ fun j r _ _ _ => rfl).symm
  cases draw with
  | false =>
    refine wp_region ?_
    obtain ⟨q1, q2⟩ := hs.relist (fun p => rfl) es x.w.drawn
    have := reg_seq (x0 := { x with e := x.e ++ es }) (Q := Q) (ds := a.defers) hsig hok (fun j r hj m hm => by
      obtain ⟨r', k1, k2⟩ := hok.all j ops.toList[j]! (by
        have hjl : j < ops.toList.length := by rw [← h3]; exact (List.getElem?_eq_some_iff.1 hj).1
        simp only [List.getElem?_eq_getElem hjl, getElem!_pos ops.toList j hjl])
      rw [hj] at k1
      cases k1
      exact k2.befLt m hm) (fun a' x' h' => hend _ q2 rfl rfl a' x' h') ops.toList.length 0 a { x with e := x.e ++ es } (by omega) ((hinit { x with e := x.e ++ es } hP rfl rfl q1 q2).congr (L' := fun j => decide (j < 0)) (fun j _ => by simp) h3)
    rw [Array.toArray_toList, ← List.range_eq_range'] at this
    simpa using this
  | true =>
    refine wp_region_any hmix ?_
    obtain ⟨q1, q2⟩ := hs.relist (fun p => rfl) es (x.w.drawn + 1)
    have hbefs : ∀ (j : Nat) (o : Oper), ops.toList[j]? = some o → ∃ pre, befs.getD j 0 = befOf pre o ∧ pre.length = j ∧ ∀ k, k < pre.length → pre.getD k 0 = befs.getD k 0 := by
      intro j o ho
      simp only [if_true] at hbs
      obtain ⟨_, _, k3⟩ := befsOf_spec ops.toList []
      obtain ⟨pre, p1, p2, p3⟩ := k3 j o ho
      rw [hbs] at p1 p3
      simp only [List.length_nil, Nat.zero_add] at p1 p2
      exact ⟨pre, p1, p2, p3⟩
    have := reg_any (x0 := { x with e := x.e ++ es, w := { x.w with drawn := x.w.drawn + 1 } }) (Q := Q) (ds := a.defers) hsig hok hbefs (fun a' x' h' => hend _ q2 rfl rfl a' x' h') ops.toList.length (Array.replicate ops.size false) a
      { x with e := x.e ++ es, w := { x.w with drawn := x.w.drawn + 1 } } (List.range ops.toList.length) (by simp) List.nodup_range (by simp) (fun j hj => by
        have : j < ops.size := by simpa using hj
        simp [this]) (fun j hj => List.mem_range.1 hj) (fun j r hr' hj => by
        exfalso
        by_cases hjs : j < ops.size
        · simp [hjs] at hj
        · simp [hjs] at hj) ((hinit { x with e := x.e ++ es, w := { x.w with drawn := x.w.drawn + 1 } } hP rfl rfl q1 q2).congr (L' := fun j => (Array.replicate ops.size false).getD j false) (fun j hj => by
        have : j < ops.size := by simpa using hj
        simp [this]) h3)
    rw [Array.toArray_toList] at this
    simpa using this

end
end Glx
