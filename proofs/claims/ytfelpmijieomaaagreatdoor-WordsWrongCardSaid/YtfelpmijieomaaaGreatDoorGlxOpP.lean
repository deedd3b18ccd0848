/- Append: onto nil, or onto a slice of the walk's own; what is appended: a slice that is read, or a text. -/
import Derived.Test.YtfelpmijieomaaaGreatDoorGlxOpO
namespace Glx
open Go

section
variable {P : Program}

theorem append_blk {w : World} {base : Nat} {t ty e : TypeId} {i : TypeInfo} {z : Value} (ht : P.underlying t = some (.slice e)) (hi : P.info? e = some i) (hz : i.zero = some z)
    {v : Value} {n : Nat} {xs : List Value} (hown : w.ownsRow base e i.size v n xs) {a : Addr} {m c : Nat} {news : List Value} (hl : news.length = m * i.size) (hnews : ∀ j u, news[j]? = some u → w.cell? (a.add j) = some u)
    (h1 : ∀ u ∈ news, u.oneCell' = true) (h63 : n + m ≤ maxLen) (hbytes : (n + m) * i.bytes ≤ 140737488355328) {v' : Value} {w' : World}
    (hrun : (Builtin.append_ #[t, t] ty #[v, .slice (some a) m c]).run P w = .ok v' w') (hnil : v' = .slice none 0 0 ↔ v = .slice none 0 0 ∧ m = 0) :
    ∀ b, v'.ownBlock = some b → v.ownBlock = some b ∨ w.heap.size ≤ b := by
  intro b hb
  rcases hown.2 with ⟨rfl, rfl⟩ | ⟨g, cap, cur, rfl, hbg, hg, hnc, hcm, hcs, htake⟩
  · by_cases hm : m = 0
    · rw [hnil.2 ⟨rfl, hm⟩] at hb; cases hb
    · have hr := run_append_nil (P := P) w t ty e i z ht hi hz a m c news hl hnews (by omega) (by simp only [maxLen] at h63; omega) (by have hb := hbytes; simp only [Nat.zero_add] at hb; omega)
      rw [hr] at hrun
      simp only [Result.ok.injEq] at hrun
      rw [← hrun.1] at hb
      cases hb
      exact .inr (Nat.le_refl _)
  · by_cases hroom : n + m ≤ cap
    · have hfit : n * i.size + news.length ≤ cur.size := by rw [hl, hcs, ← Nat.add_mul]; exact Nat.mul_le_mul_right _ hroom
      have hr := run_append_room (P := P) w t ty e i ht hi g n cap cur hg a m c news hl hnews h1 hroom hfit
      rw [hr] at hrun
      simp only [Result.ok.injEq] at hrun
      rw [← hrun.1] at hb
      cases hb
      exact .inl rfl
    · have holds : ∀ j u, xs[j]? = some u → w.cell? ((⟨g, 0, none⟩ : Addr).add j) = some u := hown.cells (g := g) rfl
      have hr := run_append_grow (P := P) w t ty e i z ht hi hz ⟨g, 0, none⟩ n cap xs hown.1 holds a m c news hl hnews (by omega) (by simp only [maxLen] at h63; omega) (growslice_fits (by omega) hbytes)
      rw [hr] at hrun
      simp only [Result.ok.injEq] at hrun
      rw [← hrun.1] at hb
      cases hb
      exact .inr (Nat.le_refl _)

theorem append_blk_string {w : World} {base : Nat} {t u ty e : TypeId} {i : TypeInfo} {z : Value} (ht : P.underlying t = some (.slice e)) (hu : P.underlying u = some .string) (hi : P.info? e = some i) (hz : i.zero = some z) (hs1 : i.size = 1) (hby : i.bytes = 1)
    {v : Value} {n : Nat} {xs : List Value} (hown : w.ownsRow base e 1 v n xs) {s : ByteArray} (h63 : n + s.size ≤ maxLen) (hbytes : n + s.size ≤ 140737488355328) {v' : Value} {w' : World}
    (hrun : (Builtin.append_ #[t, u] ty #[v, .string s]).run P w = .ok v' w') (hnil : v' = .slice none 0 0 ↔ v = .slice none 0 0 ∧ s.size = 0) :
    ∀ b, v'.ownBlock = some b → v.ownBlock = some b ∨ w.heap.size ≤ b := by
  intro b hb
  rcases hown.2 with ⟨rfl, rfl⟩ | ⟨g, cap, cur, rfl, hbg, hg, hnc, hcm, hcs, htake⟩
  · by_cases hm : s.size = 0
    · rw [hnil.2 ⟨rfl, hm⟩] at hb; cases hb
    · have hr := run_append_nil_string (P := P) w t u ty e i z ht hu hi hz s (by omega) (by simp only [maxLen] at h63; omega) (by rw [hby]; omega)
      rw [hr] at hrun
      simp only [Result.ok.injEq] at hrun
      rw [← hrun.1] at hb
      cases hb
      exact .inr (Nat.le_refl _)
  · by_cases hroom : n + s.size ≤ cap
    · have hr := Lib.run_append_room_string (P := P) w t u ty e i ht hu hi hs1 g n cap cur hg s hroom (by omega)
      rw [hr] at hrun
      simp only [Result.ok.injEq] at hrun
      rw [← hrun.1] at hb
      cases hb
      exact .inl rfl
    · have holds : ∀ j u, xs[j]? = some u → w.cell? ((⟨g, 0, none⟩ : Addr).add j) = some u := hown.cells (g := g) rfl
      have hr := Lib.run_append_grow_string (P := P) w t u ty e i z ht hu hi hz ⟨g, 0, none⟩ n cap xs (by rw [hs1]; exact hown.1) holds s (by omega) (by simp only [maxLen] at h63; omega) (growslice_fits (by omega) (by rw [hby]; omega))
      rw [hr] at hrun
      simp only [Result.ok.injEq] at hrun
      rw [← hrun.1] at hb
      cases hb
      exact .inr (Nat.le_refl _)

theorem Rd.oneCell {I : Nat → Prop} {h : Array Obj} {t : LTy} {v : Value} {d : D} (hr : Rd P I h t v d) : v.oneCell' = true := by cases hr <;> rfl

theorem RdRows.oneCell {I : Nat → Prop} {h : Array Obj} {ts : List LTy} {xs : List Value} {rows : List (List D)} (hr : RdRows P I h ts xs rows) (hl : xs.length = rows.length * ts.length) : ∀ u ∈ xs, u.oneCell' = true := by
  intro u hu
  obtain ⟨p, hp, rfl⟩ := List.getElem_of_mem hu
  have hpos : 0 < ts.length := by
    rcases Nat.eq_zero_or_pos ts.length with h0 | h0
    · rw [h0, Nat.mul_zero] at hl; omega
    · exact h0
  have hi : p / ts.length < rows.length := by
    rw [hl] at hp
    exact Nat.div_lt_of_lt_mul (by rw [Nat.mul_comm]; exact hp)
  have hj : p % ts.length < ts.length := Nat.mod_lt _ hpos
  have := hr.2 (p / ts.length) (p % ts.length) _ hi (List.getElem?_eq_getElem hj)
  have hpe : p / ts.length * ts.length + p % ts.length = p := by rw [Nat.mul_comm]; exact Nat.div_add_mod p ts.length
  rw [hpe, List.getD_eq_getElem?_getD, List.getElem?_eq_getElem hp] at this
  exact this.oneCell

end

section
variable {x : Env} {w0 : World} {M : Nat → Prop}

/-- a slice that is read on the spot: where it lies, and what its cells are -/
theorem borrow_reads (hs : Sat x w0 M) {s : SV} {T : TypeId} {e : Ex} (h : borrow x.H s = some (T, e)) {v : Value} (hg : G x s v) :
    e.sc x.e.length = true ∧ ((v = .slice none 0 0 ∧ (e.den x.e).rows = []) ∨ ∃ ts b off n cap news, tys x.P T = some ts ∧ v = .slice (some ⟨b, off, none⟩) n cap ∧ (e.den x.e).rows.length = n ∧ news.length = n * ts.length ∧
      (∀ j u, news[j]? = some u → x.w.cell? ((⟨b, off, none⟩ : Addr).add j) = some u) ∧ RdRows x.P x.I x.w.heap ts news (e.den x.e).rows) := by
  have go : ∀ {I : Nat → Prop} {ts : List LTy} {b off n cap : Nat} {c : Array Value} {E : TypeId} {fz : Nat × Nat}, tys x.P T = some ts → x.w.heap[b]? = some (.cells c E fz) → (e.den x.e).rows.length = n → off + n * ts.length ≤ c.size →
      RdRows x.P I x.w.heap ts ((c.toList.drop off).take (n * ts.length)) (e.den x.e).rows → (∃ news : List Value, news.length = n * ts.length ∧ (∀ j u, news[j]? = some u → x.w.cell? ((⟨b, off, none⟩ : Addr).add j) = some u) ∧ RdRows x.P I x.w.heap ts news (e.den x.e).rows) := by
    intro I ts b off n cap c E fz h1 h2 h3 h4 h5
    refine ⟨(c.toList.drop off).take (n * ts.length), by simp; omega, fun j u hj => ?_, h5⟩
    obtain ⟨h6, h7⟩ := getElem?_drop_take hj
    rw [Addr.add_mid, cell_of_row x.w b (off + j) c E fz h2]
    simpa using h6
  cases s with
  | sl T' e' =>
    cases h
    refine ⟨hg.1, ?_⟩
    cases hg.2 with
    | nil h0 => exact .inl ⟨rfl, h0⟩
    | row k1 k2 k3 k4 k5 k6 k7 k8 =>
      rename_i ts b off n cap c E fz
      obtain ⟨news, n1, n2, n3⟩ := go (cap := cap) k1 k3 k4 k6 (I := x.I) ⟨k7, fun i j t hi ht => by
        have := k8 i j t (by omega) ht
        have hj := (List.getElem?_eq_some_iff.1 ht).1
        have hmul : (i + 1) * ts.length ≤ n * ts.length := Nat.mul_le_mul_right _ (by omega)
        rw [Nat.add_mul, Nat.one_mul] at hmul
        have hx : ((c.toList.drop off).take (n * ts.length)).getD (i * ts.length + j) undef = c.getD (off + i * ts.length + j) undef := by
          simp only [List.getD_eq_getElem?_getD, List.getElem?_take, if_pos (show i * ts.length + j < n * ts.length by omega), List.getElem?_drop, Array.getElem?_toList, Array.getD_eq_getD_getElem?]
          congr 2
          omega
        rwa [hx]⟩
      exact .inr ⟨ts, b, off, n, cap, news, k1, rfl, k4, n1, n2, n3⟩
  | own o ver =>
    simp only [borrow] at h
    split at h
    · rename_i T' e' u hl
      simp only [Option.ite_none_right_eq_some, Option.some.injEq, Prod.mk.injEq] at h
      obtain ⟨hu, rfl, rfl⟩ := h
      have hv := (hg.2 _ _ u hl).2 hu
      have ho := hs.objs o
      rw [hl] at ho
      obtain ⟨hsc, ts, n, xs, h1, h2, h3, h4, _⟩ := ho
      refine ⟨hsc, ?_⟩
      rw [← hv] at h2
      rcases h2.2 with ⟨rfl, h6⟩ | ⟨g, cap, cur, rfl, _, h7, h8, _, h10, h11⟩
      · exact .inl ⟨rfl, List.eq_nil_of_length_eq_zero (by omega)⟩
      · obtain ⟨news, n1, n2, n3⟩ := go (cap := cap) (off := 0) h1 h7 h3 (by rw [Nat.zero_add, h10]; exact Nat.mul_le_mul_right _ h8) (I := x.I) (by rw [List.drop_zero, h11]; exact h4)
        exact .inr ⟨ts, g, 0, n, cap, news, h1, rfl, h3, n1, n2, n3⟩
    · cases h
  | _ => cases h

def mkApp (a b : Ex) : Ex := if a = .nil then b else .app a b
theorem mkApp_den (e : List D) (a b : Ex) : ((mkApp a b).den e).rows = (a.den e).rows ++ (b.den e).rows := by
  unfold mkApp
  split
  · rename_i h; subst h; simp [Ex.den]
  · rfl
theorem mkApp_sc {n : Nat} {a b : Ex} (ha : a.sc n = true) (hb : b.sc n = true) : (mkApp a b).sc n = true := by
  unfold mkApp
  split
  · exact hb
  · simp [Ex.sc, ha, hb]

/-- what is appended, as rows -/
def appSrc (P : Program) (H : List SObj) (T : TypeId) (inf : TypeInfo) (ts : List LTy) (t0 t1 : TypeId) (y : SV) : Option Ex :=
  if t1 = t0 then match y with
    | .nils => some .nil
    | _ => (borrow H y).bind fun (T', e) => if T' = T then some e else none
  else match y with
    | .str e => if isStr P t1 = true ∧ ts = [.int .u8] ∧ inf.bytes = 1 ∧ (match inf.zero with | some (.int .u8 0) => true | _ => false) = true then some (.bytes e) else none
    | _ => none

def symAppend (P : Program) (H : List SObj) (t0 t1 : TypeId) (s y : SV) : Option (List Ex × Option Nat × SObj) :=
  (sliceOf P t0).bind fun T => (tys P T).bind fun ts => (P.info? T).bind fun inf => inf.zero.bind fun z =>
  if z.cells.size = ts.length ∧ 0 < inf.bytes then
    (appSrc P H T inf ts t0 t1 y).bind fun src => match s with
      | .nils => some (gds [mkCmp .leq (mkLen (mkApp .nil src)) (.ilit (140737488355328 / inf.bytes : Nat))], none, .row T (mkApp .nil src) 0)
      | .own o ver => match look H o with
        | .row T' e u => if u = ver ∧ T' = T then some (gds [mkCmp .leq (mkLen (mkApp e src)) (.ilit (140737488355328 / inf.bytes : Nat))], some o, .row T (mkApp e src) (ver + 1)) else none
        | _ => none
      | _ => none
  else none

/-- what append does to a value that owns a row -/
theorem append_run (hs : Sat x w0 M) {T : TypeId} {ts : List LTy} {inf : TypeInfo} {z : Value} {t0 t1 ty : TypeId} {y : SV} {src : Ex} (ht : x.P.underlying t0 = some (.slice T)) (hts : tys x.P T = some ts) (hi : x.P.info? T = some inf)
    (hz : inf.zero = some z) (hzs : z.cells.size = ts.length) (hb : 0 < inf.bytes) (hsrc : appSrc x.P x.H T inf ts t0 t1 y = some src) {v vy : Value} (hy : G x y vy) {base : Ex} (hbs : base.sc x.e.length = true) {n : Nat} {xs : List Value}
    (hown : x.w.ownsRow 0 T ts.length v n xs) (hn : (base.den x.e).rows.length = n) (hrd : RdRows x.P x.I x.w.heap ts xs (base.den x.e).rows)
    (hg : ((mkLen (mkApp base src)).den x.e).int ≤ ((140737488355328 / inf.bytes : Nat) : Int)) :
    ∃ v' w' n' xs', (Builtin.append_ #[t0, t1] ty #[v, vy]).run x.P x.w = .ok v' w' ∧ w'.ownsRow 0 T ts.length v' n' xs' ∧ x.w.grownBy w' v.ownBlock ∧ (∀ b, v'.ownBlock = some b → v.ownBlock = some b ∨ x.w.heap.size ≤ b) ∧
      (mkApp base src).sc x.e.length = true ∧ ((mkApp base src).den x.e).rows.length = n' ∧ RdRows x.P x.I x.w.heap ts xs' ((mkApp base src).den x.e).rows := by
  obtain ⟨inf', hi', hsz, hne⟩ := tys_size hts
  rw [hi] at hi'
  cases hi'
  have hpos : 0 < ts.length := List.length_pos_iff.2 hne
  rw [mkLen_den, mkApp_den, List.length_append] at hg
  have hbound : ∀ q : Nat, ((q : Nat) : Int) ≤ ((140737488355328 / inf.bytes : Nat) : Int) → q * inf.bytes ≤ 140737488355328 := fun q hq => (Nat.le_div_iff_mul_le hb).1 (by omega)
  have hsmall : ∀ q : Nat, q * inf.bytes ≤ 140737488355328 → q ≤ 140737488355328 := fun q hq => Nat.le_trans (Nat.le_mul_of_pos_right q hb) hq
  unfold appSrc at hsrc
  split at hsrc
  · rename_i h01
    subst h01
    have main : ∀ (e : Ex), borrow x.H y = some (T, e) → src = e → ∃ v' w' n' xs', (Builtin.append_ #[t1, t1] ty #[v, vy]).run x.P x.w = .ok v' w' ∧ w'.ownsRow 0 T ts.length v' n' xs' ∧ x.w.grownBy w' v.ownBlock ∧ (∀ b, v'.ownBlock = some b → v.ownBlock = some b ∨ x.w.heap.size ≤ b) ∧
        (mkApp base src).sc x.e.length = true ∧ ((mkApp base src).den x.e).rows.length = n' ∧ RdRows x.P x.I x.w.heap ts xs' ((mkApp base src).den x.e).rows := by
      rintro e hbor rfl
      obtain ⟨hsc, hr⟩ := borrow_reads hs hbor hy
      rcases hr with ⟨rfl, hr⟩ | ⟨ts', b, off, m, cap, news, k1, rfl, k2, k3, k4, k5⟩
      · refine ⟨v, x.w, n, xs, run_append_owned_none x.w 0 t1 ty T inf ts.length ht hi v n xs hown, hown, ⟨rfl, rfl, rfl, Nat.le_refl _, fun _ _ _ => rfl⟩, fun b h => .inl h, mkApp_sc hbs hsc, ?_, ?_⟩
        · rw [mkApp_den, hr, List.append_nil]; exact hn
        · rw [mkApp_den, hr, List.append_nil]; exact hrd
      · rw [hts] at k1
        cases k1
        have hby := hbound (n + m) (by omega)
        have hsm := hsmall _ hby
        have h1 := k5.oneCell (by rw [k2]; exact k3)
        obtain ⟨v', w', r1, r2, r3, r4⟩ := run_append_own (P := x.P) x.w 0 t1 ty T inf z ts.length inf.bytes ht hi hz hsz rfl hzs hpos v n xs hown ⟨b, off, none⟩ m cap news k3 k4 h1 (by simp only [maxLen]; omega) hby (Nat.zero_le _)
        refine ⟨v', w', n + m, xs ++ news, r1, r2, r3, append_blk ht hi hz (by rw [hsz]; exact hown) (by rw [hsz]; exact k3) k4 h1 (by simp only [maxLen]; omega) hby r1 r4, mkApp_sc hbs hsc, ?_, ?_⟩
        · rw [mkApp_den, List.length_append, hn, k2]
        · rw [mkApp_den]
          exact hrd.append (by rw [hn]; exact hown.1) k5
    split at hsrc
    · cases hsrc
      obtain rfl := hy
      refine ⟨v, x.w, n, xs, run_append_owned_none x.w 0 t1 ty T inf ts.length ht hi v n xs hown, hown, ⟨rfl, rfl, rfl, Nat.le_refl _, fun _ _ _ => rfl⟩, fun b h => .inl h, mkApp_sc hbs rfl, ?_, ?_⟩
      · rw [mkApp_den]; simpa [Ex.den] using hn
      · rw [mkApp_den]; simpa [Ex.den] using hrd
    · obtain ⟨⟨T', e⟩, h1, h2⟩ := Option.bind_eq_some_iff.1 hsrc
      simp only [Option.ite_none_right_eq_some, Option.some.injEq] at h2
      obtain ⟨rfl, rfl⟩ := h2
      exact main e h1 rfl
  · split at hsrc
    · rename_i e
      simp only [Option.ite_none_right_eq_some, Option.some.injEq] at hsrc
      obtain ⟨⟨hu, rfl, hby1, hz0⟩, rfl⟩ := hsrc
      obtain ⟨hsc, rfl⟩ := hy
      have hu := isStr_spec hu
      have hzz : inf.zero = some (.int .u8 0) := by
        split at hz0
        · assumption
        · cases hz0
      have hs1 : inf.size = 1 := by rw [hsz]; rfl
      have hsl : (((Ex.bytes e).den x.e).rows).length = (e.den x.e).str.size := by simp [Ex.den, bytesOf]
      rw [hsl] at hg
      have hby := hbound (n + (e.den x.e).str.size) (by omega)
      rw [hby1, Nat.mul_one] at hby
      have hml : n + (e.den x.e).str.size ≤ maxLen := by simp only [maxLen]; omega
      obtain ⟨v', w', r1, r2, r3, r4⟩ := Lib.run_append_own_string (P := x.P) x.w 0 t0 t1 ty T inf ht hu hi hzz hs1 hby1 v n xs hown (e.den x.e).str hml hby (Nat.zero_le _)
      refine ⟨v', w', n + (e.den x.e).str.size, xs ++ Lib.strCells (e.den x.e).str, r1, r2, r3, append_blk_string ht hu hi hz hs1 hby1 hown hml hby r1 r4, mkApp_sc hbs (by simp [Ex.sc, hsc]), ?_, ?_⟩
      · rw [mkApp_den, List.length_append, hn, hsl]
      · rw [mkApp_den]
        refine hrd.append (by rw [hn]; exact hown.1) ⟨?_, fun i j t hi ht => ?_⟩
        · intro r hr
          simp only [Ex.den, D.rows_l, bytesOf, List.mem_map] at hr
          obtain ⟨_, _, rfl⟩ := hr
          rfl
        · have hj : j = 0 := by have := (List.getElem?_eq_some_iff.1 ht).1; simp only [List.length_singleton] at this; omega
          subst hj
          simp only [List.getElem?_cons_zero, Option.some.injEq] at ht
          subst ht
          have hi' : i < (e.den x.e).str.data.size := by rw [hsl] at hi; exact hi
          have g0 : (e.den x.e).str.data[i]? = some (e.den x.e).str.data[i] := Array.getElem?_eq_getElem hi'
          have e1 : (Lib.strCells (e.den x.e).str).getD (i * [LTy.int .u8].length + 0) undef = .int .u8 ((e.den x.e).str.data[i].toNat) := by
            simp [Lib.strCells, g0]
          have e2 : ((((Ex.bytes e).den x.e).rows).getD i []).getD 0 default = D.i ((e.den x.e).str.data[i].toNat) := by
            simp [Ex.den, bytesOf, g0]
          rw [e1, e2]
          exact @Rd.int _ _ _ .u8 (D.i ((e.den x.e).str.data[i].toNat))
    · cases hsrc

end
end Glx
