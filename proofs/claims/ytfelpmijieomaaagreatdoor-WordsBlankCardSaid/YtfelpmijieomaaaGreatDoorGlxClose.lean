/- From a law's run to what its row asks: over any program (so that nothing of it is unfolded). -/
import Derived.Test.YtfelpmijieomaaaGreatDoorGlxRead
import Derived.Test.YtfelpmijieomaaaGreatDoorGlx3
import Derived.WalkKit
import Derived.ProofKit
import Derived.OpenShut
import Derived.Carry
namespace Glx
open Go Go.ChangeShapes Go.WideShapes Go.ChangeAt Go.RowKit

/-- cells in a picture: so many variables from one on -/
def varsFrom (ts : List LTy) (n : Nat) : List SV := ts.zipIdx.map fun p => dataSV p.1 (.var (n + p.2))

theorem G_dataSV {x : Env} {u : LTy} {v : Value} {i : Nat} (hi : i < x.e.length) (h : Rd x.P x.I x.w.heap u v (x.e.getD i default)) : G x (dataSV u (.var i)) v := by
  have hsc : (Ex.var i).sc x.e.length = true := by simp [Ex.sc, hi]
  have hden : (Ex.var i).den x.e = x.e.getD i default := rfl
  cases u with
  | int k => cases h; exact ⟨hsc, by rw [hden]⟩
  | bool => cases h; exact ⟨hsc, by rw [hden]⟩
  | str => cases h; exact ⟨hsc, by rw [hden]⟩
  | sl T => exact ⟨hsc, by rw [hden]; exact h⟩

theorem GL_vars {x : Env} {ts : List LTy} {cs : Array Value} {n : Nat} (hl : cs.size = ts.length) (hn : n + ts.length ≤ x.e.length)
    (h : ∀ (j : Nat) (u : LTy), ts[j]? = some u → Rd x.P x.I x.w.heap u (cs.getD j undef) (x.e.getD (n + j) default)) : GL x (varsFrom ts n) cs := by
  refine ⟨by simp [varsFrom, hl], fun j s hs => ?_⟩
  simp only [varsFrom, List.getElem?_map, Option.map_eq_some_iff] at hs
  obtain ⟨⟨u, i⟩, h1, rfl⟩ := hs
  rw [List.getElem?_zipIdx] at h1
  obtain ⟨u', h2, h3⟩ := Option.map_eq_some_iff.1 h1
  cases h3
  have hj := (List.getElem?_eq_some_iff.1 h2).1
  refine G_dataSV (by omega) ?_
  simpa using h j _ h2

/-- a law's run, from its book -/
theorem run_args {B : Book} (hB : BookOk B) {K cid : Nat} {s : Sig} (hof : B.C.of K = [cid]) (hsig : B.C.sig cid = some s) (h2 : s.inH = []) (h4 : s.outS = .v (.one (.bool (.var 0)))) (args : Array Value) (e : List D) (h3 : e.length = s.inN)
    (hsz : args.size = s.inS.length) (W : World) (hglob : GlobOk B.C.P (fun b => b < W.heap.size) W.heap)
    (hslots : ∀ i t, s.inS[i]? = some t → GS { P := B.C.P, I := fun b => b < W.heap.size, ν := fun _ => undef, H := [], e := e, w := W } t (args.getD i undef)) (hn : B.lim cid e = some [.b true]) :
    Calls B.C.P K args W fun e W' => e = .returned (.bool true) ∧ RowKit.Below W.heap.size W W' := by
  let x : Env := { P := B.C.P, I := fun b => b < W.heap.size, ν := fun _ => undef, H := [], e := e, w := W }
  obtain ⟨n, hn⟩ := Book.lim_some hn
  have hl : ∀ o, look ([] : List SObj) o = .unborn := fun o => rfl
  have hnoM : ∀ b, ¬ Mof x b := by
    rintro b ⟨o, h5, _⟩
    have : look x.H o = .unborn := hl o
    rw [this] at h5
    cases h5
  have hsat : Sat x x.w (Mof x) := by
    refine ⟨fun o => ?_, fun o o' b _ h5 => ?_, fun b hb => hb, fun o b h5 => ?_, Fr.refl _ _, hglob⟩
    · show ObjOk x o (look [] o)
      rw [hl]; trivial
    · have : look x.H o = .unborn := hl o
      rw [this] at h5; cases h5
    · have : look x.H o = .unborn := hl o
      rw [this] at h5; cases h5
  obtain ⟨_, hc⟩ := (Book.sigOk hB n).impl K cid s (by rw [hof]; exact List.mem_singleton.2 rfl) hsig x args rfl h2.symm h3 hsat hsz hslots [.b true] hn
  refine hc.mono ?_
  rintro e W' ⟨v, y, rfl, rfl, hye, hleft, hg⟩
  rw [h4] at hg
  obtain ⟨_, hv⟩ := hg
  have hf := hleft.sat.frame
  refine ⟨by rw [hv]; simp [Ex.den, hye], ⟨hf.os, hf.tape, hf.output, hf.size, fun k hk => hf.block k hk (hnoM k)⟩⟩

theorem trodAll_below {H : Type} {enc : TypeId × Value → H} {P : Program} (hl : laidOutB P = true) {W W' : World} (hb : Below W.heap.size W W') : ∀ (ts : List TypeId) (vs : List Value) (ds : List (DataW H)) (p : List MemPlace),
    (∀ t ∈ ts, P.readableRec t = true ∧ t < P.types.size) → DataW.TrodAll enc P W 0 (fun _ => true) true ts vs ds p → (∀ x ∈ p, x.block < W.heap.size) → DataW.TrodAll enc P W' 0 (fun b => decide (b < W.heap.size)) true ts vs ds p
  | [], [], [], _, _, h, _ => h
  | t :: ts, v :: vs, d :: ds, p, ht, h, hp => by
    obtain ⟨p1, q, h1, h2, rfl⟩ := h
    have h3 := ht t (List.mem_cons_self ..)
    exact ⟨p1, q, Below.trod hl h3.1 h3.2 h1 hb fun x hx => hp x (List.mem_append_left _ hx), trodAll_below hl hb ts vs ds q (fun u hu => ht u (List.mem_cons_of_mem _ hu)) h2 fun x hx => hp x (List.mem_append_right _ hx), rfl⟩
  | [], _ :: _, _, _, _, h, _ => by simp [DataW.TrodAll] at h
  | [], [], _ :: _, _, _, h, _ => by simp [DataW.TrodAll] at h
  | _ :: _, [], _, _, _, h, _ => by simp [DataW.TrodAll] at h
  | _ :: _, _ :: _, [], _, _, h, _ => by simp [DataW.TrodAll] at h

/-- any law: what it is handed reads as before, and it says true -/
theorem close_law {H : Type} {enc : TypeId × Value → H} {P : Program} {fn : Func} {s : ChangeSpec} {b : TypeId} {K : FuncId} (hl : laidOutB P = true) (hp : ∀ t ∈ fn.params.toList, P.readableRec t = true ∧ t < P.types.size) (hr : fn.resultTypes = #[b]) (hb : P.underlying b = some .bool)
    (hs : s.vars = []) (W : World) (args : Array Value) (ds gs : List (DataW H)) (before : List MemPlace)
    (hfn : s.fn H (ds ++ []) = { results := [.lit (.bool true)], args := ds })
    (hW : DataW.Whole enc P fn.params.toList s.vars false W args.toList ds gs before)
    (run : Calls P K args W fun e W' => e = .returned (.bool true) ∧ RowKit.Below W.heap.size W W') :
    Calls P K args W fun e W' => ∃ v, e = .returned v ∧ s.post enc P fn false true false false W args v W' := by
  have hW' := hW
  obtain ⟨p, q, hA, hV, rfl, hfz, hnd⟩ := hW
  rw [hs] at hV
  obtain ⟨rfl, rfl⟩ := trodVars_none hV
  refine run.mono fun e W' ⟨he, hg⟩ => ?_
  subst he
  refine ⟨.bool true, rfl, ds, [], p ++ [], [], p, [], hW', ?_, ?_, ?_, hg.frame _, fun h => by cases h⟩
  · rw [hr, hfn]
    exact trodAll_cons_mk (shut_bool hb true) trodAll_mk0
  · rw [hfn]
    exact trodAll_below hl hg _ _ _ _ hp hA fun x hx => by simpa using hW'.lt x (by simpa using hx)
  · rw [hs, hfn]
    rfl

/-- two arguments: a struct, and a slice -/
theorem args_struct_slice {H : Type} {enc : TypeId × Value → H} {P : Program} {fn : Func} {vars : List String} {S : TypeId → Prop} (hS : Shelf P S) {t0 t1 e : TypeId} {fs : Array Field} {ts0 : List LTy} {n0 n1 : Nat} (hp : fn.params = #[t0, t1])
    (hu0 : P.underlying t0 = some (.struct fs)) (hl0 : lay P n0 t0 = some ts0) (hs0 : ∀ T, LTy.sl T ∈ ts0 → S T) (hl1 : lay P n1 t1 = some [.sl e]) (hu1 : P.underlying t1 = some (.slice e)) (hs1 : S e) {W : World} {base : Nat} {args : Array Value} {ds gs : List (DataW H)} {before : List MemPlace}
    (hval : ∀ (j : Nat) t v, fn.params[j]? = some t → args[j]? = some v → Value.okWide P W .any base t v)
    (hW : DataW.Whole enc P fn.params.toList vars false W args.toList ds gs before) :
    ∃ cs v1 d0 d1, args = #[.agg cs, v1] ∧ ds = [d0, d1] ∧ Reads P W ts0 cs.toList ∧ Reads P W [.sl e] [v1] := by
  obtain ⟨p, q, hA0, hV, rfl, hfz, hnd⟩ := hW
  have hA : DataW.TrodAll enc P W 0 (fun _ => true) true fn.params.toList args.toList ds p := hA0
  rw [hp] at hA hval
  obtain ⟨v0, vs0, d0, ds0, p0, q0, hargs, rfl, rfl, h0, r0⟩ := trodAll_cons hA
  obtain ⟨v1, vs1, d1, ds1, p1, q1, rfl, rfl, rfl, h1, r1⟩ := trodAll_cons r0
  obtain ⟨rfl, rfl, rfl⟩ := trodAll_nil r1
  obtain rfl : args = #[v0, v1] := by cases args; simp_all
  have k0 := hval 0 t0 v0 rfl rfl
  have k1 := hval 1 t1 v1 rfl rfl
  unfold Value.okWide at k0
  rw [hu0] at k0
  obtain ⟨cs, rfl, _, _⟩ := k0
  obtain ⟨f0, h0⟩ := h0
  obtain ⟨f1, h1⟩ := h1
  have hone : v1.cells.toList = [v1] := by
    cases v1 with
    | agg cs => simp [Value.okWide, hu1, Cell.okWide, Cell.ok] at k1
    | _ => rfl
  exact ⟨cs, v1, d0, d1, rfl, rfl, reads_of_trod hS f0 n0 t0 ts0 _ _ hl0 hs0 h0, by rw [← hone]; exact reads_of_trod hS f1 n1 t1 _ _ _ hl1 (fun T hT => by simp at hT; subst hT; exact hs1) h1⟩

end Glx
