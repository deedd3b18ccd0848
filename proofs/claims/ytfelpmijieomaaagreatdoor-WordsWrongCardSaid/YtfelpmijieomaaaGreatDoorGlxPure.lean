/- A contract of a function that leaves the world as it was. -/
import Derived.Test.YtfelpmijieomaaaGreatDoorGlxBook
import Derived.Below
namespace Glx
open Go

theorem impl_pure {P : Program} {K : FuncId} {s : Sig} {f : List D → Option (List D)} (ho : s.outH = [])
    (h : ∀ (x : Env) (args : Array Value), x.P = P → x.e.length = s.inN → args.size = s.inS.length → (∀ i t, s.inS[i]? = some t → GS x t (args.getD i undef)) → ∀ r, f x.e = some r →
      r.length = s.outN ∧ Calls P K args x.w fun e w' => w' = x.w ∧ ∃ v, e = .returned v ∧ ∀ y : Env, y.P = x.P → y.e = r → y.w = x.w → y.I = x.I → GS y s.outS v) : Impl P K s f := by
  intro x args hP hH he hsat hargs hslots r hr
  obtain ⟨h1, h2⟩ := h x args hP he hargs hslots r hr
  refine ⟨h1, h2.mono ?_⟩
  rintro e w' ⟨rfl, v, rfl, hv⟩
  have hl : ∀ o, look ([] : List SObj) o = .unborn := fun o => rfl
  refine ⟨v, { x with H := [], e := r }, rfl, rfl, rfl, ⟨rfl, ho.symm, ⟨fun o => ?_, fun o o' b _ h1 => ?_, hsat.ibound, fun o b h1 => ?_, Fr.refl _ _, hsat.glob⟩, fun _ h => h, fun _ h => .inl h, fun o T l fz h => ?_⟩, hv _ rfl rfl rfl rfl⟩
  · show ObjOk _ o (look [] o)
    rw [hl]; trivial
  · rw [hl] at h1; cases h1
  · rw [hl] at h1; cases h1
  · rw [ho, hl] at h; cases h

/-- the same, where memory may have grown -/
theorem impl_below {P : Program} {K : FuncId} {s : Sig} {f : List D → Option (List D)} (ho : s.outH = [])
    (h : ∀ (x : Env) (args : Array Value), x.P = P → GlobOk x.P x.I x.w.heap → x.e.length = s.inN → args.size = s.inS.length → (∀ i t, s.inS[i]? = some t → GS x t (args.getD i undef)) → ∀ r, f x.e = some r →
      r.length = s.outN ∧ Calls P K args x.w fun e w' => RowKit.Below x.w.heap.size x.w w' ∧ ∃ v, e = .returned v ∧ ∀ y : Env, y.P = x.P → y.e = r → y.w = w' → y.I = x.I → GS y s.outS v) : Impl P K s f := by
  intro x args hP hH he hsat hargs hslots r hr
  obtain ⟨h1, h2⟩ := h x args hP hsat.glob he hargs hslots r hr
  refine ⟨h1, h2.mono ?_⟩
  rintro e w' ⟨hb, v, rfl, hv⟩
  have hl : ∀ o, look ([] : List SObj) o = .unborn := fun o => rfl
  refine ⟨v, { x with H := [], e := r, w := w' }, rfl, rfl, rfl, ⟨rfl, ho.symm, ⟨fun o => ?_, fun o o' b _ h1 => ?_, fun b h => Nat.lt_of_lt_of_le (hsat.ibound b h) hb.size, fun o b h1 => ?_, ⟨hb.os, hb.tape, hb.output, hb.size, fun b h _ => hb.block b h⟩, hsat.glob.mono (fun _ h => h) fun b h => hb.block b (hsat.ibound b h)⟩, fun _ h => h, fun _ h => .inl h, fun o T l fz h => ?_⟩, hv _ rfl rfl rfl rfl⟩
  · show ObjOk _ o (look [] o)
    rw [hl]; trivial
  · have : look ([] : List SObj) o = .unborn := hl o
    rw [this] at h1; cases h1
  · have : look ([] : List SObj) o = .unborn := hl o
    rw [this] at h1; cases h1
  · rw [ho, hl] at h; cases h

end Glx
