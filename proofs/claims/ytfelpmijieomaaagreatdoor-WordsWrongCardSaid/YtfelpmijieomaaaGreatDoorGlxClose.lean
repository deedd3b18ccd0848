/- From a law's run to what its row asks: over any program (so that nothing of it is unfolded). -/
import Derived.Test.YtfelpmijieomaaaGreatDoorGlxPure
import Derived.WalkKit
import Derived.ProofKit
import Derived.OpenShut
namespace Glx
open Go Go.ChangeShapes Go.WideShapes Go.ChangeAt Go.RowKit

/-- a law of one number -/
theorem close_int {H : Type} {enc : TypeId × Value → H} {P : Program} {fn : Func} {s : ChangeSpec} {t b : TypeId} {K : FuncId} (hp : fn.params = #[t]) (hr : fn.resultTypes = #[b]) (ht : P.underlying t = some (.int .i64)) (hb : P.underlying b = some .bool) (hs : s.vars = [])
    (hfn : ∀ d, s.fn H [d] = { results := [.lit (.bool true)], args := [d] }) (W : World)
    (run : ∀ a, (Lit.int .i64 a).wf = true → Calls P K #[.int .i64 a] W fun e W' => e = .returned (.bool true) ∧ RowKit.Below W.heap.size W W')
    (base : Nat) (args : Array Value) (ds gs : List (DataW H)) (before : List MemPlace)
    (hval : ∀ (j : Nat) t v, fn.params[j]? = some t → args[j]? = some v → Value.okWide P W .any base t v)
    (hW : DataW.Whole enc P fn.params.toList s.vars false W args.toList ds gs before) :
    Calls P K args W fun e W' => ∃ v, e = .returned v ∧ s.post enc P fn false true false false W args v W' := by
  have hW' := hW
  obtain ⟨p, q, hA0, hV, rfl, hfz, hnd⟩ := hW
  have hA : DataW.TrodAll enc P W 0 (fun _ => true) true fn.params.toList args.toList ds p := hA0
  rw [hp] at hA hval
  obtain ⟨v0, vs0, d0, ds0, p0, q0, hargs, rfl, rfl, h0, r0⟩ := trodAll_cons hA
  obtain ⟨rfl, rfl, rfl⟩ := trodAll_nil r0
  obtain rfl : args = #[v0] := by cases args; simp_all
  rw [hs] at hV
  obtain ⟨rfl, rfl⟩ := trodVars_none hV
  obtain ⟨a, rfl, rfl, rfl, w0⟩ := open_int ht (hval 0 t v0 rfl rfl) h0
  clear hA0
  simp only [List.append_nil] at hW'
  refine (run a w0).mono fun e W' ⟨he, hg⟩ => ?_
  subst he
  refine ⟨.bool true, rfl, [.lit (.int .i64 a)], [], [], [], [], [], hW', ?_, ?_, ?_, hg.frame _, fun h => by cases h⟩
  · rw [hr, List.append_nil, hfn]
    exact trodAll_cons_mk (shut_bool hb true) trodAll_mk0
  · rw [hp, List.append_nil, hfn]
    exact trodAll_cons_mk (shut_int ht w0) trodAll_mk0
  · rw [hs, List.append_nil, hfn]
    rfl

end Glx
