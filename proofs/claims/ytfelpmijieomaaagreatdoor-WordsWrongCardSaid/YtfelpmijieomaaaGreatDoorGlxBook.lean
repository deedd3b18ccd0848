/- A book made of a list. -/
import Derived.Test.YtfelpmijieomaaaGreatDoorGlxAll
namespace Glx
open Go

structure Ent where
  f : FuncId
  cid : Nat
  s : Sig
  t : Option (Tm (List Ex))
  g : Option (List D → Option (List D))

def cfgOf (P : Program) (es : List Ent) : Cfg := ⟨P, fun c => (es.find? fun e => e.cid == c).map (·.s), fun f => (es.filter fun e => e.f == f).map (·.cid)⟩
def bookOf (P : Program) (es : List Ent) : Book := ⟨cfgOf P es, fun c => (es.find? fun e => e.cid == c).bind (·.t), fun c => (es.find? fun e => e.cid == c).bind (·.g)⟩

structure EntOk (P : Program) (C : Cfg) (e : Ent) : Prop where
  enters : ∃ fn, P.funcs[e.f]? = some fn ∧ fn.body.isNone = false ∧ (fn.name == "runtime.NumGoroutine") = false
  own : e.g = none → ∃ fn body t, e.t = some t ∧ P.funcs[e.f]? = some fn ∧ fn.body = some body ∧ fnTm C e.s fn.ntmps fn.results.toList body = some t
  base : ∀ g, e.g = some g → Impl P e.f e.s g

theorem find_of_nodup : ∀ {es : List Ent}, nodup (es.map (·.cid)) = true → ∀ e ∈ es, es.find? (fun x => x.cid == e.cid) = some e
  | [], _, _, h => by cases h
  | a :: l, hn, e, h => by
    simp only [List.map_cons, nodup, Bool.and_eq_true, Bool.not_eq_true', List.contains_eq_mem, decide_eq_false_iff_not] at hn
    rw [List.find?_cons]
    by_cases hc : a.cid = e.cid
    · rcases List.mem_cons.1 h with rfl | h
      · simp
      · exact absurd (hc ▸ List.mem_map_of_mem h) hn.1
    · rcases List.mem_cons.1 h with rfl | h
      · exact absurd rfl hc
      · have : (a.cid == e.cid) = false := by simp [hc]
        rw [this]
        exact find_of_nodup hn.2 e h

theorem bookOk_of {P : Program} {es : List Ent} (hmix : P.follows .mixedOrders = true) (hn : nodup (es.map (·.cid)) = true) (h : ∀ e ∈ es, EntOk P (cfgOf P es) e) : BookOk (bookOf P es) := by
  have hof : ∀ f cid, cid ∈ (cfgOf P es).of f → ∃ e ∈ es, e.f = f ∧ e.cid = cid := by
    intro f cid hc
    simp only [cfgOf, List.mem_map, List.mem_filter, beq_iff_eq] at hc
    obtain ⟨e, ⟨h1, h2⟩, h3⟩ := hc
    exact ⟨e, h1, h2, h3⟩
  refine ⟨hmix, fun f hf args w => ?_, fun f cid s hmem hs => ?_⟩
  · cases hq : (cfgOf P es).of f with
    | nil => exact absurd hq hf
    | cons c l =>
      obtain ⟨e, h1, rfl, _⟩ := hof f c (by rw [hq]; exact List.mem_cons_self ..)
      obtain ⟨fn, k1, k2, k3⟩ := (h e h1).enters
      have hb : (bookOf P es).C.P = P := rfl
      rw [hb]
      have k4 : fn.body ≠ none := by intro h; rw [h] at k2; cases k2
      have k5 : fn.name ≠ "runtime.NumGoroutine" := by intro h; rw [h] at k3; simp at k3
      simp [callFunc, k1, k4, k5]
  · obtain ⟨e, h1, rfl, rfl⟩ := hof f cid hmem
    have hfind := find_of_nodup hn e h1
    have hs' : s = e.s := by
      have : (cfgOf P es).sig e.cid = some s := hs
      simp only [cfgOf, hfind, Option.map_some, Option.some.injEq] at this
      exact this.symm
    subst hs'
    cases hg : e.g with
    | none =>
      obtain ⟨fn, body, t, k1, k2, k3, k4⟩ := (h e h1).own hg
      exact .inl ⟨fn, body, t, by simp [bookOf, hfind, hg], by simp [bookOf, hfind, k1], k2, k3, k4⟩
    | some g => exact .inr ⟨g, by simp [bookOf, hfind, hg], (h e h1).base g hg⟩

end Glx
