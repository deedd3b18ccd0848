/- A law of one number, run. -/
import Derived.Test.YtfelpmijieomaaaGreatDoorGlwOut
namespace Glw
open Go Go.Proofs Glx

theorem run_int {B : Book} (hB : BookOk B) {K cid : Nat} {s : Sig} (hof : B.C.of K = [cid]) (hsig : B.C.sig cid = some s) (h1 : s.inS = [.v (.one (.int .i64 (.var 0)))]) (h2 : s.inH = []) (h3 : s.inN = 1)
    (h4 : s.outS = .v (.one (.bool (.var 0)))) (a : Int) (W : World) (hglob : GlobOk B.C.P (Pinned B.C.P) W.heap) {n : Nat} (hn : B.phi n cid [.i a] = some [.b true]) :
    Calls B.C.P K #[.int .i64 a] W fun e W' => e = .returned (.bool true) ∧ RowKit.Below W.heap.size W W' := by
  let x : Env := { P := B.C.P, I := Pinned B.C.P, ν := fun _ => undef, H := [], e := [.i a], w := W }
  have hl : ∀ o, look ([] : List SObj) o = .unborn := fun o => rfl
  have hnoM : ∀ b, ¬ Mof x b := by
    rintro b ⟨o, h5, _⟩
    have : look x.H o = .unborn := hl o
    rw [this] at h5
    cases h5
  have hsat : Sat x x.w (Mof x) := by
    refine ⟨fun o => ?_, fun o o' b _ h5 => ?_, fun b hb => ?_, fun o b h5 => ?_, Fr.refl _ _, hglob⟩
    · show ObjOk x o (look [] o)
      rw [hl]; trivial
    · have : look x.H o = .unborn := hl o
      rw [this] at h5; cases h5
    · obtain ⟨_, ev, E, fz, h6, _⟩ := hglob b hb
      exact (Array.getElem?_eq_some_iff.1 h6).1
    · have : look x.H o = .unborn := hl o
      rw [this] at h5; cases h5
  obtain ⟨_, hc⟩ := (Book.sigOk hB n).impl K cid s (by rw [hof]; exact List.mem_singleton.2 rfl) hsig x #[.int .i64 a] rfl h2.symm (by rw [h3]; rfl) hsat (by rw [h1]; rfl) (fun i t hi => by
    rw [h1] at hi
    cases i with
    | zero => simp only [List.getElem?_cons_zero, Option.some.injEq] at hi; subst hi; exact ⟨rfl, rfl⟩
    | succ i => simp at hi) [.b true] hn
  refine hc.mono ?_
  rintro e W' ⟨v, y, rfl, rfl, hye, hleft, hg⟩
  rw [h4] at hg
  obtain ⟨_, hv⟩ := hg
  have hf := hleft.sat.frame
  refine ⟨by rw [hv]; simp [Ex.den, hye], ⟨hf.os, hf.tape, hf.output, hf.size, fun k hk => hf.block k hk (hnoM k)⟩⟩

theorem out_run (a : Int) (W : World) (hglob : GlobOk Tryz.prog (Pinned Tryz.prog) W.heap) (h : a < 0 ∨ 35 ≤ a) :
    Calls Tryz.prog 4 #[.int .i64 a] W fun e W' => e = .returned (.bool true) ∧ RowKit.Below W.heap.size W W' :=
  run_int (B := B) bookOk (s := s4) (by kernel_rfl) (by kernel_rfl) rfl rfl rfl rfl a W hglob (law_out a h)

end Glw
