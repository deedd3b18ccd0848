/- strconv.Atoi as a contract of a book, from what the shelf says of it. -/
import Derived.Test.YtfelpmijieomaaaGreatDoorGlx3
import Derived.Lib.ConvBytes
import Derived.Lib.AtoiAllCases
namespace Glx
open Go

def atoiSig : Sig := ⟨[.v (.one (.str (.var 0)))], [], 1, .tup [.one (.int .i64 (.var 0)), .one (.ifc (.var 1))], [], 2⟩

def atoiD (ds : List D) : Option (List D) :=
  let s := (ds.getD 0 default).str
  if s.size ≤ 281474976710656 then match Lib.atoiAll s.data.toList with
    | .ok v => some [.i v, .b true]
    | .range => some [.i (Lib.atoiSat s.data.toList), .b false]
    | _ => some [.i 0, .b false]
  else none

theorem atoi_impl {P : Program} {K gs gr T : Nat} {U : TypeId} (hgs : P.globalNamed "strconv.ErrSyntax" = some gs) (hgr : P.globalNamed "strconv.ErrRange" = some gr)
    (hok : ∀ (s : ByteArray), s.size ≤ 9223372036854775806 → ∀ (v : Int), Lib.atoiAll s.data.toList = .ok v → ∀ (w : World), Calls P K #[.string s] w fun e w' => e = .returned (.tuple #[.int .i64 v, .nilIface]) ∧ (w' = w ∨ ∃ t, w' = Lib.bytesWorld w U t))
    (hsyn : ∀ (s : ByteArray), s.size ≤ 281474976710656 → (∀ v, Lib.atoiAll s.data.toList ≠ .ok v) → Lib.atoiAll s.data.toList ≠ .range → ∀ (ev : Value) (w : World), w.cell? ⟨gs, 0, none⟩ = some ev → (ev = .nilIface ∨ ∃ te pe, ev = .iface te pe) →
      Calls P K #[.string s] w fun e w' => ∃ N, e = .returned (.tuple #[.int .i64 0, .iface T (.pointer (some ⟨N, 0, none⟩))]) ∧ RowKit.Below w.heap.size w w')
    (hran : ∀ (s : ByteArray), s.size ≤ 281474976710656 → Lib.atoiAll s.data.toList = .range → ∀ (ev : Value) (w : World), w.cell? ⟨gr, 0, none⟩ = some ev → (ev = .nilIface ∨ ∃ te pe, ev = .iface te pe) →
      Calls P K #[.string s] w fun e w' => ∃ N, e = .returned (.tuple #[.int .i64 (Lib.atoiSat s.data.toList), .iface T (.pointer (some ⟨N, 0, none⟩))]) ∧ RowKit.Below w.heap.size w w') :
    Impl P K atoiSig atoiD := by
  refine impl_below rfl fun x args hP hgl hn ha hs r hr => ?_
  have h0 : args.getD 0 undef = .string (x.e.getD 0 default).str := (hs 0 _ rfl).2
  have hargs : args = #[.string (x.e.getD 0 default).str] := by
    have hsz : args.size = 1 := ha
    apply Array.ext
    · simpa using hsz
    · intro i h2 h3
      have : i = 0 := by simp at h3; omega
      subst this
      simpa [Array.getD_eq_getD_getElem?, hsz] using h0
  rw [hargs]
  generalize hstr : (x.e.getD 0 default).str = s at hr
  simp only [atoiD, hstr] at hr
  have hcell : ∀ g, Pinned P g → ∃ ev, x.w.cell? ⟨g, 0, none⟩ = some ev ∧ (ev = .nilIface ∨ ∃ te pe, ev = .iface te pe) := by
    intro g hg
    rw [← hP] at hg
    obtain ⟨_, ev, E, fz, h2, h3⟩ := hgl g hg
    exact ⟨ev, by simp [World.cell?, h2], h3⟩
  have hbelow : ∀ t, RowKit.Below x.w.heap.size x.w (Lib.bytesWorld x.w U t) := fun t => ⟨rfl, rfl, rfl, by rw [Lib.bytesWorld_size]; omega, fun k hk => Lib.bytesWorld_at_old x.w U t k hk⟩
  split at hr
  · rename_i hsz
    split at hr
    · rename_i v hv
      cases hr
      refine ⟨rfl, (hok s (by omega) v hv x.w).mono ?_⟩
      rintro e w' ⟨rfl, hw⟩
      refine ⟨?_, _, rfl, fun y _ he _ _ => ⟨_, rfl, rfl, fun j t hj => ?_⟩⟩
      · rcases hw with rfl | ⟨t, rfl⟩
        · exact RowKit.Below.refl _ _
        · exact hbelow t
      · match j, hj with
        | 0, hj => cases hj; exact ⟨by rw [he]; rfl, by rw [he]; rfl⟩
        | 1, hj => cases hj; exact ⟨by rw [he]; rfl, fun _ => rfl, fun h => by rw [he] at h; cases h⟩
        | j + 2, hj => simp at hj
    · rename_i hv
      cases hr
      obtain ⟨ev, h2, h3⟩ := hcell gr (.inr hgr)
      refine ⟨rfl, (hran s hsz hv ev x.w h2 h3).mono ?_⟩
      rintro e w' ⟨N, rfl, hw⟩
      refine ⟨hw, _, rfl, fun y _ he _ _ => ⟨_, rfl, rfl, fun j t hj => ?_⟩⟩
      match j, hj with
      | 0, hj => cases hj; exact ⟨by rw [he]; rfl, by rw [he]; rfl⟩
      | 1, hj => cases hj; exact ⟨by rw [he]; rfl, fun h => (by rw [he] at h; cases h), fun _ => ⟨_, _, rfl⟩⟩
      | j + 2, hj => simp at hj
    · rename_i hv1 hv2
      cases hr
      obtain ⟨ev, h2, h3⟩ := hcell gs (.inl hgs)
      refine ⟨rfl, (hsyn s hsz hv1 hv2 ev x.w h2 h3).mono ?_⟩
      rintro e w' ⟨N, rfl, hw⟩
      refine ⟨hw, _, rfl, fun y _ he _ _ => ⟨_, rfl, rfl, fun j t hj => ?_⟩⟩
      match j, hj with
      | 0, hj => cases hj; exact ⟨by rw [he]; rfl, by rw [he]; rfl⟩
      | 1, hj => cases hj; exact ⟨by rw [he]; rfl, fun h => (by rw [he] at h; cases h), fun _ => ⟨_, _, rfl⟩⟩
      | j + 2, hj => simp at hj
  · cases hr

end Glx
