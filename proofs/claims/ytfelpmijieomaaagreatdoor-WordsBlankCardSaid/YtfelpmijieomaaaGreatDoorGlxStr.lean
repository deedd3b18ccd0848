/- Texts as rows of bytes; terms reckoned at written-out data. -/
import Derived.Test.YtfelpmijieomaaaGreatDoorGlxLim
import Derived.Lib.Strings
namespace Glx
open Go

/-- a text of these bytes -/
def bs (l : List UInt8) : ByteArray := ⟨l.toArray⟩

@[simp] theorem bs_size (l : List UInt8) : (bs l).size = l.length := rfl
@[simp] theorem bs_data (l : List UInt8) : (bs l).data.toList = l := rfl
theorem bs_eta (x : ByteArray) : bs x.data.toList = x := rfl
theorem bs_inj {a b : List UInt8} (h : bs a = bs b) : a = b := by simpa using congrArg (fun x : ByteArray => x.data.toList) h
@[simp] theorem bs_append (a b : List UInt8) : bs a ++ bs b = bs (a ++ b) := by
  have : (bs a ++ bs b).data = (bs (a ++ b)).data := by
    rw [ByteArray.data_append]
    simp [bs]
  cases h : bs a ++ bs b
  rw [h] at this
  cases this
  rfl
@[simp] theorem scut_bs (l : List UInt8) (lo hi : Int) : scut (bs l) lo hi = bs ((l.take hi.toNat).drop lo.toNat) := by
  have : (scut (bs l) lo hi).data = (bs ((l.take hi.toNat).drop lo.toNat)).data := by
    unfold scut
    rw [ByteArray.data_extract]
    apply Array.toList_inj.1
    simp [bs, List.drop_take]
  cases h : scut (bs l) lo hi
  rw [h] at this
  cases this
  rfl
@[simp] theorem byteAt_bs (l : List UInt8) (i : Int) : byteAt (bs l) i = ((l.getD i.toNat 0).toNat : Int) := rfl
@[simp] theorem sequal_bs (a b : List UInt8) : sequal (bs a) (bs b) = (a == b) := by
  unfold sequal
  rw [Lib.toList_data, Lib.toList_data]
  rfl
@[simp] theorem scompare_eql (a b : ByteArray) : scompare .eql a b = sequal a b := rfl
@[simp] theorem scompare_neq (a b : ByteArray) : scompare .neq a b = !sequal a b := rfl

@[simp] theorem compare_eql (a b : Int) : compare .eql a b = (a == b) := rfl
@[simp] theorem compare_neq (a b : Int) : compare .neq a b = (a != b) := rfl
@[simp] theorem compare_lss (a b : Int) : compare .lss a b = decide (a < b) := rfl
@[simp] theorem compare_leq (a b : Int) : compare .leq a b = decide (a ≤ b) := rfl
@[simp] theorem compare_gtr (a b : Int) : compare .gtr a b = decide (a > b) := rfl
@[simp] theorem compare_geq (a b : Int) : compare .geq a b = decide (a ≥ b) := rfl

theorem wrap_of {x : Int} (h1 : -9223372036854775808 ≤ x) (h2 : x ≤ 9223372036854775807) : IntKind.i64.wrap x = x := by
  simp only [IntKind.wrap, IntKind.signed, IntKind.bits]
  simp
  omega
@[simp] theorem add_i64 {a b : Int} (h1 : -9223372036854775808 ≤ a + b) (h2 : a + b ≤ 9223372036854775807) : arith .add .i64 a b = a + b := wrap_of h1 h2
@[simp] theorem sub_i64 {a b : Int} (h1 : -9223372036854775808 ≤ a - b) (h2 : a - b ≤ 9223372036854775807) : arith .sub .i64 a b = a - b := wrap_of h1 h2

/-! ### one step of a term -/
section
variable {L R : Type} {Φ : Nat → List D → Option (List D)} {kl : L → List D → Option R} {K : Nat → List D → Option R} {e : List D}
theorem den_leaf (x : L) : (Tm.leaf x).den Φ kl K e = kl x e := rfl
theorem den_jump (t : Nat) (o : List Ex) : (Tm.jump (L := L) t o).den Φ kl K e = K t (dens e o) := rfl
theorem den_guard (c : Ex) (k : Tm L) : (Tm.guard c k).den Φ kl K e = if (c.den e).bool = true then k.den Φ kl K e else none := rfl
theorem den_letx (x : Ex) (k : Tm L) : (Tm.letx x k).den Φ kl K e = k.den Φ kl K (e ++ [x.den e]) := rfl
theorem den_call (f : Nat) (a : List Ex) (k : Tm L) : (Tm.call f a k).den Φ kl K e = (Φ f (dens e a)).bind fun ds => k.den Φ kl K (e ++ ds) := rfl
theorem den_ite (c : Ex) (a b : Tm L) : (Tm.ite c a b).den Φ kl K e = if (c.den e).bool = true then a.den Φ kl K e else b.den Φ kl K e := rfl
theorem den_join (t : Nat) (m k : Tm L) : (Tm.join t m k).den Φ kl K e = m.den Φ kl (upd K t fun ds => k.den Φ kl K (e ++ ds)) e := rfl
theorem den_loop (t : Nat) (i : List Ex) (b : Tm L) : (Tm.loop t i b).den Φ kl K e = fix (fun rec st => b.den Φ kl (upd K t rec) (e ++ st)) (dens e i) := rfl
theorem upd_same (t : Nat) (k : List D → Option R) : upd K t k t = k := by simp [upd]
theorem upd_other {t u : Nat} (k : List D → Option R) (h : u ≠ t) : upd K t k u = K u := by simp [upd, h]
end
theorem nth_zero (a : D) (l : List D) : (a :: l).getD 0 default = a := rfl
theorem nth_succ (a : D) (l : List D) (n : Nat) : (a :: l).getD (n + 1) default = l.getD n default := rfl

end Glx
