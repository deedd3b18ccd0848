/- Terms reckoned a step at a time: what is not known yet stays shut. -/
import Derived.Test.YtfelpmijieomaaaGreatDoorGlxLoop
set_option linter.unusedSimpArgs false
set_option linter.unusedVariables false
namespace Glx
open Go

section
variable {L R : Type} {Φ : Nat → List D → Option (List D)} {kl : L → List D → Option R} {K : Nat → List D → Option R} {e : List D}

/-- a test holds -/
def Ex.T (e : List D) (c : Ex) : Prop := (c.den e).bool = true
open Classical in
/-- behind a test -/
noncomputable def grd (p : Prop) (k : Tm L) (Φ : Nat → List D → Option (List D)) (kl : L → List D → Option R) (K : Nat → List D → Option R) (e : List D) : Option R := if p then k.den Φ kl K e else none
open Classical in
/-- one of two ways -/
noncomputable def brn (p : Prop) (a b : Tm L) (Φ : Nat → List D → Option (List D)) (kl : L → List D → Option R) (K : Nat → List D → Option R) (e : List D) : Option R := if p then a.den Φ kl K e else b.den Φ kl K e
/-- behind a call -/
noncomputable def thn (r : Option (List D)) (k : Tm L) (Φ : Nat → List D → Option (List D)) (kl : L → List D → Option R) (K : Nat → List D → Option R) (e : List D) : Option R := match r with
  | some ds => k.den Φ kl K (e ++ ds)
  | none => none
/-- a piece that waits at its label -/
noncomputable def lab (t : Nat) (k : Tm L) (Φ : Nat → List D → Option (List D)) (kl : L → List D → Option R) (K : Nat → List D → Option R) (e : List D) : Nat → List D → Option R := upd K t fun ds => k.den Φ kl K (e ++ ds)
/-- a loop's beginning, at its label -/
def rnd (t : Nat) (G : List D → Option R) (K : Nat → List D → Option R) : Nat → List D → Option R := upd K t G

theorem z_leaf (x : L) : (Tm.leaf x).den Φ kl K e = kl x e := id (Eq.trans rfl rfl)
theorem z_jump (t : Nat) (o : List Ex) : (Tm.jump (L := L) t o).den Φ kl K e = K t (dens e o) := id (Eq.trans rfl rfl)
theorem z_guard (c : Ex) (k : Tm L) : (Tm.guard c k).den Φ kl K e = grd (Ex.T e c) k Φ kl K e := by
  unfold grd Ex.T
  simp only [Tm.den]
  split <;> rename_i h <;> simp [h]
theorem z_letx (x : Ex) (k : Tm L) : (Tm.letx x k).den Φ kl K e = k.den Φ kl K (e ++ [x.den e]) := id (Eq.trans rfl rfl)
theorem z_call (f : Nat) (a : List Ex) (k : Tm L) : (Tm.call f a k).den Φ kl K e = thn (Φ f (dens e a)) k Φ kl K e := by
  unfold thn
  simp only [Tm.den]
  cases Φ f (dens e a) <;> rfl
theorem z_ite (c : Ex) (a b : Tm L) : (Tm.ite c a b).den Φ kl K e = brn (Ex.T e c) a b Φ kl K e := by
  unfold brn Ex.T
  simp only [Tm.den]
  split <;> rename_i h <;> simp [h]
theorem z_join (t : Nat) (m k : Tm L) : (Tm.join t m k).den Φ kl K e = m.den Φ kl (lab t k Φ kl K e) e := id (Eq.trans rfl rfl)
theorem z_loop {t : Nat} {i : List Ex} {b : Tm L} {r : Option R}
    (h : ∀ G : List D → Option R, (∀ st, G st = b.den Φ kl (rnd t G K) (e ++ st)) → G (dens e i) = r) : (Tm.loop t i b).den Φ kl K e = r := h _ (loop_eq b K t e)

theorem z_loopP {t : Nat} {i : List Ex} {b : Tm L} (P : Option R → Prop)
    (h : ∀ G : List D → Option R, (∀ st, G st = b.den Φ kl (rnd t G K) (e ++ st)) → P (G (dens e i))) : P ((Tm.loop t i b).den Φ kl K e) := h _ (loop_eq b K t e)

theorem grd_true (k : Tm L) : grd True k Φ kl K e = k.den Φ kl K e := by simp [grd]
theorem grd_pos {p : Prop} (h : p) (k : Tm L) : grd p k Φ kl K e = k.den Φ kl K e := by simp [grd, h]
theorem brn_true (a b : Tm L) : brn True a b Φ kl K e = a.den Φ kl K e := by simp [brn]
theorem brn_false (a b : Tm L) : brn False a b Φ kl K e = b.den Φ kl K e := by simp [brn]
theorem brn_pos {p : Prop} (h : p) (a b : Tm L) : brn p a b Φ kl K e = a.den Φ kl K e := by simp [brn, h]
theorem brn_neg {p : Prop} (h : ¬ p) (a b : Tm L) : brn p a b Φ kl K e = b.den Φ kl K e := by simp [brn, h]
/-- a case of a test -/
theorem brn_dec {p : Prop} {a b : Tm L} {r : Option R} (h1 : p → a.den Φ kl K e = r) (h2 : ¬ p → b.den Φ kl K e = r) : brn p a b Φ kl K e = r := by
  by_cases h : p
  · rw [brn_pos h]; exact h1 h
  · rw [brn_neg h]; exact h2 h
theorem thn_some (ds : List D) (k : Tm L) : thn (some ds) k Φ kl K e = k.den Φ kl K (e ++ ds) := id (Eq.trans rfl rfl)
theorem lab_same (t : Nat) (k : Tm L) (ds : List D) : lab t k Φ kl K e t ds = k.den Φ kl K (e ++ ds) := by simp [lab, upd]
theorem lab_other {t u : Nat} (h : (u == t) = false) (k : Tm L) (ds : List D) : lab t k Φ kl K e u ds = K u ds := by
  have : u ≠ t := by simpa using h
  simp [lab, upd, this]
theorem rnd_same (t : Nat) (G : List D → Option R) (ds : List D) : rnd t G K t ds = G ds := by simp [rnd, upd]
theorem rnd_other {t u : Nat} (h : (u == t) = false) (G : List D → Option R) (ds : List D) : rnd t G K u ds = K u ds := by
  have : u ≠ t := by simpa using h
  simp [rnd, upd, this]
end

section
variable {e : List D}
theorem T_var (i : Nat) : Ex.T e (.var i) = ((e.getD i default).bool = true) := rfl
theorem T_cell (l i : Ex) (j : Nat) : Ex.T e (.cell l i j) = ((cellAt (l.den e).rows (i.den e).int j).bool = true) := rfl
theorem T_blit (x : Bool) : Ex.T e (.blit x) = (x = true) := rfl
theorem T_both (a b : Ex) : Ex.T e (.both a b) = (Ex.T e a ∧ Ex.T e b) := by simp [Ex.T, Ex.den]
theorem T_one (a b : Ex) : Ex.T e (.one a b) = (Ex.T e a ∨ Ex.T e b) := by simp [Ex.T, Ex.den]
theorem T_no (a : Ex) : Ex.T e (.no a) = ¬ Ex.T e a := by simp [Ex.T, Ex.den]
theorem T_beq (a b : Ex) : Ex.T e (.beq a b) = ((a.den e).bool = (b.den e).bool) := by simp [Ex.T, Ex.den]
theorem T_eql (a b : Ex) : Ex.T e (.cmp .eql a b) = ((a.den e).int = (b.den e).int) := by simp [Ex.T, Ex.den]
theorem T_neq (a b : Ex) : Ex.T e (.cmp .neq a b) = ¬ ((a.den e).int = (b.den e).int) := by simp [Ex.T, Ex.den]
theorem T_lss (a b : Ex) : Ex.T e (.cmp .lss a b) = ((a.den e).int < (b.den e).int) := by simp [Ex.T, Ex.den]
theorem T_leq (a b : Ex) : Ex.T e (.cmp .leq a b) = ((a.den e).int ≤ (b.den e).int) := by simp [Ex.T, Ex.den]
theorem T_gtr (a b : Ex) : Ex.T e (.cmp .gtr a b) = ((b.den e).int < (a.den e).int) := by simp [Ex.T, Ex.den]
theorem T_geq (a b : Ex) : Ex.T e (.cmp .geq a b) = ((b.den e).int ≤ (a.den e).int) := by simp [Ex.T, Ex.den]
theorem sequal_iff (a b : ByteArray) : (sequal a b = true) = (a = b) := by
  unfold sequal
  rw [Lib.toList_data, Lib.toList_data]
  refine propext ⟨fun h => ?_, fun h => by simp [h]⟩
  have h := beq_iff_eq.1 h
  have h2 : bs a.data.toList = bs b.data.toList := by rw [h]
  exact h2
theorem T_seql (a b : Ex) : Ex.T e (.scmp .eql a b) = ((a.den e).str = (b.den e).str) := sequal_iff _ _
theorem T_sneq (a b : Ex) : Ex.T e (.scmp .neq a b) = ¬ ((a.den e).str = (b.den e).str) := by
  rw [← sequal_iff]
  simp [Ex.T, Ex.den]
theorem T_slss (a b : Ex) : Ex.T e (.scmp .lss a b) = (sless (a.den e).str (b.den e).str = true) := rfl
theorem T_sgtr (a b : Ex) : Ex.T e (.scmp .gtr a b) = ¬ (sless (a.den e).str (b.den e).str = true ∨ (a.den e).str = (b.den e).str) := by
  rw [← sequal_iff]
  simp [Ex.T, Ex.den, scompare]
theorem bs_eq (a b : List UInt8) : (bs a = bs b) = (a = b) := propext ⟨bs_inj, fun h => by rw [h]⟩
end

theorem eql_dec (a b : Int) : (a == b) = decide (a = b) := by rw [Bool.eq_iff_iff]; simp
theorem bne_dec (a b : Int) : (a != b) = decide (a ≠ b) := by rw [Bool.eq_iff_iff]; simp
theorem or_dec (p q : Prop) [Decidable p] [Decidable q] : (decide p || decide q) = decide (p ∨ q) := (Bool.decide_or p q).symm
theorem and_dec (p q : Prop) [Decidable p] [Decidable q] : (decide p && decide q) = decide (p ∧ q) := (Bool.decide_and p q).symm
theorem not_dec (p : Prop) [Decidable p] : (!decide p) = decide (¬ p) := decide_not.symm
theorem leq_dec (a b : Int) : compare .leq a b = decide (a ≤ b) := rfl
theorem seq_dec (a b : List UInt8) : sequal (bs a) (bs b) = decide (a = b) := by rw [sequal_bs, Bool.eq_iff_iff]; simp
theorem seqn_dec (a b : List UInt8) : (!sequal (bs a) (bs b)) = decide (a ≠ b) := by rw [seq_dec, not_dec]
theorem slit_bs (l : List UInt8) : ({ data := l.toArray } : ByteArray) = bs l := rfl
theorem nat_add (a b : Nat) : ((a : Int) + (b : Int)) = ((a + b : Nat) : Int) := rfl
theorem add_one (a : Nat) : ((a : Int) + 1) = ((a + 1 : Nat) : Int) := rfl

/-- from a term to its function -/
theorem fnDen_eq (Φ : Nat → List D → Option (List D)) (t : Tm (List Ex)) (us : List D) : fnDen Φ t us = t.den Φ (fun us e => some (dens e us)) (fun _ _ => none) us := rfl

end Glx
