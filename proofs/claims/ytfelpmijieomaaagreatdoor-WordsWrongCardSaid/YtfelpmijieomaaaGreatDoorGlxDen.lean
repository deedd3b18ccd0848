/- What terms mean grows with what their calls and labels mean; a meaning that is reckoned. -/
import Derived.Test.YtfelpmijieomaaaGreatDoorGlxCore
namespace Glx
open Go

section
variable {R : Type}

def Le {α : Type} (g g' : α → Option R) : Prop := ∀ x r, g x = some r → g' x = some r
def Mono (F : (List D → Option R) → List D → Option R) : Prop := ∀ g g', Le g g' → Le (F g) (F g')

theorem iter_le {F F' : (List D → Option R) → List D → Option R} (hF : Mono F) (h : ∀ g, Le (F g) (F' g)) : ∀ n, Le (iter F n) (iter F' n)
  | 0 => fun _ _ h => by cases h
  | n + 1 => fun st r hr => h _ st r (hF _ _ (iter_le hF h n) st r hr)

theorem iter_succ {F : (List D → Option R) → List D → Option R} (hF : Mono F) : ∀ n, Le (iter F n) (iter F (n + 1))
  | 0 => fun _ _ h => by cases h
  | n + 1 => hF _ _ (iter_succ hF n)

theorem iter_add {F : (List D → Option R) → List D → Option R} (hF : Mono F) (n : Nat) : ∀ k, Le (iter F n) (iter F (n + k))
  | 0 => fun _ _ h => h
  | k + 1 => fun st r h => iter_succ hF (n + k) st r (iter_add hF n k st r h)

theorem fix_of_iter {F : (List D → Option R) → List D → Option R} (hF : Mono F) {n : Nat} {st : List D} {r : R} (h : iter F n st = some r) : fix F st = some r := by
  have hex : ∃ n, (iter F n st).isSome = true := ⟨n, by rw [h]; rfl⟩
  unfold fix
  rw [dif_pos hex]
  have hc := hex.choose_spec
  generalize hex.choose = m at hc
  obtain ⟨r', hr'⟩ := Option.isSome_iff_exists.1 hc
  have h1 := iter_add hF n m st r h
  have h2 := iter_add hF m n st r' hr'
  rw [Nat.add_comm m n, h1] at h2
  rw [hr', h2]

theorem upd_le {K K' : Nat → List D → Option R} (hK : ∀ t, Le (K t) (K' t)) {k k' : List D → Option R} (hk : Le k k') (t : Nat) : ∀ u, Le (upd K t k u) (upd K' t k' u) := by
  intro u
  unfold upd
  split
  · exact hk
  · exact hK u

theorem den_mono {L : Type} {Φ Φ' : Nat → List D → Option (List D)} (hΦ : ∀ f, Le (Φ f) (Φ' f)) {kl : L → List D → Option R} : ∀ (t : Tm L) (K K' : Nat → List D → Option R), (∀ u, Le (K u) (K' u)) → Le (t.den Φ kl K) (t.den Φ' kl K') := by
  intro t
  induction t generalizing Φ Φ' with
  | leaf x => intro K K' _ e r h; exact h
  | jump t outs => intro K K' hK e r h; exact hK t _ r h
  | guard c k ih =>
    intro K K' hK e r h
    simp only [Tm.den] at h ⊢
    split at h
    · rename_i hc; rw [if_pos hc]; exact ih hΦ K K' hK e r h
    · cases h
  | letx x k ih => intro K K' hK e r h; exact ih hΦ K K' hK _ r h
  | call f args k ih =>
    intro K K' hK e r h
    simp only [Tm.den] at h ⊢
    obtain ⟨ds, h1, h2⟩ := Option.bind_eq_some_iff.1 h
    rw [hΦ f _ _ h1]
    exact ih hΦ K K' hK _ r h2
  | ite c a b iha ihb =>
    intro K K' hK e r h
    simp only [Tm.den] at h ⊢
    split at h
    · rename_i hc; rw [if_pos hc]; exact iha hΦ K K' hK e r h
    · rename_i hc; rw [if_neg hc]; exact ihb hΦ K K' hK e r h
  | join t m k ihm ihk =>
    intro K K' hK e r h
    exact ihm hΦ _ _ (upd_le hK (fun ds r h => ihk hΦ K K' hK _ r h) t) e r h
  | loop t init body ih =>
    intro K K' hK e r h
    simp only [Tm.den] at h ⊢
    have hF : ∀ (Φ : Nat → List D → Option (List D)) (K : Nat → List D → Option R), Mono (fun rec st => body.den Φ kl (upd K t rec) (e ++ st)) := fun Φ K g g' hg st r h => ih (fun f x r h => h) _ _ (upd_le (fun u x r h => h) hg t) _ r h
    obtain ⟨n, hn⟩ := fix_some h
    refine fix_of_iter (n := n) (hF Φ' K') (iter_le (hF Φ K) (fun g st r h => ?_) n _ r hn)
    exact ih hΦ _ _ (upd_le hK (fun _ _ h => h) t) _ r h

/-- a meaning that is reckoned: so many rounds of each loop -/
def Tm.ev {L : Type} (m : Nat) (Φ : Nat → List D → Option (List D)) (kl : L → List D → Option R) : Tm L → (Nat → List D → Option R) → List D → Option R
  | .leaf x, _, e => kl x e
  | .jump t outs, K, e => K t (dens e outs)
  | .guard c k, K, e => match (c.den e).bool with
    | true => k.ev m Φ kl K e
    | false => none
  | .letx x k, K, e => k.ev m Φ kl K (e ++ [x.den e])
  | .call f args k, K, e => match Φ f (dens e args) with
    | some ds => k.ev m Φ kl K (e ++ ds)
    | none => none
  | .ite c a b, K, e => match (c.den e).bool with
    | true => a.ev m Φ kl K e
    | false => b.ev m Φ kl K e
  | .join t k1 k, K, e => k1.ev m Φ kl (upd K t fun ds => k.ev m Φ kl K (e ++ ds)) e
  | .loop t init body, K, e => iter (fun rec st => body.ev m Φ kl (upd K t rec) (e ++ st)) m (dens e init)

theorem ev_den {L : Type} {m : Nat} {Φ : Nat → List D → Option (List D)} {kl : L → List D → Option R} : ∀ (t : Tm L) (K K' : Nat → List D → Option R), (∀ u, Le (K u) (K' u)) → Le (t.ev m Φ kl K) (t.den Φ kl K') := by
  intro t
  induction t with
  | leaf x => intro K K' _ e r h; exact h
  | jump t outs => intro K K' hK e r h; exact hK t _ r h
  | guard c k ih =>
    intro K K' hK e r h
    simp only [Tm.ev] at h
    simp only [Tm.den]
    split at h
    · rename_i hc; rw [if_pos hc]; exact ih K K' hK e r h
    · cases h
  | letx x k ih => intro K K' hK e r h; exact ih K K' hK _ r h
  | call f args k ih =>
    intro K K' hK e r h
    simp only [Tm.ev] at h
    simp only [Tm.den]
    split at h
    · rename_i ds h1; rw [h1]; exact ih K K' hK _ r h
    · cases h
  | ite c a b iha ihb =>
    intro K K' hK e r h
    simp only [Tm.ev] at h
    simp only [Tm.den]
    split at h
    · rename_i hc; rw [if_pos hc]; exact iha K K' hK e r h
    · rename_i hc; rw [if_neg (by rw [hc]; decide)]; exact ihb K K' hK e r h
  | join t k1 k ihm ihk =>
    intro K K' hK e r h
    exact ihm _ _ (upd_le hK (fun ds r h => ihk K K' hK _ r h) t) e r h
  | loop t init body ih =>
    intro K K' hK e r h
    simp only [Tm.ev] at h
    simp only [Tm.den]
    have hF : Mono (fun rec st => body.den Φ kl (upd K' t rec) (e ++ st)) := fun g g' hg st r h => den_mono (fun f x r h => h) body _ _ (upd_le (fun u x r h => h) hg t) _ r h
    have key : ∀ n, Le (iter (fun rec st => body.ev m Φ kl (upd K t rec) (e ++ st)) n) (iter (fun rec st => body.den Φ kl (upd K' t rec) (e ++ st)) n) := by
      intro n
      induction n with
      | zero => intro _ _ h; cases h
      | succ n ihn => intro st r h; exact ih _ _ (upd_le hK ihn t) _ r h
    exact fix_of_iter hF (key m _ r h)

end
end Glx
