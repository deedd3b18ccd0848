/- What a book means, however deep its calls: one equation for each function and each loop. -/
import Derived.Test.YtfelpmijieomaaaGreatDoorGlx3
namespace Glx
open Go

section
variable {L R : Type}

/-- what a run of a term gives, the term means -/
theorem den_of_run {Φ : Nat → List D → Option (List D)} {kl : L → List D → Option R} {r : R} {o : Option (List D)} {t : Tm L} {e : List D} {x : Res L} (h : Run Φ o t e x) :
    ∀ K : Nat → List D → Option R, Ends kl K r x → match o, t with
      | none, t => t.den Φ kl K e = some r
      | some st, .loop T _ body => ∃ n, iter (fun rec st => body.den Φ kl (upd K T rec) (e ++ st)) n st = some r
      | some _, _ => True := by
  induction h with
  | leaf => intro K hx; exact hx
  | jump => intro K hx; exact hx
  | guard hc _ ih => intro K hx; simp only [Tm.den]; rw [if_pos hc]; exact ih K hx
  | letx _ ih => intro K hx; exact ih K hx
  | call hc _ ih => intro K hx; simp only [Tm.den]; rw [hc]; exact ih K hx
  | iteT hc _ ih => intro K hx; simp only [Tm.den]; rw [if_pos hc]; exact ih K hx
  | iteF hc _ ih => intro K hx; simp only [Tm.den]; rw [if_neg (by rw [hc]; decide)]; exact ih K hx
  | joinL _ ih => intro K hx; exact ih _ hx
  | joinO hu _ ih => intro K hx; refine ih _ ?_; simpa only [Ends, upd, if_neg hu] using hx
  | joinJ _ _ ihm ihk => intro K hx; refine ihm _ ?_; simp only [Ends, upd, if_true]; exact ihk K hx
  | @loop t init body e x _ ih =>
    intro K hx
    obtain ⟨n, hn⟩ := ih K hx
    have hF : Mono (fun rec st => body.den Φ kl (upd K t rec) (e ++ st)) := fun g g' hg st r h => den_mono (fun f x r h => h) body _ _ (upd_le (fun u x r h => h) hg t) _ r h
    exact fix_of_iter hF hn
  | loopL _ ih => intro K hx; exact ⟨1, ih _ hx⟩
  | loopO hu _ ih => intro K hx; refine ⟨1, ih _ ?_⟩; simpa only [Ends, upd, if_neg hu] using hx
  | loopJ _ _ ihb ihr =>
    intro K hx
    obtain ⟨n, hn⟩ := ihr K hx
    refine ⟨n + 1, ihb _ ?_⟩
    simp only [Ends, upd, if_true]
    exact hn

theorem run_mono {Φ Φ' : Nat → List D → Option (List D)} (h : ∀ f, Le (Φ f) (Φ' f)) {o : Option (List D)} {t : Tm L} {e : List D} {x : Res L} (hr : Run Φ o t e x) : Run Φ' o t e x := by
  induction hr with
  | leaf => exact .leaf
  | jump => exact .jump
  | guard hc _ ih => exact .guard hc ih
  | letx _ ih => exact .letx ih
  | call hc _ ih => exact .call (h _ _ _ hc) ih
  | iteT hc _ ih => exact .iteT hc ih
  | iteF hc _ ih => exact .iteF hc ih
  | joinL _ ih => exact .joinL ih
  | joinO hu _ ih => exact .joinO hu ih
  | joinJ _ _ ihm ihk => exact .joinJ ihm ihk
  | loop _ ih => exact .loop ih
  | loopL _ ih => exact .loopL ih
  | loopO hu _ ih => exact .loopO hu ih
  | loopJ _ _ ihb ihr => exact .loopJ ihb ihr

theorem body_mono {Φ : Nat → List D → Option (List D)} {kl : L → List D → Option R} (body : Tm L) (K : Nat → List D → Option R) (t : Nat) (e : List D) : Mono (fun rec st => body.den Φ kl (upd K t rec) (e ++ st)) :=
  fun _ _ hg _ r h => den_mono (fun _ _ _ h => h) body _ _ (upd_le (fun _ _ _ h => h) hg t) _ r h

/-- a loop is one round, and the loop -/
theorem loop_eq {Φ : Nat → List D → Option (List D)} {kl : L → List D → Option R} (body : Tm L) (K : Nat → List D → Option R) (t : Nat) (e st : List D) :
    fix (fun rec st => body.den Φ kl (upd K t rec) (e ++ st)) st = body.den Φ kl (upd K t (fix (fun rec st => body.den Φ kl (upd K t rec) (e ++ st)))) (e ++ st) := by
  have hF := body_mono (Φ := Φ) (kl := kl) body K t e
  generalize hG : (fun rec st => body.den Φ kl (upd K t rec) (e ++ st)) = F at hF
  have hFst : ∀ g s, F g s = body.den Φ kl (upd K t g) (e ++ s) := fun g s => by rw [← hG]
  have h1 : ∀ r, fix F st = some r → body.den Φ kl (upd K t (fix F)) (e ++ st) = some r := by
    intro r h
    obtain ⟨n, hn⟩ := fix_some h
    cases n with
    | zero => cases hn
    | succ n =>
      rw [← hFst]
      exact hF _ _ (fun s r hs => fix_of_iter hF hs) st r hn
  have h2 : ∀ r, body.den Φ kl (upd K t (fix F)) (e ++ st) = some r → fix F st = some r := by
    intro r h
    obtain ⟨x, hx, he⟩ := run_of_den body _ _ h
    cases x with
    | leaf x e' =>
      refine fix_of_iter (n := 1) hF ?_
      show F _ st = _
      rw [hFst]
      exact den_of_run hx _ he
    | jump u ds =>
      simp only [Ends, upd] at he
      by_cases hu : u = t
      · subst hu
        rw [if_pos rfl] at he
        obtain ⟨n, hn⟩ := fix_some he
        refine fix_of_iter (n := n + 1) hF ?_
        show F _ st = _
        rw [hFst]
        refine den_of_run hx _ ?_
        simp only [Ends, upd, if_true]
        exact hn
      · rw [if_neg hu] at he
        refine fix_of_iter (n := 1) hF ?_
        show F _ st = _
        rw [hFst]
        refine den_of_run hx _ ?_
        simp only [Ends, upd, if_neg hu]
        exact he
  cases hA : fix F st with
  | some r => exact (h1 r hA).symm
  | none =>
    cases hB : body.den Φ kl (upd K t (fix F)) (e ++ st) with
    | none => rfl
    | some r => rw [h2 r hB] at hA; cases hA

end

noncomputable def Book.step (B : Book) (Φ : Nat → List D → Option (List D)) (cid : Nat) (as : List D) : Option (List D) :=
  (match B.base cid with
    | some g => g as
    | none => match B.tm cid with
      | some t => fnDen Φ t as
      | none => none).bind (B.cut cid)

theorem Book.phi_succ (B : Book) (n cid : Nat) (as : List D) : B.phi (n + 1) cid as = B.step (B.phi n) cid as := rfl

theorem Book.step_mono {B : Book} {Φ Φ' : Nat → List D → Option (List D)} (h : ∀ f, Le (Φ f) (Φ' f)) (c : Nat) : Le (B.step Φ c) (B.step Φ' c) := by
  intro as r hr
  unfold Book.step at hr ⊢
  obtain ⟨r', h1, h2⟩ := Option.bind_eq_some_iff.1 hr
  refine Option.bind_eq_some_iff.2 ⟨r', ?_, h2⟩
  split at h1
  · exact h1
  · split at h1
    · exact den_mono h _ _ _ (fun _ _ _ h => h) _ _ h1
    · cases h1

theorem Book.phi_le (B : Book) : ∀ n c, Le (B.phi n c) (B.phi (n + 1) c)
  | 0, _ => fun _ _ h => by cases h
  | n + 1, c => Book.step_mono (Book.phi_le B n) c

theorem Book.phi_le_add (B : Book) (n : Nat) : ∀ k c, Le (B.phi n c) (B.phi (n + k) c)
  | 0, _ => fun _ _ h => h
  | k + 1, c => fun as r h => Book.phi_le B (n + k) c as r (Book.phi_le_add B n k c as r h)

theorem Book.phi_le_of (B : Book) {n m : Nat} (h : n ≤ m) (c : Nat) : Le (B.phi n c) (B.phi m c) := by
  obtain ⟨k, rfl⟩ := Nat.exists_eq_add_of_le h
  exact Book.phi_le_add B n k c

open Classical in
/-- what a contract says -/
noncomputable def Book.lim (B : Book) (c : Nat) (as : List D) : Option (List D) :=
  if h : ∃ n, (B.phi n c as).isSome = true then B.phi h.choose c as else none

theorem Book.lim_some {B : Book} {c : Nat} {as r : List D} (h : B.lim c as = some r) : ∃ n, B.phi n c as = some r := by
  unfold Book.lim at h
  split at h
  · exact ⟨_, h⟩
  · cases h

theorem Book.lim_of {B : Book} {n c : Nat} {as r : List D} (h : B.phi n c as = some r) : B.lim c as = some r := by
  have hex : ∃ n, (B.phi n c as).isSome = true := ⟨n, by rw [h]; rfl⟩
  unfold Book.lim
  rw [dif_pos hex]
  have hc := hex.choose_spec
  generalize hex.choose = m at hc
  obtain ⟨r', hr'⟩ := Option.isSome_iff_exists.1 hc
  have h1 := Book.phi_le_of B (Nat.le_max_left n m) c as r h
  have h2 := Book.phi_le_of B (Nat.le_max_right n m) c as r' hr'
  rw [h1] at h2
  rw [hr', h2]

theorem Book.run_phi {L : Type} {B : Book} {o : Option (List D)} {t : Tm L} {e : List D} {x : Res L} (h : Run B.lim o t e x) : ∃ n, Run (B.phi n) o t e x := by
  have up : ∀ {n m : Nat} {o : Option (List D)} {t : Tm L} {e : List D} {x : Res L}, n ≤ m → Run (B.phi n) o t e x → Run (B.phi m) o t e x := fun h hr => run_mono (Book.phi_le_of B h) hr
  induction h with
  | leaf => exact ⟨0, .leaf⟩
  | jump => exact ⟨0, .jump⟩
  | guard hc _ ih => obtain ⟨n, h⟩ := ih; exact ⟨n, .guard hc h⟩
  | letx _ ih => obtain ⟨n, h⟩ := ih; exact ⟨n, .letx h⟩
  | call hc _ ih =>
    obtain ⟨n, h⟩ := ih
    obtain ⟨m, h2⟩ := Book.lim_some hc
    exact ⟨max n m, .call (Book.phi_le_of B (Nat.le_max_right n m) _ _ _ h2) (up (Nat.le_max_left n m) h)⟩
  | iteT hc _ ih => obtain ⟨n, h⟩ := ih; exact ⟨n, .iteT hc h⟩
  | iteF hc _ ih => obtain ⟨n, h⟩ := ih; exact ⟨n, .iteF hc h⟩
  | joinL _ ih => obtain ⟨n, h⟩ := ih; exact ⟨n, .joinL h⟩
  | joinO hu _ ih => obtain ⟨n, h⟩ := ih; exact ⟨n, .joinO hu h⟩
  | joinJ _ _ ihm ihk =>
    obtain ⟨n, h⟩ := ihm
    obtain ⟨m, h2⟩ := ihk
    exact ⟨max n m, .joinJ (up (Nat.le_max_left n m) h) (up (Nat.le_max_right n m) h2)⟩
  | loop _ ih => obtain ⟨n, h⟩ := ih; exact ⟨n, .loop h⟩
  | loopL _ ih => obtain ⟨n, h⟩ := ih; exact ⟨n, .loopL h⟩
  | loopO hu _ ih => obtain ⟨n, h⟩ := ih; exact ⟨n, .loopO hu h⟩
  | loopJ _ _ ihb ihr =>
    obtain ⟨n, h⟩ := ihb
    obtain ⟨m, h2⟩ := ihr
    exact ⟨max n m, .loopJ (up (Nat.le_max_left n m) h) (up (Nat.le_max_right n m) h2)⟩

/-- what is meant deep down is meant so many calls deep -/
theorem Book.den_phi {B : Book} {t : Tm (List Ex)} {as r : List D} (h : fnDen B.lim t as = some r) : ∃ n, fnDen (B.phi n) t as = some r := by
  obtain ⟨x, hx, he⟩ := run_of_den t _ _ h
  obtain ⟨n, hn⟩ := Book.run_phi hx
  exact ⟨n, den_of_run hn _ he⟩

theorem Book.lim_step (B : Book) (c : Nat) (as : List D) : B.lim c as = B.step B.lim c as := by
  have h1 : ∀ r, B.lim c as = some r → B.step B.lim c as = some r := by
    intro r h
    obtain ⟨n, hn⟩ := Book.lim_some h
    cases n with
    | zero => cases hn
    | succ n =>
      rw [Book.phi_succ] at hn
      exact Book.step_mono (fun f as r h => Book.lim_of h) c as r hn
  have h2 : ∀ r, B.step B.lim c as = some r → B.lim c as = some r := by
    intro r h
    have key : ∃ n, B.step (B.phi n) c as = some r := by
      unfold Book.step at h ⊢
      obtain ⟨r', k1, k2⟩ := Option.bind_eq_some_iff.1 h
      split at k1
      · exact ⟨0, Option.bind_eq_some_iff.2 ⟨r', k1, k2⟩⟩
      · split at k1
        · obtain ⟨n, hn⟩ := Book.den_phi k1
          exact ⟨n, Option.bind_eq_some_iff.2 ⟨r', hn, k2⟩⟩
        · cases k1
    obtain ⟨n, hn⟩ := key
    exact Book.lim_of (n := n + 1) hn
  cases hA : B.lim c as with
  | some r => exact (h1 r hA).symm
  | none =>
    cases hB : B.step B.lim c as with
    | none => rfl
    | some r => rw [h2 r hB] at hA; cases hA

/-- the way in: a function's term gives so many data -/
theorem Book.lim_tm {B : Book} {c : Nat} {t : Tm (List Ex)} {s : Sig} {as r : List D} (hb : B.base c = none) (ht : B.tm c = some t) (hs : B.C.sig c = some s) (h : fnDen B.lim t as = some r) (hl : r.length = s.outN) : B.lim c as = some r := by
  rw [Book.lim_step]
  simp only [Book.step, hb, ht, h, Option.bind_some, Book.cut, hs, hl, if_true]

theorem Book.lim_base {B : Book} {c : Nat} {g : List D → Option (List D)} {s : Sig} {as r : List D} (hb : B.base c = some g) (hs : B.C.sig c = some s) (h : g as = some r) (hl : r.length = s.outN) : B.lim c as = some r := by
  rw [Book.lim_step]
  simp only [Book.step, hb, h, Option.bind_some, Book.cut, hs, hl, if_true]

end Glx
