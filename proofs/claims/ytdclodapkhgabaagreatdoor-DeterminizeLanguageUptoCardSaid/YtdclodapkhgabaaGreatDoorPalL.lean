/-
  Loops that keep what they do not write: rules over PalA. Own work. No statement of the seat is proved here.
-/
import Derived.Test.YtdclodapkhgabaaGreatDoorPalO
namespace Pal
open Go
def memN (k : Nat) : List Nat → Bool
  | [] => false
  | a :: r => cond (Nat.beq a k) true (memN k r)
def del (ks : List Nat) : KL → KL
  | [] => []
  | (k, v) :: r => cond (memN k ks) (del ks r) ((k, v) :: del ks r)
theorem beqN (a b : Nat) : Nat.beq a b = (a == b) := by
  by_cases h : a = b
  · subst h; simp [Nat.beq_refl]
  · simp [beq_ne h, h]
theorem look_del {ks : List Nat} {t : Nat} {v : Value} : ∀ {l : KL}, look (del ks l) t = some v → memN t ks = false ∧ look l t = some v
  | [], h => by simp [del, look] at h
  | (k, u) :: r, h => by
    simp only [del] at h
    cases hm : memN k ks with
    | true =>
      rw [hm] at h
      obtain ⟨h1, h2⟩ := look_del (l := r) h
      have hne : k ≠ t := fun e => by subst e; rw [hm] at h1; cases h1
      exact ⟨h1, by simp only [look, beq_ne hne]; exact h2⟩
    | false =>
      rw [hm] at h
      simp only [cond_false, look] at h
      by_cases e : k = t
      · subst e
        simp only [Nat.beq_refl, cond_true] at h
        exact ⟨hm, by simp only [look, Nat.beq_refl, cond_true]; exact h⟩
      · rw [beq_ne e] at h
        obtain ⟨h1, h2⟩ := look_del (l := r) h
        exact ⟨h1, by simp only [look, beq_ne e]; exact h2⟩
theorem look_app {t : Nat} {b : KL} : ∀ {a : KL}, look (a ++ b) t = match look a t with | some v => some v | none => look b t
  | [] => rfl
  | (k, u) :: r => by
    simp only [List.cons_append, look]
    cases Nat.beq k t with
    | true => rfl
    | false => exact look_app (a := r)
section
variable {P : Program} {n : Nat} {c : Cx} {Q : Exit → Act → World → Prop} {l l0 : KL} {hl : HL} {H : View}
theorem Mt.loop {ρ : Env} {M : KL} {ks : List Nat} (h : Mt n ρ l) (hs : subs M l) (hd : del ks l = l0) : Mt n ρ (M ++ l0) := by
  intro t v hv
  rw [look_app] at hv
  cases hm : look M t with
  | some u => rw [hm] at hv; cases hv; exact h.sub hs t _ hm
  | none =>
    rw [hm] at hv
    exact h t v (look_del (hd ▸ hv)).2
def LDat {G : Type} (M : G → KL) (l0 : KL) (O : G → HL) (V : G → View) (I : G → Prop) (n : Nat) (c : Cx) (g : G) (a : Act) (w : World) : Prop :=
  I g ∧ ∃ ρ, a = fr n ρ ∧ Mt n ρ (M g ++ l0) ∧ Ok c w (V g) (O g)
def LDnext {G : Type} (_ks : List Nat) (M : G → KL) (l0 : KL) (O : G → HL) (V : G → View) (I : G → Prop) (μ : G → Nat) (n : Nat) (c : Cx) (g : G) (a : Act) (w : World) : Prop :=
  ∃ g', LDat M l0 O V I n c g' a w ∧ μ g' < μ g
/-- ks: the slots that a round may write; M: what is known of them at a round's head. -/
theorem K_loopD {G : Type} (ks : List Nat) (M : G → KL) (O : HL → G → HL) (V : G → View) (I : G → Prop) (μ : G → Nat) (g : G) {code : Code} (hI : I g) (hs : subs (M g) l) (hd : del ks l = l0) (ho : hl = O hl g) (hV : H = V g)
    (round : ∀ g, I g → KC P n c code (Exit.then (LDnext ks M l0 (O hl) V I μ n c g) Q) (M g ++ l0) (O hl g) (V g)) : KC P n c (.loop code) Q l hl H := by
  intro ρ w hm hok
  refine wp_loop_g (LDat M l0 (O hl) V I n c) μ (g₀ := g) ⟨hI, ρ, rfl, hm.loop hs hd, hV ▸ ho ▸ hok⟩ ?_
  rintro g a w ⟨hI, ρ, rfl, hm, hok⟩
  exact round g hI ρ w hm hok
theorem Q_nextD {G : Type} {ks : List Nat} {M : G → KL} {O : G → HL} {V : G → View} {I : G → Prop} {μ : G → Nat} {g : G} (g' : G) (hI : I g') (hμ : μ g' < μ g) (hs : subs (M g') l) (hd : del ks l = l0) (ho : hl = O g') (hV : H = V g') :
    KQ n c (Exit.then (LDnext ks M l0 O V I μ n c g) Q) .normal l hl H := by
  intro ρ w hm hok
  exact ⟨g', ⟨hI, ρ, rfl, hm.loop hs hd, hV ▸ ho ▸ hok⟩, hμ⟩
end
end Pal
