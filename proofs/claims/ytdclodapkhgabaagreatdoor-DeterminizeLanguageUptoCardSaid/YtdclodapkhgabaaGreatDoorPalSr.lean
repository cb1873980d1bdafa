/-
  Lists that rise strictly by an order; rules in their order; what sorting and compacting give. Own work. No statement of the seat is proved here.
-/
import Derived.Test.YtdclodapkhgabaaGreatDoorPalNc
namespace Pal
open Go
/-- Two lists that rise strictly, of the same elements, are the same. -/
theorem rise_uniq {α : Type} {lt : α → α → Prop} (irr : ∀ x, ¬ lt x x) (tr : ∀ x y z, lt x y → lt y z → lt x z) :
    ∀ {xs ys : List α}, xs.Pairwise lt → ys.Pairwise lt → (∀ x, x ∈ xs ↔ x ∈ ys) → xs = ys
  | [], [], _, _, _ => rfl
  | [], y :: ys, _, _, h => by have := (h y).2 List.mem_cons_self; cases this
  | x :: xs, [], _, _, h => by have := (h x).1 List.mem_cons_self; cases this
  | x :: xs, y :: ys, h1, h2, h => by
    have g1 := List.pairwise_cons.1 h1
    have g2 := List.pairwise_cons.1 h2
    have hxy : x = y := by
      rcases List.mem_cons.1 ((h x).1 List.mem_cons_self) with e | hx
      · exact e
      · rcases List.mem_cons.1 ((h y).2 List.mem_cons_self) with e | hy
        · exact e.symm
        · exact absurd (tr _ _ _ (g1.1 y hy) (g2.1 x hx)) (irr x)
    subst hxy
    have : ∀ z, z ∈ xs ↔ z ∈ ys := fun z => by
      constructor
      · intro hm
        rcases List.mem_cons.1 ((h z).1 (List.mem_cons_of_mem _ hm)) with e | e
        · subst e; exact absurd (g1.1 _ hm) (irr _)
        · exact e
      · intro hm
        rcases List.mem_cons.1 ((h z).2 (List.mem_cons_of_mem _ hm)) with e | e
        · subst e; exact absurd (g2.1 _ hm) (irr _)
        · exact e
    rw [rise_uniq irr tr g1.2 g2.2 this]

/-! ### Neighbours alike dropped -/
def compF {α : Type} (eq : α → α → Bool) : Option α → List α → List α
  | _, [] => []
  | none, x :: r => x :: compF eq (some x) r
  | some p, x :: r => if eq x p = true then compF eq (some x) r else x :: compF eq (some x) r
theorem compF_append {α : Type} (eq : α → α → Bool) : ∀ (o : Option α) (xs ys : List α), compF eq o (xs ++ ys) = compF eq o xs ++ compF eq (match xs.getLast? with | some x => some x | none => o) ys
  | _, [], _ => by simp [compF]
  | none, x :: r, ys => by
    simp only [List.cons_append, compF, compF_append eq (some x) r ys]
    cases r with
    | nil => simp
    | cons y r => simp [List.getLast?_eq_some_getLast]
  | some p, x :: r, ys => by
    simp only [List.cons_append, compF]
    rw [compF_append eq (some x) r ys]
    have : (match (x :: r).getLast? with | some x => some x | none => some p) = (match r.getLast? with | some y => some y | none => some x) := by
      cases r with
      | nil => simp
      | cons y r => simp [List.getLast?_eq_some_getLast]
    rw [this]
    split <;> simp
theorem compF_sublist {α : Type} (eq : α → α → Bool) : ∀ (o : Option α) (xs : List α), List.Sublist (compF eq o xs) xs
  | _, [] => by simp [compF]
  | none, x :: r => by simp only [compF]; exact (compF_sublist eq (some x) r).cons_cons x
  | some p, x :: r => by
    simp only [compF]
    split
    · exact (compF_sublist eq (some x) r).cons x
    · exact (compF_sublist eq (some x) r).cons_cons x
/-- Over a list that falls nowhere: it rises strictly; each element has its like there. -/
theorem compF_rise {α : Type} {eq : α → α → Bool} {lt : α → α → Prop} (heq : ∀ x y, eq x y = true → ∀ z, lt z x ↔ lt z y) (htr : ∀ x y z, lt x y → ¬ lt z y → lt x z) (hne : ∀ x y, eq x y = false → ¬ lt x y → lt y x)
    : ∀ (o : Option α) (xs : List α), xs.Pairwise (fun x y => ¬ lt y x) → (∀ p, o = some p → ∀ x ∈ xs, ¬ lt x p) → (compF eq o xs).Pairwise lt ∧ (∀ p, o = some p → ∀ x ∈ compF eq o xs, lt p x)
  | _, [], _, _ => by simp [compF]
  | none, x :: r, h, _ => by
    have g := List.pairwise_cons.1 h
    obtain ⟨h1, h2⟩ := compF_rise heq htr hne (some x) r g.2 (fun p hp y hy => by cases hp; exact g.1 y hy)
    simp only [compF]
    exact ⟨List.pairwise_cons.2 ⟨fun y hy => h2 x rfl y hy, h1⟩, fun p hp => by cases hp⟩
  | some p, x :: r, h, ho => by
    have g := List.pairwise_cons.1 h
    obtain ⟨h1, h2⟩ := compF_rise heq htr hne (some x) r g.2 (fun q hq y hy => by cases hq; exact g.1 y hy)
    simp only [compF]
    split
    · rename_i he
      refine ⟨h1, fun q hq y hy => ?_⟩
      cases hq
      have hxy := h2 x rfl y hy
      have hpx : ¬ lt x p := ho p rfl x List.mem_cons_self
      -- x is like p
      by_cases hlt : lt p y
      · exact hlt
      · exact absurd (htr x y p hxy hlt) hpx
    · rename_i he
      have he' : eq x p = false := by simpa using he
      have hpx : lt p x := hne x p he' (ho p rfl x List.mem_cons_self)
      refine ⟨List.pairwise_cons.2 ⟨fun y hy => h2 x rfl y hy, h1⟩, fun q hq y hy => ?_⟩
      cases hq
      rcases List.mem_cons.1 hy with e | e
      · subst e; exact hpx
      · exact htr p x y hpx (g.1 y ((compF_sublist eq (some x) r).subset e))
theorem compF_mem {α β : Type} {eq : α → α → Bool} {f : α → β} (heq : ∀ x y, eq x y = true → f x = f y) :
    ∀ (o : Option α) (xs : List α) (x : α), x ∈ xs → (∃ y ∈ compF eq o xs, f y = f x) ∨ ∃ p, o = some p ∧ f p = f x
  | _, [], x, h => by cases h
  | none, a :: r, x, h => by
    simp only [compF]
    rcases List.mem_cons.1 h with e | e
    · exact .inl ⟨a, List.mem_cons_self, by rw [e]⟩
    · rcases compF_mem heq (some a) r x e with ⟨y, hy, e⟩ | ⟨p, hp, e⟩
      · exact .inl ⟨y, List.mem_cons_of_mem _ hy, e⟩
      · cases hp; exact .inl ⟨_, List.mem_cons_self, e⟩
  | some p, a :: r, x, h => by
    simp only [compF]
    split
    · rename_i he
      rcases List.mem_cons.1 h with e | e
      · subst e; exact .inr ⟨p, rfl, (heq _ _ he).symm⟩
      · rcases compF_mem heq (some a) r x e with ⟨y, hy, e⟩ | ⟨q, hq, e⟩
        · exact .inl ⟨y, hy, e⟩
        · cases hq; exact .inr ⟨p, rfl, (heq _ _ he).symm.trans e⟩
    · rcases List.mem_cons.1 h with e | e
      · exact .inl ⟨a, List.mem_cons_self, by rw [e]⟩
      · rcases compF_mem heq (some a) r x e with ⟨y, hy, e⟩ | ⟨q, hq, e⟩
        · exact .inl ⟨y, List.mem_cons_of_mem _ hy, e⟩
        · cases hq; exact .inl ⟨_, List.mem_cons_self, e⟩

/-! ### Rules -/
def ltR (r s : Rl) : Prop := ordR r s < 0
instance (r s : Rl) : Decidable (ltR r s) := by unfold ltR; infer_instance
theorem ordR_lt {r s : Rl} : ordR r s < 0 ↔ r.sym < s.sym ∨ (r.sym = s.sym ∧ (cmpL r.args s.args < 0 ∨ (r.args = s.args ∧ r.to < s.to))) := by
  unfold ordR
  by_cases h1 : r.sym < s.sym
  · simp [h1]
  · by_cases h2 : s.sym < r.sym
    · rw [if_neg h1, if_pos h2]
      constructor
      · intro h; omega
      · rintro (h | ⟨h, _⟩) <;> omega
    · have e : r.sym = s.sym := by omega
      rw [if_neg h1, if_neg h2]
      by_cases h3 : cmpL r.args s.args = 0
      · have e3 := cmpL_eq.1 h3
        rw [if_neg (by simpa using h3)]
        by_cases h4 : r.to < s.to
        · rw [if_pos h4]; exact ⟨fun _ => .inr ⟨e, .inr ⟨e3, h4⟩⟩, fun _ => by decide⟩
        · rw [if_neg h4]
          constructor
          · intro h; split at h <;> omega
          · rintro (h | ⟨_, h | ⟨_, h⟩⟩) <;> omega
      · rw [if_pos h3]
        constructor
        · intro h; exact .inr ⟨e, .inl h⟩
        · rintro (h | ⟨_, h | ⟨h, _⟩⟩)
          · omega
          · exact h
          · exact absurd (cmpL_eq.2 h) h3
theorem ordR_gt {r s : Rl} : 0 < ordR r s ↔ ordR s r < 0 := by
  rw [ordR_lt]
  unfold ordR
  by_cases h1 : r.sym < s.sym
  · rw [if_pos h1]
    constructor
    · intro h; omega
    · rintro (h | ⟨h, _⟩) <;> omega
  · by_cases h2 : s.sym < r.sym
    · rw [if_neg h1, if_pos h2]; exact ⟨fun _ => .inl h2, fun _ => by decide⟩
    · have e : r.sym = s.sym := by omega
      rw [if_neg h1, if_neg h2]
      have hs := cmpL_swap r.args s.args
      by_cases h3 : cmpL r.args s.args = 0
      · have e3 := cmpL_eq.1 h3
        rw [if_neg (by simpa using h3)]
        by_cases h4 : r.to < s.to
        · rw [if_pos h4]
          constructor
          · intro h; omega
          · rintro (h | ⟨_, h | ⟨_, h⟩⟩) <;> omega
        · rw [if_neg h4]
          by_cases h5 : s.to < r.to
          · rw [if_pos h5]; exact ⟨fun _ => .inr ⟨e.symm, .inr ⟨e3.symm, h5⟩⟩, fun _ => by decide⟩
          · rw [if_neg h5]
            constructor
            · intro h; omega
            · rintro (h | ⟨_, h | ⟨_, h⟩⟩) <;> omega
      · rw [if_pos h3]
        constructor
        · intro h; exact .inr ⟨e.symm, .inl (by omega)⟩
        · rintro (h | ⟨_, h | ⟨h, _⟩⟩)
          · omega
          · omega
          · exact absurd (cmpL_eq.2 h.symm) h3
theorem ltR_irr (r : Rl) : ¬ ltR r r := by unfold ltR; rw [ordR_eq.2 rfl]; omega
theorem ltR_trans (r s t : Rl) (h1 : ltR r s) (h2 : ltR s t) : ltR r t := by
  unfold ltR at *
  rw [ordR_lt] at *
  rcases h1 with h1 | ⟨e1, h1⟩
  · rcases h2 with h2 | ⟨e2, _⟩
    · exact .inl (by omega)
    · exact .inl (by omega)
  · rcases h2 with h2 | ⟨e2, h2⟩
    · exact .inl (by omega)
    · refine .inr ⟨by omega, ?_⟩
      rcases h1 with h1 | ⟨a1, h1⟩
      · rcases h2 with h2 | ⟨a2, _⟩
        · exact .inl (cmpL_trans h1 h2)
        · exact .inl (by rw [← a2]; exact h1)
      · rcases h2 with h2 | ⟨a2, h2⟩
        · exact .inl (by rw [a1]; exact h2)
        · exact .inr ⟨a1.trans a2, by omega⟩
theorem ltR_total (r s : Rl) : ltR r s ∨ r = s ∨ ltR s r := by
  unfold ltR
  rcases Int.lt_trichotomy (ordR r s) 0 with h | h | h
  · exact .inl h
  · exact .inr (.inl (ordR_eq.1 h))
  · exact .inr (.inr (ordR_gt.1 h))
theorem ltR_htr (r s t : Rl) (h1 : ltR r s) (h2 : ¬ ltR t s) : ltR r t := by
  rcases ltR_total s t with h | h | h
  · exact ltR_trans _ _ _ h1 h
  · subst h; exact h1
  · exact absurd h h2
def insO (r : Rl) : List Rl → List Rl
  | [] => [r]
  | x :: xs => if ordR r x < 0 then r :: x :: xs else if ordR r x = 0 then x :: xs else x :: insO r xs
/-- The rules in their order, each once. -/
def sortO (rs : List Rl) : List Rl := rs.foldr insO []
theorem insO_mem {r x : Rl} : ∀ {l : List Rl}, x ∈ insO r l ↔ x = r ∨ x ∈ l
  | [] => by simp [insO]
  | y :: l => by
    simp only [insO]
    split
    · simp
    · split
      · rename_i h; have := ordR_eq.1 h; subst this; simp
      · rw [List.mem_cons, insO_mem (l := l), List.mem_cons]
        constructor
        · rintro (h | h | h) <;> simp [h]
        · rintro (h | h | h) <;> simp [h]
theorem insO_rise {r : Rl} : ∀ {l : List Rl}, l.Pairwise ltR → (insO r l).Pairwise ltR
  | [], _ => by simp [insO]
  | y :: l, h => by
    have g := List.pairwise_cons.1 h
    simp only [insO]
    split
    · rename_i h1
      refine List.pairwise_cons.2 ⟨fun z hz => ?_, h⟩
      rcases List.mem_cons.1 hz with e | e
      · subst e; exact h1
      · exact ltR_trans _ _ _ h1 (g.1 z e)
    · split
      · exact h
      · rename_i h1 h2
        refine List.pairwise_cons.2 ⟨fun z hz => ?_, insO_rise g.2⟩
        rcases insO_mem.1 hz with e | e
        · subst e
          rcases ltR_total y z with h | h | h
          · exact h
          · subst h; exact absurd (ordR_eq.2 rfl) h2
          · exact absurd h h1
        · exact g.1 z e
theorem sortO_mem {rs : List Rl} {x : Rl} : x ∈ sortO rs ↔ x ∈ rs := by
  induction rs with
  | nil => simp [sortO]
  | cons r rs ih =>
    show x ∈ insO r (sortO rs) ↔ _
    rw [insO_mem, ih, List.mem_cons]
theorem sortO_rise (rs : List Rl) : (sortO rs).Pairwise ltR := by
  induction rs with
  | nil => exact List.Pairwise.nil
  | cons r rs ih => exact insO_rise ih
theorem sortO_uniq {rs l : List Rl} (h1 : l.Pairwise ltR) (h2 : ∀ x, x ∈ l ↔ x ∈ rs) : l = sortO rs :=
  rise_uniq ltR_irr ltR_trans h1 (sortO_rise rs) fun x => (h2 x).trans sortO_mem.symm
theorem sortO_congr {rs ss : List Rl} (h : ∀ x, x ∈ rs ↔ x ∈ ss) : sortO rs = sortO ss := sortO_uniq (sortO_rise rs) fun x => sortO_mem.trans (h x)
theorem rise_nodup {l : List Rl} (h : l.Pairwise ltR) : l.Nodup := (h.imp fun {a b} hab (e : a = b) => by subst e; exact ltR_irr _ hab : l.Pairwise (· ≠ ·))
theorem sortO_len (rs : List Rl) : (sortO rs).length ≤ rs.length := by
  induction rs with
  | nil => simp [sortO]
  | cons r rs ih =>
    have : ∀ (l : List Rl), (insO r l).length ≤ l.length + 1 := by
      intro l
      induction l with
      | nil => simp [insO]
      | cons y l ih =>
        simp only [insO]
        split
        · simp
        · split
          · simp
          · simp only [List.length_cons]; omega
    show (insO r (sortO rs)).length ≤ _
    have := this (sortO rs)
    simp only [List.length_cons]; omega
/-! the reference's order, where rules of a symbol take as many operands -/
theorem insR_mem' {r x : Rl} : ∀ {out : List Rl}, x ∈ insR r out ↔ x = r ∨ x ∈ out
  | [] => by simp [insR]
  | y :: l => by
    simp only [insR]
    split
    · rw [List.mem_cons, insR_mem' (out := l), List.mem_cons]
      constructor
      · rintro (h | h | h) <;> simp [h]
      · rintro (h | h | h) <;> simp [h]
    · split
      · rename_i h; have := keyL_inj (cmpL_eq.1 h); subst this; simp
      · simp
theorem insR_rise {r : Rl} : ∀ {l : List Rl}, l.Pairwise (fun x y => cmpL (keyL x) (keyL y) < 0) → (insR r l).Pairwise (fun x y => cmpL (keyL x) (keyL y) < 0)
  | [], _ => by simp [insR]
  | y :: l, h => by
    have g := List.pairwise_cons.1 h
    simp only [insR]
    split
    · rename_i h1
      refine List.pairwise_cons.2 ⟨fun z hz => ?_, insR_rise g.2⟩
      rcases insR_mem'.1 hz with e | e
      · subst e; exact h1
      · exact g.1 z e
    · split
      · exact h
      · rename_i h1 h2
        have h3 : cmpL (keyL r) (keyL y) < 0 := by have := cmpL_swap (keyL y) (keyL r); omega
        refine List.pairwise_cons.2 ⟨fun z hz => ?_, h⟩
        rcases List.mem_cons.1 hz with e | e
        · subst e; exact h3
        · exact cmpL_trans h3 (g.1 z e)
theorem foldR_spec (rs : List Rl) : ∀ out : List Rl, out.Pairwise (fun x y => cmpL (keyL x) (keyL y) < 0) → (rs.foldl (fun out r => insR r out) out).Pairwise (fun x y => cmpL (keyL x) (keyL y) < 0) ∧ ∀ x, x ∈ rs.foldl (fun out r => insR r out) out ↔ x ∈ rs ∨ x ∈ out := by
  induction rs with
  | nil => intro out h; exact ⟨h, fun x => by simp⟩
  | cons r rs ih =>
    intro out h
    obtain ⟨h1, h2⟩ := ih (insR r out) (insR_rise h)
    refine ⟨h1, fun x => ?_⟩
    simp only [List.foldl_cons]
    rw [h2 x, insR_mem', List.mem_cons]
    constructor
    · rintro (h | h | h) <;> simp [h]
    · rintro ((h | h) | h) <;> simp [h]
theorem sortR_rise (rs : List Rl) : (sortR rs).Pairwise (fun x y => cmpL (keyL x) (keyL y) < 0) := (foldR_spec rs [] List.Pairwise.nil).1
theorem sortR_mem' {rs : List Rl} {x : Rl} : x ∈ sortR rs ↔ x ∈ rs := by
  have := (foldR_spec rs [] List.Pairwise.nil).2 x
  simpa [sortR] using this
theorem cmpL_snoc {xs ys : List Int} {a b : Int} (h : xs.length = ys.length) : cmpL (xs ++ [a]) (ys ++ [b]) < 0 ↔ cmpL xs ys < 0 ∨ (xs = ys ∧ a < b) := by
  induction xs generalizing ys with
  | nil =>
    cases ys with
    | nil => simp only [List.nil_append, cmpL]; by_cases h1 : a < b <;> by_cases h2 : b < a <;> simp [h1, h2] <;> omega
    | cons y ys => simp at h
  | cons x xs ih =>
    cases ys with
    | nil => simp at h
    | cons y ys =>
      simp only [List.cons_append, cmpL]
      by_cases h1 : x < y
      · simp [h1]
      · by_cases h2 : y < x
        · simp [h1, h2]; intro e; omega
        · have e : x = y := by omega
          rw [if_neg h1, if_neg h2, if_neg h1, if_neg h2, ih (by simpa using h), e]
          simp
def SameLen (rs : List Rl) : Prop := ∀ r ∈ rs, ∀ s ∈ rs, r.sym = s.sym → r.args.length = s.args.length
theorem keyL_lt {r s : Rl} (h : r.sym = s.sym → r.args.length = s.args.length) : cmpL (keyL r) (keyL s) < 0 ↔ ltR r s := by
  unfold ltR keyL
  rw [ordR_lt]
  simp only [cmpL]
  by_cases h1 : r.sym < s.sym
  · simp [h1]
  · by_cases h2 : s.sym < r.sym
    · simp [h1, h2]; intro e; omega
    · have e : r.sym = s.sym := by omega
      rw [if_neg h1, if_neg h2, cmpL_snoc (h e)]
      constructor
      · intro h; exact .inr ⟨e, h⟩
      · rintro (h | ⟨_, h⟩)
        · exact absurd h h1
        · exact h
theorem sortR_eq {rs : List Rl} (h : SameLen rs) : sortR rs = sortO rs :=
  sortO_uniq ((sortR_rise rs).imp_of_mem fun {a b} ha hb hab => (keyL_lt (h a (sortR_mem'.1 ha) b (sortR_mem'.1 hb))).1 hab) fun x => sortR_mem'
theorem AuOk.sameLen {a : Au} (h : AuOk a) : SameLen a.rules := fun r hr s hs e => by
  have h1 := (h.ru r hr).2.2.1
  have h2 := (h.ru s hs).2.2.1
  rw [e] at h1
  omega

/-! ### Numbers -/
def insI (x : Int) : List Int → List Int
  | [] => [x]
  | y :: l => if x < y then x :: y :: l else if x = y then y :: l else y :: insI x l
def sortI (xs : List Int) : List Int := xs.foldr insI []
theorem insI_mem {r x : Int} : ∀ {l : List Int}, x ∈ insI r l ↔ x = r ∨ x ∈ l
  | [] => by simp [insI]
  | y :: l => by
    simp only [insI]
    split
    · simp
    · split
      · rename_i h; subst h; simp
      · rw [List.mem_cons, insI_mem (l := l), List.mem_cons]
        constructor
        · rintro (h | h | h) <;> simp [h]
        · rintro (h | h | h) <;> simp [h]
theorem insI_rise {r : Int} : ∀ {l : List Int}, l.Pairwise (· < ·) → (insI r l).Pairwise (· < ·)
  | [], _ => by simp [insI]
  | y :: l, h => by
    have g := List.pairwise_cons.1 h
    simp only [insI]
    split
    · rename_i h1
      refine List.pairwise_cons.2 ⟨fun z hz => ?_, h⟩
      rcases List.mem_cons.1 hz with e | e
      · omega
      · have := g.1 z e; omega
    · split
      · exact h
      · rename_i h1 h2
        refine List.pairwise_cons.2 ⟨fun z hz => ?_, insI_rise g.2⟩
        rcases insI_mem.1 hz with e | e
        · omega
        · exact g.1 z e
theorem sortI_mem {rs : List Int} {x : Int} : x ∈ sortI rs ↔ x ∈ rs := by
  induction rs with
  | nil => simp [sortI]
  | cons r rs ih =>
    show x ∈ insI r (sortI rs) ↔ _
    rw [insI_mem, ih, List.mem_cons]
theorem sortI_rise (rs : List Int) : (sortI rs).Pairwise (· < ·) := by
  induction rs with
  | nil => exact List.Pairwise.nil
  | cons r rs ih => exact insI_rise ih
theorem sortI_uniq {rs l : List Int} (h1 : l.Pairwise (· < ·)) (h2 : ∀ x, x ∈ l ↔ x ∈ rs) : l = sortI rs :=
  rise_uniq (fun x => by omega) (fun x y z => by omega) h1 (sortI_rise rs) fun x => (h2 x).trans sortI_mem.symm
theorem sortI_congr {rs ss : List Int} (h : ∀ x, x ∈ rs ↔ x ∈ ss) : sortI rs = sortI ss := sortI_uniq (sortI_rise rs) fun x => sortI_mem.trans (h x)
theorem sortI_nodup (rs : List Int) : (sortI rs).Nodup := ((sortI_rise rs).imp fun {a b} h (e : a = b) => by omega : (sortI rs).Pairwise (· ≠ ·))
theorem sortI_len (rs : List Int) : (sortI rs).length ≤ rs.length := by
  induction rs with
  | nil => simp [sortI]
  | cons r rs ih =>
    have : ∀ (l : List Int), (insI r l).length ≤ l.length + 1 := by
      intro l
      induction l with
      | nil => simp [insI]
      | cons y l ih =>
        simp only [insI]
        split
        · simp
        · split
          · simp
          · simp only [List.length_cons]; omega
    show (insI r (sortI rs)).length ≤ _
    have := this (sortI rs)
    simp only [List.length_cons]; omega
/-- What the reference keeps of the final states. -/
theorem sortI_range {n : Nat} {F : List Int} (h : ∀ q ∈ F, 0 ≤ q ∧ q < (n : Int)) : (((List.range n).filter fun (s : Nat) => decide ((s : Int) ∈ F)).map fun (s : Nat) => (s : Int)) = sortI F := by
  refine sortI_uniq ?_ fun x => ?_
  · rw [List.pairwise_map]
    exact (List.pairwise_lt_range.filter _).imp fun {a b} h => by omega
  · simp only [List.mem_map, List.mem_filter, List.mem_range, decide_eq_true_eq]
    constructor
    · rintro ⟨s, ⟨_, h⟩, rfl⟩; exact h
    · intro hx
      obtain ⟨h1, h2⟩ := h x hx
      exact ⟨x.toNat, ⟨by omega, by rw [Int.toNat_of_nonneg h1]; exact hx⟩, Int.toNat_of_nonneg h1⟩
/-- The normal form. -/
def normA (a : Au) : Au := ⟨a.ranks, a.states, sortO a.rules, sortI a.final⟩
theorem sortedM_norm {a : Au} (h : AuOk a) : sortedM a = normA a := by
  unfold sortedM normA
  rw [sortR_eq h.sameLen, sortI_range (n := a.states.toNat) (fun q hq => by have := h.fi q hq; have := h.st; omega)]
theorem normA_ok {a : Au} (h : AuOk a) : AuOk (normA a) :=
  ⟨h.rl, h.rk, h.st, Nat.le_trans (sortO_len _) h.ul, fun r hr => h.ru r (sortO_mem.1 hr), fun q hq => h.fi q (sortI_mem.1 hq)⟩
/-- Equal up to order and duplicates. -/
theorem sameM_iff (a b : Au) : sameM a b = true ↔ (a.ranks = b.ranks ∧ a.states = b.states ∧ sortI a.final = sortI b.final ∧ sortO a.rules = sortO b.rules) := by
  unfold sameM
  rw [decide_eq_true_eq]
  have e1 : (sortR a.rules).map keyL = (sortR b.rules).map keyL ↔ sortO a.rules = sortO b.rules := by
    constructor
    · intro h
      have : sortR a.rules = sortR b.rules := by
        generalize sortR a.rules = x at h ⊢
        generalize sortR b.rules = y at h ⊢
        induction x generalizing y with
        | nil => cases y with
          | nil => rfl
          | cons b y => simp at h
        | cons a x ih => cases y with
          | nil => simp at h
          | cons b y =>
            simp only [List.map_cons, List.cons.injEq] at h
            rw [keyL_inj h.1, ih y h.2]
      exact sortO_congr fun x => by rw [← sortR_mem', this, sortR_mem']
    · intro h
      have hm : ∀ x, x ∈ sortR a.rules ↔ x ∈ sortR b.rules := fun x => by rw [sortR_mem', sortR_mem', ← sortO_mem, h, sortO_mem]
      have : sortR a.rules = sortR b.rules := rise_uniq (lt := fun x y => cmpL (keyL x) (keyL y) < 0) (fun x => by rw [cmpL_self]; omega) (fun x y z => cmpL_trans) (sortR_rise _) (sortR_rise _) hm
      rw [this]
  have e2 : ((∀ x ∈ a.final, x ∈ b.final) ∧ ∀ x ∈ b.final, x ∈ a.final) ↔ sortI a.final = sortI b.final := by
    constructor
    · rintro ⟨h1, h2⟩; exact sortI_congr fun x => ⟨h1 x, h2 x⟩
    · intro h
      exact ⟨fun x hx => sortI_mem.1 (h ▸ sortI_mem.2 hx), fun x hx => sortI_mem.1 (h ▸ sortI_mem.2 hx)⟩
  constructor
  · rintro ⟨h1, h2, h3, h4⟩; exact ⟨h2, h1, e2.1 h4, e1.1 h3⟩
  · rintro ⟨h1, h2, h3, h4⟩; exact ⟨h2, h1, e1.2 h4, e2.2 h3⟩
/-- What sorting and then dropping like neighbours gives. -/
theorem comp_ints {xs : List Int} (h : xs.Pairwise (· ≤ ·)) : compF (fun x y => decide (x = y)) none xs = sortI xs := by
  refine sortI_uniq (compF_rise (lt := (· < ·)) (fun x y h z => by simp at h; subst h; rfl) (fun x y z => by omega) (fun x y h1 h2 => by simp at h1; omega) none xs (h.imp fun h => by omega) (fun p hp => by cases hp)).1 fun x => ⟨fun hx => (compF_sublist _ none xs).subset hx, fun hx => ?_⟩
  rcases compF_mem (f := fun x => x) (eq := fun x y => decide (x = y)) (fun x y h => by simpa using h) none xs x hx with ⟨y, hy, e⟩ | ⟨p, hp, _⟩
  · subst e; exact hy
  · cases hp
def eqP (x y : Rl × Value) : Bool := decide (ordR x.1 y.1 = 0)
theorem comp_rules {ps : List (Rl × Value)} (h : ps.Pairwise fun x y => ¬ ltR y.1 x.1) : (compF eqP none ps).map (·.1) = sortO (ps.map (·.1)) := by
  refine sortO_uniq ?_ fun x => ?_
  · rw [List.pairwise_map]
    exact (compF_rise (lt := fun x y : Rl × Value => ltR x.1 y.1) (fun x y h z => by simp only [eqP, decide_eq_true_eq] at h; rw [ordR_eq.1 h]) (fun x y z => ltR_htr _ _ _) (fun x y h1 h2 => by
      simp only [eqP, decide_eq_false_iff_not] at h1
      rcases ltR_total x.1 y.1 with h | h | h
      · exact absurd h h2
      · exact absurd (ordR_eq.2 h) h1
      · exact h) none ps h (fun p hp => by cases hp)).1
  · simp only [List.mem_map]
    constructor
    · rintro ⟨p, hp, rfl⟩; exact ⟨p, (compF_sublist _ none ps).subset hp, rfl⟩
    · rintro ⟨p, hp, rfl⟩
      rcases compF_mem (f := fun x : Rl × Value => x.1) (eq := eqP) (fun x y h => by simp only [eqP, decide_eq_true_eq] at h; exact ordR_eq.1 h) none ps p hp with ⟨y, hy, e⟩ | ⟨p, hp, _⟩
      · exact ⟨y, hy, e⟩
      · cases hp
end Pal
