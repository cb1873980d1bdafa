/-
  Trees with turned symbols; when a run exists; images and inverse images accept alike. Plain Lean, no program. Own work.
-/
import Derived.Test.YtdclodapkhgabaaGreatPalIm
namespace Pal
open Go Go.Proofs Go.Proofs.X
def turnS (l : List Int) (s : Int) : Int := if 0 ≤ s ∧ s < l.length then l.getD s.toNat 0 else 0
mutual
def Tr.turn (l : List Int) : Tr → Tr
  | .node s ts => .node (turnS l s) (Tr.turns l ts)
def Tr.turns (l : List Int) : List Tr → List Tr
  | [] => []
  | t :: r => Tr.turn l t :: Tr.turns l r
end
theorem Tr.turns_map (l : List Int) : ∀ ts, Tr.turns l ts = ts.map (Tr.turn l)
  | [] => rfl
  | t :: r => by rw [Tr.turns, Tr.turns_map l r]; rfl
mutual
theorem Tr.turn_relabel {l : List Int} : ∀ (t u : Tr), Tr.relabel l t = some u → Tr.turn l t = u
  | .node s ts, u, h => by
    simp only [Tr.relabel] at h
    split at h
    · rename_i hs
      cases hr : Tr.relabels l ts with
      | none => rw [hr] at h; simp at h
      | some us =>
        rw [hr] at h
        simp only [Option.map_some, Option.some.injEq] at h
        subst h
        rw [Tr.turn, Tr.turns_relabel ts us hr]
        unfold turnS
        rw [if_pos hs]
    · cases h
theorem Tr.turns_relabel {l : List Int} : ∀ (ts us : List Tr), Tr.relabels l ts = some us → Tr.turns l ts = us
  | [], us, h => by simp [Tr.relabels] at h; subst h; rfl
  | t :: r, us, h => by
    simp only [Tr.relabels] at h
    cases ht : Tr.relabel l t with
    | none => rw [ht] at h; cases h
    | some u =>
      rw [ht] at h
      cases hr : Tr.relabels l r with
      | none => rw [hr] at h; simp at h
      | some vs =>
        rw [hr] at h
        simp only [Option.map_some, Option.some.injEq] at h
        subst h
        rw [Tr.turns, Tr.turn_relabel t u ht, Tr.turns_relabel r vs hr]
end
mutual
theorem Tr.turn_size (l : List Int) : ∀ t : Tr, (Tr.turn l t).size = t.size
  | .node s ts => by simp only [Tr.turn, Tr.size, Tr.turns_size l ts]
theorem Tr.turns_size (l : List Int) : ∀ ts : List Tr, Tr.sizes (Tr.turns l ts) = Tr.sizes ts
  | [] => rfl
  | t :: r => by simp only [Tr.turns, Tr.sizes, Tr.turn_size l t, Tr.turns_size l r]
end
/-! ### When there is a run -/
theorem sum_pos_iff {α : Type} (f : α → Nat) : ∀ l : List α, 0 < (l.map f).sum ↔ ∃ x ∈ l, 0 < f x
  | [] => by simp
  | a :: l => by
    have ih := sum_pos_iff f l
    simp only [List.map_cons, List.sum_cons, List.mem_cons, exists_eq_or_imp]
    rw [← ih]; omega
theorem Tr.cnt_pos {rs : List Rl} {s : Int} {ts : List Tr} {q : Int} : 0 < Tr.cnt rs (.node s ts) q ↔ ∃ r ∈ rs, r.sym = s ∧ r.to = q ∧ 0 < Tr.cnts rs ts r.args := by
  rw [Tr.cnt, sum_pos_iff]
  constructor
  · rintro ⟨r, hr, h⟩
    obtain ⟨h1, h2⟩ := List.mem_filter.1 hr
    have h3 := of_decide_eq_true h2
    exact ⟨r, h1, h3.1, h3.2, h⟩
  · rintro ⟨r, h1, h2, h3, h⟩
    exact ⟨r, List.mem_filter.2 ⟨h1, decide_eq_true ⟨h2, h3⟩⟩, h⟩
theorem Tr.cnts_pos {rs : List Rl} {t : Tr} {ts : List Tr} {q : Int} {qs : List Int} : 0 < Tr.cnts rs (t :: ts) (q :: qs) ↔ 0 < Tr.cnt rs t q ∧ 0 < Tr.cnts rs ts qs := by
  rw [Tr.cnts]
  constructor
  · intro h
    exact ⟨Nat.pos_of_ne_zero fun e => by rw [e] at h; simp at h, Nat.pos_of_ne_zero fun e => by rw [e] at h; simp at h⟩
  · rintro ⟨h1, h2⟩; exact Nat.mul_pos h1 h2
mutual
theorem Tr.cnt_mono {rs rs' : List Rl} (h : ∀ x ∈ rs, x ∈ rs') : ∀ (t : Tr) (q : Int), 0 < t.cnt rs q → 0 < t.cnt rs' q
  | .node s ts, q, hp => by
    obtain ⟨r, h1, h2, h3, h4⟩ := Tr.cnt_pos.1 hp
    exact Tr.cnt_pos.2 ⟨r, h r h1, h2, h3, Tr.cnts_mono h ts r.args h4⟩
theorem Tr.cnts_mono {rs rs' : List Rl} (h : ∀ x ∈ rs, x ∈ rs') : ∀ (ts : List Tr) (qs : List Int), 0 < Tr.cnts rs ts qs → 0 < Tr.cnts rs' ts qs
  | [], [], _ => Nat.one_pos
  | t :: ts, q :: qs, hp => by
    obtain ⟨h1, h2⟩ := Tr.cnts_pos.1 hp
    exact Tr.cnts_pos.2 ⟨Tr.cnt_mono h t q h1, Tr.cnts_mono h ts qs h2⟩
  | [], _ :: _, hp => absurd hp (Nat.lt_irrefl 0)
  | _ :: _, [], hp => absurd hp (Nat.lt_irrefl 0)
end
theorem cnt_sortO (rs : List Rl) (t : Tr) (q : Int) : 0 < t.cnt (sortO rs) q ↔ 0 < t.cnt rs q :=
  ⟨Tr.cnt_mono (fun _ h => sortO_mem.1 h) t q, Tr.cnt_mono (fun _ h => sortO_mem.2 h) t q⟩
theorem accA_iff {a : Au} {t : Tr} : accA a t = true ↔ askErr a t = 0 ∧ ∃ q ∈ a.final, 0 < t.cnt a.rules q := by
  unfold accA
  rw [Bool.and_eq_true, decide_eq_true_eq, List.any_eq_true]
  simp only [decide_eq_true_eq, cnt_sortO]
theorem norm_err {a : Au} (h : auErr a = 0) : auErr (normA a) = 0 := by
  have hok := AuOk.of h
  have hr : ranksErr a.ranks = 0 := by
    unfold auErr at h
    split at h
    · rename_i h1; exact absurd h h1
    · rename_i h1; exact Decidable.not_not.1 h1
  exact (normA_ok hok).err hr
theorem ranks_of_auErr {a : Au} (h : auErr a = 0) : ranksErr a.ranks = 0 := by
  unfold auErr at h
  split at h
  · rename_i h1; exact absurd h h1
  · rename_i h1; exact Decidable.not_not.1 h1
theorem ask_norm {a : Au} (h : auErr a = 0) (t : Tr) : askErr (normA a) t = askErr a t := by
  unfold askErr
  rw [if_neg (not_not_intro (norm_err h)), if_neg (not_not_intro h)]
  rfl
theorem bool_iff {a b : Bool} (h : a = true ↔ b = true) : a = b := by cases a <;> cases b <;> simp_all
theorem acc_norm {a : Au} (h : auErr a = 0) (t : Tr) : accA (normA a) t = accA a t := bool_iff (by
  rw [accA_iff, accA_iff, ask_norm h]
  show _ ∧ (∃ q ∈ sortI a.final, 0 < t.cnt (sortO a.rules) q) ↔ _
  simp only [sortI_mem, cnt_sortO])
/-! ### Images and inverse images -/
mutual
theorem Tr.cnt_img {l : List Int} {rs : List Rl} : ∀ (t u : Tr), Tr.relabel l t = some u → ∀ q, 0 < t.cnt rs q → 0 < u.cnt (rs.map (imgR l)) q
  | .node s ts, u, h, q, hp => by
    simp only [Tr.relabel] at h
    split at h
    · rename_i hs
      cases hr : Tr.relabels l ts with
      | none => rw [hr] at h; simp at h
      | some us =>
        rw [hr] at h
        simp only [Option.map_some, Option.some.injEq] at h
        subst h
        obtain ⟨r, h1, h2, h3, h4⟩ := Tr.cnt_pos.1 hp
        exact Tr.cnt_pos.2 ⟨imgR l r, List.mem_map.2 ⟨r, h1, rfl⟩, by subst h2; rfl, h3, Tr.cnts_img ts us hr r.args h4⟩
    · cases h
theorem Tr.cnts_img {l : List Int} {rs : List Rl} : ∀ (ts us : List Tr), Tr.relabels l ts = some us → ∀ qs, 0 < Tr.cnts rs ts qs → 0 < Tr.cnts (rs.map (imgR l)) us qs
  | [], us, h, qs, hp => by
    simp [Tr.relabels] at h; subst h
    cases qs with
    | nil => exact Nat.one_pos
    | cons q qs => exact absurd hp (Nat.lt_irrefl 0)
  | t :: r, us, h, qs, hp => by
    simp only [Tr.relabels] at h
    cases ht : Tr.relabel l t with
    | none => rw [ht] at h; cases h
    | some u =>
      rw [ht] at h
      cases hr : Tr.relabels l r with
      | none => rw [hr] at h; simp at h
      | some vs =>
        rw [hr] at h
        simp only [Option.map_some, Option.some.injEq] at h
        subst h
        cases qs with
        | nil => exact absurd hp (Nat.lt_irrefl 0)
        | cons q qs =>
          obtain ⟨h1, h2⟩ := Tr.cnts_pos.1 hp
          exact Tr.cnts_pos.2 ⟨Tr.cnt_img t u ht q h1, Tr.cnts_img r vs hr qs h2⟩
end
mutual
theorem Tr.cnt_back {l : List Int} {rs : List Rl} : ∀ (t u : Tr), Tr.relabel l t = some u → ∀ q, 0 < t.cnt (backR l rs l.length) q ↔ 0 < u.cnt rs q
  | .node s ts, u, h, q => by
    simp only [Tr.relabel] at h
    split at h
    · rename_i hs
      cases hr : Tr.relabels l ts with
      | none => rw [hr] at h; simp at h
      | some us =>
        rw [hr] at h
        simp only [Option.map_some, Option.some.injEq] at h
        subst h
        rw [Tr.cnt_pos, Tr.cnt_pos]
        constructor
        · rintro ⟨r, h1, h2, h3, h4⟩
          obtain ⟨n, hn, e, hm⟩ := backR_mem.1 h1
          have hsn : s.toNat = n := by omega
          exact ⟨_, hm, by rw [hsn], h3, (Tr.cnts_back ts us hr r.args).1 h4⟩
        · rintro ⟨r, h1, h2, h3, h4⟩
          refine ⟨⟨s, r.args, r.to⟩, backR_mem.2 ⟨s.toNat, by omega, by show s = _; omega, ?_⟩, rfl, h3, (Tr.cnts_back ts us hr r.args).2 h4⟩
          rw [← h2]; exact h1
    · cases h
theorem Tr.cnts_back {l : List Int} {rs : List Rl} : ∀ (ts us : List Tr), Tr.relabels l ts = some us → ∀ qs, 0 < Tr.cnts (backR l rs l.length) ts qs ↔ 0 < Tr.cnts rs us qs
  | [], us, h, qs => by
    simp [Tr.relabels] at h; subst h
    cases qs <;> exact Iff.rfl
  | t :: r, us, h, qs => by
    simp only [Tr.relabels] at h
    cases ht : Tr.relabel l t with
    | none => rw [ht] at h; cases h
    | some u =>
      rw [ht] at h
      cases hr : Tr.relabels l r with
      | none => rw [hr] at h; simp at h
      | some vs =>
        rw [hr] at h
        simp only [Option.map_some, Option.some.injEq] at h
        subst h
        cases qs with
        | nil => exact Iff.rfl
        | cons q qs => rw [Tr.cnts_pos, Tr.cnts_pos, Tr.cnt_back t u ht q, Tr.cnts_back r vs hr qs]
end
/-- What a right tree turns into. -/
theorem turn_right {rk rk' l : List Int} {t : Tr} (hr : ranksErr rk' = 0) (hm : mapsM l rk rk' = true) (hv : validErr rk t = 0) : Tr.relabel l t = some (Tr.turn l t) ∧ validErr rk' (Tr.turn l t) = 0 := by
  unfold validErr at hv
  split at hv
  · rename_i h; exact absurd hv h
  · split at hv
    · cases hv
    · split at hv
      · cases hv
      · rename_i h1 h2
        obtain ⟨u, g1, g2, _⟩ := Tr.relabel_run (d := ⟨rk', [], []⟩) hm t hv
        rw [Tr.turn_relabel t u g1]
        refine ⟨g1, ?_⟩
        unfold validErr
        rw [if_neg (by rw [hr]; simp), Tr.relabel_size _ _ g1, Tr.relabel_deep _ _ g1, if_neg h1, if_neg h2, g2]
theorem acc_img {a : Au} {l : List Int} {t : Tr} (h : auErr a = 0) (hm : mapsM l a.ranks a.ranks = true) (hv : validErr a.ranks t = 0) (hacc : accA a t = true) : accA (normA (imgA a l a.ranks)) (Tr.turn l t) = true := by
  have hrk := ranks_of_auErr h
  obtain ⟨h1, h2⟩ := turn_right hrk hm hv
  have hie : auErr (imgA a l a.ranks) = 0 := (imgA_ok (AuOk.of h) hrk hm).err hrk
  rw [acc_norm hie, accA_iff]
  obtain ⟨_, q, hq, hp⟩ := accA_iff.1 hacc
  refine ⟨?_, q, hq, Tr.cnt_img t _ h1 q hp⟩
  unfold askErr
  rw [if_neg (not_not_intro hie)]
  exact h2
theorem acc_back {a : Au} {l : List Int} {t : Tr} (h : auErr a = 0) (hm : mapsM l a.ranks a.ranks = true) (hv : validErr a.ranks t = 0) (hb : l.length * a.rules.length ≤ 65536) : accA (normA (backA a l a.ranks)) t = accA a (Tr.turn l t) := by
  have hrk := ranks_of_auErr h
  obtain ⟨h1, h2⟩ := turn_right hrk hm hv
  have hie : auErr (backA a l a.ranks) = 0 := (backA_ok (AuOk.of h) hrk hm hb).err hrk
  refine bool_iff ?_
  rw [acc_norm hie, accA_iff, accA_iff]
  have e1 : askErr (backA a l a.ranks) t = 0 := by unfold askErr; rw [if_neg (not_not_intro hie)]; exact hv
  have e2 : askErr a (Tr.turn l t) = 0 := by unfold askErr; rw [if_neg (not_not_intro h)]; exact h2
  rw [e1, e2]
  show _ ∧ (∃ q ∈ a.final, 0 < t.cnt (backR l a.rules l.length) q) ↔ _
  simp only [Tr.cnt_back t _ h1]
end Pal
