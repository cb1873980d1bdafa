/-
  Runs over the same rules in another order; the reference's loops over runs; accepted runs by state. Own work. No statement of the seat is proved here.
-/
import Derived.Test.YtdclodapkhgabaaGreatDoorPalBn
namespace Pal
open Go
mutual
theorem Tr.cnt_perm {rs rs' : List Rl} (h : rs.Perm rs') : ∀ (t : Tr) (q : Int), t.cnt rs q = t.cnt rs' q
  | .node s ts, q => by
    rw [Tr.cnt, Tr.cnt]
    have e : ((rs.filter fun r => decide (r.sym = s ∧ r.to = q)).map fun r => Tr.cnts rs ts r.args) = (rs.filter fun r => decide (r.sym = s ∧ r.to = q)).map fun r => Tr.cnts rs' ts r.args :=
      List.map_congr_left fun r _ => Tr.cnts_perm h ts r.args
    rw [e]
    exact ((h.filter _).map _).sum_nat
theorem Tr.cnts_perm {rs rs' : List Rl} (h : rs.Perm rs') : ∀ (ts : List Tr) (qs : List Int), Tr.cnts rs ts qs = Tr.cnts rs' ts qs
  | [], [] => rfl
  | [], _ :: _ => rfl
  | _ :: _, [] => rfl
  | t :: ts, q :: qs => by rw [Tr.cnts, Tr.cnts, Tr.cnt_perm h t q, Tr.cnts_perm h ts qs]
end
mutual
theorem Tr.ways_mem {rs rs' : List Rl} (h : ∀ r, r ∈ rs ↔ r ∈ rs') : ∀ (t : Tr) (x : List Int), x ∈ t.ways rs ↔ x ∈ t.ways rs'
  | .node s ts, x => by
    simp only [Tr.ways, List.mem_flatMap, List.mem_map, List.mem_filter, decide_eq_true_eq]
    constructor
    · rintro ⟨p, hp, r, ⟨hr, h1⟩, rfl⟩; exact ⟨p, (Tr.pairs_mem h ts p).1 hp, r, ⟨(h r).1 hr, h1⟩, rfl⟩
    · rintro ⟨p, hp, r, ⟨hr, h1⟩, rfl⟩; exact ⟨p, (Tr.pairs_mem h ts p).2 hp, r, ⟨(h r).2 hr, h1⟩, rfl⟩
theorem Tr.pairs_mem {rs rs' : List Rl} (h : ∀ r, r ∈ rs ↔ r ∈ rs') : ∀ (ts : List Tr) (p : List Int × List Int), p ∈ Tr.pairs rs ts ↔ p ∈ Tr.pairs rs' ts
  | [], p => Iff.rfl
  | t :: ts, p => by
    simp only [Tr.pairs, List.mem_flatMap, List.mem_map]
    constructor
    · rintro ⟨r, hr, d, hd, rfl⟩; exact ⟨r, (Tr.ways_mem h t r).1 hr, d, (Tr.pairs_mem h ts d).1 hd, rfl⟩
    · rintro ⟨r, hr, d, hd, rfl⟩; exact ⟨r, (Tr.ways_mem h t r).2 hr, d, (Tr.pairs_mem h ts d).2 hd, rfl⟩
end
theorem IsLeast.congr {m : List Int} {l l' : List (List Int)} (h : ∀ x, x ∈ l ↔ x ∈ l') (hm : IsLeast m l) : IsLeast m l' := ⟨(h m).1 hm.1, fun x hx => hm.2 x ((h x).2 hx)⟩
theorem LeastO.congr {o : Option (List Int)} {l l' : List (List Int)} (h : ∀ x, x ∈ l ↔ x ∈ l') (ho : LeastO o l) : LeastO o l' := by
  rcases ho with ⟨h1, h2⟩ | ⟨m, h1, h2⟩
  · refine .inl ⟨?_, h2⟩
    rw [List.eq_nil_iff_forall_not_mem]
    intro x hx
    have := (h x).2 hx
    rw [h1] at this; cases this
  · exact .inr ⟨m, h1, h2.congr h⟩
theorem Tr.least_perm {rs rs' : List Rl} (h : ∀ r, r ∈ rs ↔ r ∈ rs') (t : Tr) (q : Int) : t.least rs q = t.least rs' q := by
  refine LeastO.uniq ((Tr.least_ways rs t q).congr fun x => ?_) (Tr.least_ways rs' t q)
  simp only [List.mem_filter, Tr.ways_mem h t x]
/-! ### The reference's loops -/
def combP (ps : List (List Int × List Int)) (l : List (List Int)) : List (List Int × List Int) := ps.flatMap fun p => l.map fun r => (p.1 ++ r, p.2 ++ [lastI r])
theorem Tr.pairs_fold (rs : List Rl) : ∀ (ts : List Tr) (ps : List (List Int × List Int)), ts.foldl (fun ps t => combP ps (t.ways rs)) ps = ps.flatMap fun p => (Tr.pairs rs ts).map fun d => (p.1 ++ d.1, p.2 ++ d.2)
  | [], ps => by
    have e : (fun p : List Int × List Int => (Tr.pairs rs []).map fun d => (p.1 ++ d.1, p.2 ++ d.2)) = fun p => [p] := by
      funext p; simp [Tr.pairs]
    rw [List.foldl_nil, e, List.flatMap_singleton']
  | t :: ts, ps => by
    rw [List.foldl_cons, Tr.pairs_fold rs ts, combP, List.flatMap_assoc]
    congr 1
    funext p
    rw [List.flatMap_map, Tr.pairs, List.map_flatMap]
    congr 1
    funext r
    rw [List.map_map]
    refine List.map_congr_left fun d _ => ?_
    simp
theorem Tr.pairs_left (rs : List Rl) (ts : List Tr) : ts.foldl (fun ps t => combP ps (t.ways rs)) [([], [])] = Tr.pairs rs ts := by
  rw [Tr.pairs_fold]; simp
/-! ### Accepted runs -/
theorem count_states {l : List (List Int)} : ∀ {F : List Int}, F.Nodup → (F.map fun s => l.countP fun r => decide (lastI r = s)).sum = l.countP fun r => decide (lastI r ∈ F)
  | [], _ => by simp
  | s :: F, h => by
    obtain ⟨h1, h2⟩ := List.nodup_cons.1 h
    rw [List.map_cons, List.sum_cons, count_states h2]
    induction l with
    | nil => rfl
    | cons x l ih =>
      simp only [List.countP_cons, decide_eq_true_eq, List.mem_cons]
      by_cases e : lastI x = s
      · have e2 : ¬ lastI x ∈ F := fun h => h1 (e ▸ h)
        simp only [e, e ▸ e2, if_true, if_false, true_or]
        simp only [List.mem_cons] at ih
        omega
      · simp only [e, false_or, if_false]
        simp only [List.mem_cons] at ih
        omega
end Pal
