/-
  Reachable states as the program finds them: marks, steps. Own work. No statement of the seat is proved here.
-/
import Derived.Test.YtdclodapkhgabaaGreatDoorPalPu
namespace Pal
open Go
theorem putCells_one {cs : Array Value} {off : Nat} {v : Value} (h : off < cs.size) : putCells cs off [v] = cs.setIfInBounds off v := by
  unfold putCells putL
  apply Array.ext'
  rw [Array.toList_setIfInBounds]
  have hl : off < cs.toList.length := by simpa using h
  simp only [List.length_cons, List.length_nil, Nat.zero_add]
  rw [List.set_eq_take_append_cons_drop, if_pos hl, List.append_assoc]
  rfl
def marks (n : Nat) (out : List Int) : Array Value := ((List.range n).map fun (q : Nat) => Value.bool (decide ((q : Int) ∈ out))).toArray
theorem marks_size (n : Nat) (out : List Int) : (marks n out).size = n := by simp [marks]
theorem marks_get {n off : Nat} {out : List Int} {q : Int} (h : 0 ≤ q ∧ q < (n : Int)) (ho : off = q.toNat) : (marks n out)[off]? = some (.bool (decide (q ∈ out))) := by
  subst ho
  have h1 : q.toNat < n := by omega
  simp [marks, h1, show ((q.toNat : Nat) : Int) = q by omega]
theorem marks_nil (n : Nat) : marks n [] = (List.replicate n (Value.bool false)).toArray := by
  unfold marks
  congr 1
  refine List.ext_getElem (by simp) fun i h1 h2 => by simp
theorem marks_put {n off : Nat} {out : List Int} {q : Int} (h : 0 ≤ q ∧ q < (n : Int)) (ho : off = q.toNat) : putCells (marks n out) off (Value.bool true).cells.toList = marks n (out ++ [q]) := by
  subst ho
  have hq : q.toNat < n := by omega
  have e : putCells (marks n out) q.toNat (Value.bool true).cells.toList = (marks n out).setIfInBounds q.toNat (.bool true) := putCells_one (by rw [marks_size]; exact hq)
  rw [e]
  apply Array.ext
  · simp [marks]
  · intro i h1 h2
    have hi : i < n := by rw [marks_size] at h2; exact h2
    have h3 : (marks n out).size = n := marks_size n out
    rw [Array.getElem_setIfInBounds (by rw [h3]; exact hi)]
    by_cases e : q.toNat = i
    · subst e
      simp [marks, show ((q.toNat : Nat) : Int) = q by omega, show max q 0 = q by omega]
    · rw [if_neg e]
      have : ¬ ((i : Int) = q) := by omega
      simp [marks, this]
def findD (d : Dt) (s : Int) (out xs : List Int) : List Int := if atM d s xs ∈ out then out else out ++ [atM d s xs]
/-- Nodup, and states. -/
structure FoundOk (d : Dt) (out : List Int) : Prop where
  nd : out.Nodup
  st : States d out
theorem FoundOk.nil (d : Dt) : FoundOk d [] := ⟨.nil, fun q hq => by cases hq⟩
theorem FoundOk.len {d : Dt} {out : List Int} (h : FoundOk d out) : out.length ≤ d.acc.length := by
  have h1 : (out.map Int.toNat).Nodup := by
    refine List.Pairwise.map _ (fun x y hxy => ?_) (List.Pairwise.and_mem.1 h.nd)
    intro e
    have h1 := h.st x hxy.1
    have h2 := h.st y hxy.2.1
    exact hxy.2.2 (by omega)
  have := nodup_le h1 (fun x hx => by
    obtain ⟨y, hy, rfl⟩ := List.mem_map.1 hx
    have := h.st y hy
    show y.toNat < d.acc.length
    omega)
  simpa using this
theorem FoundOk.step {d : Dt} {out : List Int} {s : Int} {xs : List Int} (h : FoundOk d out) (hat : 0 ≤ atM d s xs ∧ atM d s xs < d.acc.length) : FoundOk d (findD d s out xs) := by
  unfold findD
  split
  · exact h
  · rename_i hm
    refine ⟨?_, ?_⟩
    · rw [List.nodup_append]
      refine ⟨h.nd, by simp, ?_⟩
      intro x hx y hy e
      simp at hy; subst hy; subst e; exact hm hx
    · intro q hq
      rcases List.mem_append.1 hq with hq | hq
      · exact h.st q hq
      · simp at hq; subst hq; exact hat
theorem findD_prefix (d : Dt) (s : Int) (out xs : List Int) : out <+: findD d s out xs := by
  unfold findD
  split
  · exact List.prefix_refl _
  · exact List.prefix_append _ _
/-- All finds over tuples of places in src. -/
def findsD (d : Dt) (s : Int) (src : List Int) (pre : List (List Int)) (out : List Int) : List Int := pre.foldl (fun o is => findD d s o (pickD src is)) out
theorem findsD_snoc (d : Dt) (s : Int) (src : List Int) (pre : List (List Int)) (is : List Int) (out : List Int) : findsD d s src (pre ++ [is]) out = findD d s (findsD d s src pre out) (pickD src is) := by
  simp [findsD, List.foldl_append]
theorem pickD_prefix {src out is : List Int} (hp : src <+: out) (hx : ∀ x ∈ is, 0 ≤ x ∧ x < (src.length : Int)) : pickD out is = pickD src is := by
  unfold pickD
  refine List.map_congr_left fun i hi => ?_
  have h1 := hx i hi
  obtain ⟨t, rfl⟩ := hp
  simp [List.getD, List.getElem?_append_left (show i.toNat < src.length by omega)]
theorem finds_steps {d : Dt} {s : Int} {src : List Int} : ∀ {pre : List (List Int)} {out : List Int}, src <+: out → (∀ is ∈ pre, ∀ x ∈ is, 0 ≤ x ∧ x < (src.length : Int)) → findsD d s src pre out = stepsD d s pre out
  | [], _, _, _ => rfl
  | is :: pre, out, hp, hx => by
    have h1 : findD d s out (pickD src is) = stepD d s out is := by
      unfold findD stepD
      rw [pickD_prefix hp (hx is (by simp))]
    have h2 : src <+: findD d s out (pickD src is) := hp.trans (findD_prefix d s out _)
    show findsD d s src pre (findD d s out (pickD src is)) = stepsD d s pre (stepD d s out is)
    rw [finds_steps h2 (fun is' h => hx is' (by simp [h])), h1]
theorem stepsD_len (d : Dt) (s : Int) : ∀ (xss : List (List Int)) (out : List Int), out <+: stepsD d s xss out
  | [], out => List.prefix_refl _
  | xs :: xss, out => by
    have h1 : out <+: stepD d s out xs := by
      unfold stepD; split
      · exact List.prefix_refl _
      · exact List.prefix_append _ _
    exact h1.trans (stepsD_len d s xss _)
/-- The last place of each state in old: what 'some' keeps. -/
def asArr (n : Nat) (old : List Int) : Array Value := ((List.range n).map fun (q : Nat) => Value.int .i64 (asD old (q : Int))).toArray
theorem asArr_size (n : Nat) (old : List Int) : (asArr n old).size = n := by simp [asArr]
theorem asArr_nil (n : Nat) : asArr n [] = (List.replicate n (Value.int .i64 0)).toArray := by
  unfold asArr
  congr 1
  refine List.ext_getElem (by simp) fun i h1 h2 => by simp [asD]
theorem asD_snoc {old : List Int} {x q : Int} (hn : ¬ x ∈ old) : asD (old ++ [x]) q = if q = x then (old.length : Int) else asD old q := by
  unfold asD
  by_cases e : q = x
  · subst e
    rw [if_pos (by simp), if_pos rfl, List.idxOf_append, if_neg hn]
    simp
  · rw [if_neg e]
    by_cases hm : q ∈ old
    · rw [if_pos (by simp [hm]), if_pos hm, List.idxOf_append, if_pos hm]
    · rw [if_neg (by simp [hm, e]), if_neg hm]
theorem asArr_put {n off : Nat} {old : List Int} {x : Int} (hn : ¬ x ∈ old) (h : 0 ≤ x ∧ x < (n : Int)) (ho : off = x.toNat) : putCells (asArr n old) off (Value.int .i64 (old.length : Int)).cells.toList = asArr n (old ++ [x]) := by
  subst ho
  have hq : x.toNat < n := by omega
  have e : putCells (asArr n old) x.toNat (Value.int .i64 (old.length : Int)).cells.toList = (asArr n old).setIfInBounds x.toNat (.int .i64 (old.length : Int)) := putCells_one (by rw [asArr_size]; exact hq)
  rw [e]
  apply Array.ext
  · simp [asArr]
  · intro i h1 h2
    have hi : i < n := by rw [asArr_size] at h2; exact h2
    rw [Array.getElem_setIfInBounds (by rw [asArr_size]; exact hi)]
    by_cases e : x.toNat = i
    · subst e
      have e2 : ((x.toNat : Nat) : Int) = x := by omega
      simp [asArr, asD_snoc hn, show max x 0 = x by omega]
    · rw [if_neg e]
      have : ¬ ((i : Int) = x) := by omega
      simp [asArr, asD_snoc hn, this]
theorem asArr_get {n off : Nat} {old : List Int} {q : Int} (h : 0 ≤ q ∧ q < (n : Int)) (ho : off = q.toNat) : (asArr n old)[off]? = some (.int .i64 (asD old q)) := by
  subst ho
  have h1 : q.toNat < n := by omega
  simp [asArr, h1, show max q 0 = q by omega]
theorem made_one (v : Value) (n : Nat) : madeCells #[v] (n * 1) = (List.replicate n v).toArray := by
  apply Array.ext
  · simp [madeCells]
  · intro i h1 h2
    simp [madeCells, Nat.mod_one]
theorem made_bools (n : Nat) : madeCells #[.bool false] (n * 1) = marks n [] := by rw [made_one, marks_nil]
theorem made_ints (n : Nat) : madeCells #[.int .i64 0] (n * 1) = asArr n [] := by rw [made_one, asArr_nil]
section
variable {P : Program} {n : Nat} {c : Cx} {Q : Exit → Act → World → Prop} {l : KL} {hl : HL} {H : View} {ops : Array Oper} {rest : List Oper}
theorem KO_rowshape {v : Value} {e : TypeId} {sz k : Nat} {xs : List Value} (i : Nat) (hi : hl[i]? = some (row v e sz k xs)) (h : subsV v k → KO P n c ops Q rest l hl H) : KO P n c ops Q rest l hl H := by
  intro ρ w hm ho
  have hh : (row v e sz k xs).holds (heapOf w) := ho.own _ (List.mem_of_getElem? hi)
  refine h ?_ ρ w hm ho
  rcases hh.2 with ⟨rfl, rfl⟩ | ⟨g, cap, _, rfl, _⟩
  · exact .inl ⟨rfl, rfl⟩
  · exact .inr ⟨g, cap, rfl⟩
end
theorem States.ok {d : Dt} {out : List Int} (h : States d out) (hn : d.acc.length ≤ 1048576) : ∀ x ∈ out, i64ok x := by
  intro x hx
  have := h x hx
  simp only [i64ok]; omega
end Pal
