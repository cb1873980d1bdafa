/-
  Part of the proof: rules for walks, contracts of the functions that the statements reach, plain laws. Own work. No statement of the seat is proved here.
-/
import Derived.Test.YtknnjemehafecaaGreatDoorPart1
import Derived.Maps.RangeRun
import Derived.Shelf.SlSortCmp.NoneTotal
import Derived.Shelf.SlicesE.Compact
import Derived.Scope
import Derived.Shelf.SortG.Plain
import Derived.Shelf.SortG.SortNone
import Derived.Ground.SlsfProg
import Derived.Ground.SlgnProg
import Derived.Test.YtknnjemehafecaaGreatDoorProg
/-
  Building a deterministic automaton by two functions: digits of a place in a made block, calls of function values. Own work. No statement of the seat is proved here.
-/
namespace Pal
open Go
/-- The digits written so far, from the last to the first. -/
def digC (n nn p r : Nat) : Array Value := ((List.range nn).map fun i => Value.int .i64 (if nn - r ≤ i then (digs n nn p).getD i 0 else 0)).toArray
theorem digC_size (n nn p r : Nat) : (digC n nn p r).size = nn := by simp [digC]
theorem digC_made (n nn p : Nat) : madeCells #[.int .i64 0] (nn * 1) = digC n nn p 0 := by
  rw [made_one]
  unfold digC
  congr 1
  refine List.ext_getElem (by simp) fun i h1 h2 => ?_
  have : i < nn := by simpa using h1
  simp
  omega
theorem digC_all (n nn p : Nat) : (digC n nn p nn) = (ints (digs n nn p)).toArray := by
  unfold digC ints
  congr 1
  refine List.ext_getElem (by simp [digs_len]) fun i h1 h2 => ?_
  have h3 : i < (digs n nn p).length := by rw [digs_len]; simpa using h1
  simp [List.getD, h3]
theorem digC_put {n nn p r off : Nat} (h : r < nn) (ho : off = nn - 1 - r) : putCells (digC n nn p r) off (Value.int .i64 (((p / n ^ r : Nat) : Int).tmod (n : Int))).cells.toList = digC n nn p (r + 1) := by
  subst ho
  have e : putCells (digC n nn p r) (nn - 1 - r) (Value.int .i64 (((p / n ^ r : Nat) : Int).tmod (n : Int))).cells.toList = (digC n nn p r).setIfInBounds (nn - 1 - r) (.int .i64 (((p / n ^ r : Nat) : Int).tmod (n : Int))) := putCells_one (by rw [digC_size]; omega)
  rw [e]
  apply Array.ext
  · simp [digC]
  · intro i h1 h2
    have hi : i < nn := by rw [digC_size] at h2; exact h2
    have h3 : i < (digs n nn p).length := by rw [digs_len]; exact hi
    rw [Array.getElem_setIfInBounds (by rw [digC_size]; exact hi)]
    by_cases e : nn - 1 - r = i
    · subst e
      rw [if_pos rfl]
      have hd := digs_get (n := n) (k := nn) (p := p) (j := r) h
      have e1 : ((p / n ^ r : Nat) : Int).tmod (n : Int) = ((p / n ^ r % n : Nat) : Int) := (Int.ofNat_tmod _ _).symm
      simp only [digC, List.getElem_toArray, List.getElem_map, List.getElem_range]
      rw [if_pos (by omega), e1, ← hd]
      simp [List.getD, h3]
    · rw [if_neg e]
      simp only [digC, List.getElem_toArray, List.getElem_map, List.getElem_range]
      by_cases e2 : nn - r ≤ i
      · rw [if_pos e2, if_pos (by omega)]
      · rw [if_neg e2, if_neg (by omega)]
theorem digs_tups2 {n k p : Nat} (h : p < (tups n k).length) : (tups n k)[p] = digs n k p := by
  rcases Nat.eq_zero_or_pos n with rfl | hn
  · cases k with
    | zero =>
      have h0 : p = 0 := by rw [tups_len] at h; simpa using h
      subst h0; rfl
    | succ k => exfalso; rw [tups_len] at h; simp at h
  · exact digs_tups hn h
theorem pickD_take {out xs : List Int} {i : Nat} (hi : i < xs.length) (h : 0 ≤ xs[i] ∧ xs[i] < (out.length : Int)) : pickD out (xs.take (i + 1)) = pickD out (xs.take i) ++ [out[xs[i].toNat]'(by omega)] := by
  rw [List.take_succ_eq_append_getElem hi]
  have e : xs[i] = ((xs[i].toNat : Nat) : Int) := by omega
  have h2 : xs[i].toNat < out.length := by omega
  unfold pickD
  rw [List.map_append]
  congr 1
  simp [List.getD, h2]
theorem asArr_step {n off j : Nat} {out : List Int} (hnd : out.Nodup) (hj : j < out.length) (h : 0 ≤ out[j] ∧ out[j] < (n : Int)) (ho : off = out[j].toNat) : putCells (asArr n (out.take j)) off (Value.int .i64 (j : Int)).cells.toList = asArr n (out.take (j + 1)) := by
  have hnm : ¬ out[j] ∈ out.take j := by
    intro hm
    obtain ⟨k, hk, he⟩ := List.getElem_of_mem hm
    have hk2 : k < j := by rw [List.length_take] at hk; omega
    rw [List.getElem_take] at he
    have := (List.getElem_inj hnd).1 he
    omega
  rw [List.take_succ_eq_append_getElem hj]
  have hp := asArr_put (n := n) (off := off) (old := out.take j) hnm h ho
  rw [List.length_take, Nat.min_eq_left (by omega)] at hp
  exact hp
theorem trim_eq (d : Dt) : trimD d = ⟨d.ranks, (List.range (foundD d).length).map fun q => d.acc.getD ((foundD d).getD q 0).toNat false, (List.range d.ranks.length).map fun s => (tups (foundD d).length (d.ranks.getD s 0).toNat).map fun xs => asD (foundD d) (atM d (s : Int) (pickD (foundD d) xs))⟩ := by
  unfold trimD
  congr 1
  refine List.ext_getElem (by simp) fun i h1 h2 => ?_
  have h3 : i < (foundD d).length := by simpa using h1
  simp [List.getD, h3]
theorem asD_ok {out : List Int} {q : Int} (h : out.length ≤ 1048576) : i64ok (asD out q) := by
  unfold asD
  split
  · rename_i hm
    have := List.idxOf_lt_length_of_mem hm
    simp only [i64ok]; omega
  · simp [i64ok]
theorem quo_step {n p r : Nat} (h : p / n ^ r < 9223372036854775808) : IntKind.i64.wrap (((p / n ^ r : Nat) : Int).tdiv (n : Int)) = ((p / n ^ (r + 1) : Nat) : Int) := by
  have e1 : ((p / n ^ r : Nat) : Int).tdiv (n : Int) = ((p / n ^ r / n : Nat) : Int) := (Int.ofNat_tdiv _ _).symm
  have e2 : p / n ^ r / n = p / n ^ (r + 1) := by rw [Nat.div_div_eq_div_mul, Nat.pow_succ]
  rw [e1, e2]
  have h3 : p / n ^ (r + 1) ≤ p / n ^ r := by rw [← e2]; exact Nat.div_le_self _ _
  have h4 : (0 : Int) ≤ ((p / n ^ (r + 1) : Nat) : Int) := Int.natCast_nonneg _
  have h5 : ((p / n ^ (r + 1) : Nat) : Int) < 9223372036854775808 := Int.ofNat_lt.2 (Nat.lt_of_le_of_lt h3 h)
  exact wrap64 ⟨by generalize ((p / n ^ (r + 1) : Nat) : Int) = z at *; omega, by generalize ((p / n ^ (r + 1) : Nat) : Int) = z at *; omega⟩
section
variable {P : Program} {n : Nat} {c : Cx} {Q : Exit → Act → World → Prop} {l : KL} {hl : HL} {H : View} {ops : Array Oper} {rest : List Oper} {ty : TypeId}
theorem E_callV {g : Operand} {xs : List Operand} {ats : Array TypeId} {f : FuncId} {captured vs : List Value} {post : Value → View → Prop}
    (hcal : callable P f = true) (hg : ev l g = some (.func (.func f) #[] captured.toArray)) (hxs : evs l xs = some vs) (hS : Sat P f ([] ++ vs ++ captured).toArray H post) :
    Eff P l H [] (.call ⟨.value g, xs.toArray, ats⟩) ty fun v H' q => q = [] ∧ post v H' := by
  intro e w hk ho
  refine Upon.mono (E_call (first := []) (captured := captured) (post := fun v H' _ => post v H') hcal hg hxs (by simpa [Sat] using hS) e w hk ho) ?_
  rintro v w' ⟨H', q, ho', hp⟩
  exact ⟨H', [], ho'.sublist (List.nil_sublist q), rfl, hp⟩
theorem K_callV {d : Nat} {pos : String} {aft : Array Edge} {g : Operand} {xs : List Operand} {ats : Array TypeId} {f : FuncId} {captured vs : List Value} {post : Value → View → Prop}
    (hcal : callable P f = true) (hg : ev l g = some (.func (.func f) #[] captured.toArray)) (hxs : evs l xs = some vs) (hdn : Nat.blt d n = true) (hS : Sat P f ([] ++ vs ++ captured).toArray H post)
    (h : ∀ u H', VLe H H' → post u H' → KO P n c ops Q rest ((d, u) :: l) hl H') :
    KO P n c ops Q (⟨some d, .call ⟨.value g, xs.toArray, ats⟩, ty, pos, aft, none⟩ :: rest) l hl H :=
  KE [] hl (List.Perm.refl _) (E_callV hcal hg hxs hS) hdn (by rintro v H' q hle ⟨rfl, hp⟩; exact h v H' hle hp)
end
section
variable {P : Program} {n : Nat} {l : KL} {hl : HL} {H : View} {ol : List Oper} {i : Nat} {ty : TypeId} {keep : HL} {fin : Bool} {R : List Nat} {T : ST} {d : Nat} {pos : String} {aft : Array Edge} {g : Option (Nat × Bool)}
theorem D_callV {gx : Operand} {xs : List Operand} {ats : Array TypeId} {f : FuncId} {captured vs : List Value} {post : Value → View → Prop} (hi : nthO ol i = some ⟨some d, .call ⟨.value gx, xs.toArray, ats⟩, ty, pos, aft, g⟩)
    (hw : wlO ol l g = some true) (hcal : callable P f = true) (hg : ev l gx = some (.func (.func f) #[] captured.toArray)) (hxs : evs l xs = some vs) (hkp : memAll keep hl) (hS : Sat P f ([] ++ vs ++ captured).toArray H post)
    (h : ∀ u H', VLe H H' → post u H' → KD P n ol.toArray keep fin T R ((d, u) :: l) hl H') : KD P n ol.toArray keep fin T (i :: R) l hl H :=
  D_eff [] hl hi hw rfl (List.Perm.refl _) hkp.mem (E_callV hcal hg hxs hS) (by rintro v H' q hle ⟨rfl, hp⟩; exact h v H' hle hp)
end
/-! ### The automaton with rules -/
def rlD (d : Dt) (s : Nat) (xs : List Int) : Rl := ⟨(s : Int), xs, atM d (s : Int) xs⟩
def rulesTo (d : Dt) (s : Nat) : List Rl := (List.range s).flatMap (rulesD1 d)
theorem rulesTo_succ {d : Dt} {s : Nat} : rulesTo d (s + 1) = rulesTo d s ++ (tups d.acc.length (d.ranks.getD s 0).toNat).map (rlD d s) := by
  simp only [rulesTo, List.range_succ, List.flatMap_append, List.flatMap_singleton]
  rfl
def finTo (d : Dt) (q : Nat) : List Int := subL q fun s => d.acc.getD s false
theorem prefix_at {α : Type} {pre T : List α} {x : α} (h : (pre ++ [x]) <+: T) : ∃ hi : pre.length < T.length, T[pre.length] = x := by
  obtain ⟨t, rfl⟩ := h
  exact ⟨by simp, by simp⟩
theorem rulesTo_len {d : Dt} (h : DtOk d) (hn : d.acc.length ≤ 5) : ∀ {s : Nat}, s ≤ d.ranks.length → (rulesTo d s).length ≤ s * 25
  | 0, _ => by simp [rulesTo]
  | s + 1, hs => by
    have ih := rulesTo_len h hn (s := s) (by omega)
    rw [rulesTo_succ, List.length_append, List.length_map, tups_len]
    have h3 : (d.ranks.getD s 0).toNat ≤ 2 := by
      have := (ranksErr_ok h.rk).2 s (by omega)
      have e : d.ranks.getD s 0 = d.ranks[s] := by simp [List.getD, show s < d.ranks.length by omega]
      rw [e]; omega
    have h4 : d.acc.length ^ (d.ranks.getD s 0).toNat ≤ 5 ^ (d.ranks.getD s 0).toNat := Nat.pow_le_pow_left hn _
    have h5 : 5 ^ (d.ranks.getD s 0).toNat ≤ 5 ^ 2 := Nat.pow_le_pow_right (by decide) h3
    omega
theorem to_len25 {d : Dt} (h : DtOk d) (hn : d.acc.length ≤ 5) {k : Nat} (hk : k < d.to.length) : d.to[k].length ≤ 25 := by
  have hkr : k < d.ranks.length := by rw [← h.tl]; exact hk
  have h1 := h.w k hkr
  have e : d.to.getD k [] = d.to[k] := by simp [List.getD, hk]
  have h3 : (d.ranks.getD k 0).toNat ≤ 2 := by
    have := (ranksErr_ok h.rk).2 k hkr
    have e : d.ranks.getD k 0 = d.ranks[k] := by simp [List.getD, hkr]
    rw [e]; omega
  have h4 : d.acc.length ^ (d.ranks.getD k 0).toNat ≤ 5 ^ (d.ranks.getD k 0).toNat := Nat.pow_le_pow_left hn _
  have h5 : 5 ^ (d.ranks.getD k 0).toNat ≤ 5 ^ 2 := Nat.pow_le_pow_right (by decide) h3
  rw [e] at h1
  omega
theorem at_place {d : Dt} (h : DtOk d) {s i : Nat} {xs : List Int} (hs : s < d.ranks.length) (hi : i < (tups d.acc.length (d.ranks.getD s 0).toNat).length) (hx : (tups d.acc.length (d.ranks.getD s 0).toNat)[i] = xs) :
    ∃ (h1 : s < d.to.length) (h2 : i < d.to[s].length), atM d (s : Int) xs = d.to[s][i] := by
  have h1 : s < d.to.length := by rw [h.tl]; exact hs
  have e : d.to.getD s [] = d.to[s] := by simp [List.getD, h1]
  have h2 : i < d.to[s].length := by rw [← e, h.w s hs, ← tups_len]; exact hi
  refine ⟨h1, h2, ?_⟩
  have hp := tups_at hi
  rw [hx] at hp
  unfold atM
  rw [Int.toNat_natCast, e, hp, Int.toNat_natCast]
  simp [List.getD, h2]
theorem RepAu.nil (H : View) : RepAu H ⟨[], 0, [], []⟩ nilS nilS nilS :=
  ⟨⟨⟨none, 0, rfl, .inl ⟨rfl, rfl⟩⟩, by simp⟩, ⟨[], ⟨none, 0, rfl, .inl ⟨rfl, rfl⟩⟩, .nil⟩, ⟨⟨none, 0, rfl, .inl ⟨rfl, rfl⟩⟩, by simp⟩, by simp [i64ok], by simp, by simp, by simp⟩
theorem SatO.monoL {P : Program} {f : FuncId} {args : Array Value} {H : View} {p : HL} {post post' : Value → View → HL → Prop} (h : SatO P f args H p post) (hp : ∀ v H' q, VLe H H' → post v H' q → post' v H' q) : SatO P f args H p post' :=
  fun w hw => Calls.mono (h w hw) fun _ _ ⟨v, H', q, h1, h2, h3⟩ => ⟨v, H', q, h1, h2, hp _ _ _ h2.le h3⟩
theorem cons_trim {d : Dt} (h : DtOk d) (hn : d.acc.length ≤ 5) (hr : d.ranks.length ≤ 8) : ∃ st, consM (ntaM d) 64 = (0, some st) ∧ fromM (ntaM d) st = trimD d := by
  have h6 : (ntaM d).states ≤ 6 := by simp only [ntaM]; omega
  have he := ntaM_err h hn hr
  obtain ⟨E, o, hc, hall⟩ := cons_ways (ntaM d) 64 h6
  have hl := (refSubs_closed he h6).1.len h6
  rcases hall with ⟨h1, _⟩ | ⟨_, h1, _⟩ | ⟨_, _, h1, _⟩ | ⟨_, _, _, rfl, st, rfl, _, h2⟩
  · exact absurd he h1
  · omega
  · omega
  · exact ⟨st, hc, by rw [h2, from_trim h hn hr]⟩
theorem trim_small {d : Dt} (h : DtOk d) (hn : d.acc.length ≤ 5) (hr : d.ranks.length ≤ 8) : DtSmall (trimD d) := by
  rw [← from_trim h hn hr]
  exact refFrom_small (ntaM_err h hn hr) (by simp only [ntaM]; omega)
end Pal

/-
  Nondeterministic automata asx plain data: runs, their number, the least one. Own work. No statement of the seat is proved here.
-/
namespace Pal
open Go
/-! ### The order of slices -/
theorem cmpL_swap : ∀ xs ys : List Int, cmpL ys xs = - cmpL xs ys
  | [], [] => by simp [cmpL]
  | [], _ :: _ => by simp [cmpL]
  | _ :: _, [] => by simp [cmpL]
  | x :: xs, y :: ys => by
    simp only [cmpL]
    by_cases h1 : x < y
    · rw [if_pos h1, if_neg (by omega), if_pos h1]; rfl
    · by_cases h2 : y < x
      · rw [if_pos h2, if_neg h1, if_pos h2]
      · rw [if_neg h1, if_neg h2, if_neg h2, if_neg h1]
        exact cmpL_swap xs ys
theorem cmpL_trans : ∀ {xs ys zs : List Int}, cmpL xs ys < 0 → cmpL ys zs < 0 → cmpL xs zs < 0
  | [], [], zs, h, _ => by simp [cmpL] at h
  | [], y :: ys, [], _, h => by simp [cmpL] at h
  | [], y :: ys, z :: zs, _, _ => by simp [cmpL]
  | x :: xs, [], zs, h, _ => by simp [cmpL] at h
  | x :: xs, y :: ys, [], _, h => by simp [cmpL] at h
  | x :: xs, y :: ys, z :: zs, h1, h2 => by
    simp only [cmpL] at h1 h2 ⊢
    by_cases a1 : x < y
    · by_cases b1 : y < z
      · rw [if_pos (by omega)]; decide
      · rw [if_neg b1] at h2
        by_cases b2 : z < y
        · rw [if_pos b2] at h2; omega
        · rw [if_pos (by omega)]; decide
    · rw [if_neg a1] at h1
      by_cases a2 : y < x
      · rw [if_pos a2] at h1; omega
      · rw [if_neg a2] at h1
        have hxy : x = y := by omega
        subst hxy
        by_cases b1 : x < z
        · rw [if_pos b1]; decide
        · rw [if_neg b1] at h2 ⊢
          by_cases b2 : z < x
          · rw [if_pos b2] at h2; omega
          · rw [if_neg b2] at h2 ⊢
            exact cmpL_trans h1 h2
theorem cmpL_le_trans {xs ys zs : List Int} (h1 : cmpL xs ys ≤ 0) (h2 : cmpL ys zs ≤ 0) : cmpL xs zs ≤ 0 := by
  by_cases e1 : cmpL xs ys = 0
  · rw [cmpL_eq.1 e1]; exact h2
  · by_cases e2 : cmpL ys zs = 0
    · rw [← cmpL_eq.1 e2]; exact h1
    · have := cmpL_trans (show cmpL xs ys < 0 by omega) (show cmpL ys zs < 0 by omega); omega
/-- The least of a list of slices. -/
def IsLeast (m : List Int) (l : List (List Int)) : Prop := m ∈ l ∧ ∀ x ∈ l, cmpL m x ≤ 0
/-- What a search keeps that takes each one that is less. -/
def bestO (o : Option (List Int)) (x : List Int) : Option (List Int) := match o with
  | none => some x
  | some b => if cmpL x b < 0 then some x else some b
def lastI (r : List Int) : Int := r.getLast?.getD 0
mutual
/-- All runs of a tree. -/
def Tr.ways (rs : List Rl) : Tr → List (List Int)
  | .node s ts => (Tr.pairs rs ts).flatMap fun p => (rs.filter fun r => decide (r.sym = s ∧ r.args = p.2)).map fun r => p.1 ++ [r.to]
def Tr.pairs (rs : List Rl) : List Tr → List (List Int × List Int)
  | [] => [([], [])]
  | t :: ts => (Tr.ways rs t).flatMap fun r => (Tr.pairs rs ts).map fun d => (r ++ d.1, lastI r :: d.2)
end
mutual
/-- The number of runs that end in a state. -/
def Tr.cnt (rs : List Rl) : Tr → Int → Nat
  | .node s ts, q => ((rs.filter fun r => decide (r.sym = s ∧ r.to = q)).map fun r => Tr.cnts rs ts r.args).sum
def Tr.cnts (rs : List Rl) : List Tr → List Int → Nat
  | [], [] => 1
  | t :: ts, q :: qs => Tr.cnt rs t q * Tr.cnts rs ts qs
  | [], _ :: _ => 0
  | _ :: _, [] => 0
end
mutual
def Tr.least (rs : List Rl) : Tr → Int → Option (List Int)
  | .node s ts, q => (((rs.filter fun r => decide (r.sym = s ∧ r.to = q)).filterMap fun r => Tr.leasts rs ts r.args).map fun l => l ++ [q]).foldl bestO none
def Tr.leasts (rs : List Rl) : List Tr → List Int → Option (List Int)
  | [], [] => some []
  | t :: ts, q :: qs => match Tr.least rs t q, Tr.leasts rs ts qs with
    | some x, some y => some (x ++ y)
    | _, _ => none
  | [], _ :: _ => none
  | _ :: _, [] => none
end
/-- Nothing there and none, or the least. -/
def LeastO (o : Option (List Int)) (l : List (List Int)) : Prop := (l = [] ∧ o = none) ∨ ∃ m, o = some m ∧ IsLeast m l
end Pal

/-
  Natural numbers asx words below 2^32, the least word first. Own work. No statement of the seat is proved here.
-/
namespace Pal
open Go
def valW : List Nat → Nat
  | [] => 0
  | w :: ws => w + 4294967296 * valW ws
def WordsOk (ws : List Nat) : Prop := ∀ w ∈ ws, w < 4294967296
def Canon (ws : List Nat) : Prop := WordsOk ws ∧ ws.getLast? ≠ some 0
theorem valW_append (xs ys : List Nat) : valW (xs ++ ys) = valW xs + 4294967296 ^ xs.length * valW ys := by
  induction xs with
  | nil => simp [valW]
  | cons x xs ih =>
    simp only [List.cons_append, valW, ih, List.length_cons, Nat.pow_succ]
    rw [Nat.mul_add, Nat.add_assoc, Nat.mul_comm (4294967296 ^ xs.length) 4294967296, Nat.mul_assoc]
theorem valW_snoc (xs : List Nat) (y : Nat) : valW (xs ++ [y]) = valW xs + 4294967296 ^ xs.length * y := by
  rw [valW_append]; simp [valW]
theorem valW_zeros (n : Nat) : valW (List.replicate n 0) = 0 := by
  induction n with
  | zero => rfl
  | succ n ih => simp [List.replicate_succ, valW, ih]
theorem Canon.tail {w : Nat} {ws : List Nat} (h : Canon (w :: ws)) : Canon ws := by
  refine ⟨fun x hx => h.1 x (List.mem_cons_of_mem _ hx), ?_⟩
  cases ws with
  | nil => simp
  | cons x xs => have := h.2; rw [List.getLast?_cons_cons] at this; exact this
theorem Canon.take {ws : List Nat} (h : WordsOk ws) {k : Nat} (hk : k ≤ ws.length) (hl : k = 0 ∨ ∃ h : k - 1 < ws.length, ws[k - 1] ≠ 0) : Canon (ws.take k) := by
  refine ⟨fun x hx => h x (List.mem_of_mem_take hx), ?_⟩
  rcases hl with rfl | ⟨h1, h2⟩
  · simp
  · by_cases h0 : k = 0
    · subst h0; simp
    · rw [List.getLast?_eq_getElem?, List.length_take, Nat.min_eq_left hk, List.getElem?_take]
      rw [if_pos (by omega), List.getElem?_eq_getElem h1]
      simpa using h2
/-- The value of the first words; words that lack count asx zero. -/
def valN (ws : List Nat) (i : Nat) : Nat := valW ((List.range i).map fun j => ws.getD j 0)
theorem valN_succ (ws : List Nat) (i : Nat) : valN ws (i + 1) = valN ws i + 4294967296 ^ i * ws.getD i 0 := by
  unfold valN
  rw [range_map_succ, valW_snoc]
  simp
theorem valN_all {ws : List Nat} {i : Nat} (h : ws.length ≤ i) : valN ws i = valW ws := by
  have e : (List.range i).map (fun j => ws.getD j 0) = ws ++ List.replicate (i - ws.length) 0 := by
    refine List.ext_getElem (by simp; omega) fun j h1 h2 => ?_
    by_cases hj : j < ws.length
    · rw [List.getElem_append_left hj]; simp [List.getD, hj]
    · rw [List.getElem_append_right (by omega)]; simp [List.getD, hj]
  unfold valN
  rw [e, valW_append, valW_zeros, Nat.mul_zero, Nat.add_zero]
theorem valW_set : ∀ {ws : List Nat} {j : Nat} (h : j < ws.length) (v : Nat), valW (ws.set j v) + 4294967296 ^ j * ws[j] = valW ws + 4294967296 ^ j * v
  | w :: ws, 0, _, v => by simp [valW]; omega
  | w :: ws, j + 1, h, v => by
    have ih := valW_set (ws := ws) (j := j) (by simpa using h) v
    simp only [List.set_cons_succ, valW, List.getElem_cons_succ, Nat.pow_succ]
    have e1 : ∀ z, 4294967296 ^ j * 4294967296 * z = 4294967296 * (4294967296 ^ j * z) := fun z => by rw [Nat.mul_comm (4294967296 ^ j) 4294967296, Nat.mul_assoc]
    rw [e1, e1]
    omega
theorem mul_step {x y z c : Nat} (hx : x < 4294967296) (hy : y < 4294967296) (hz : z < 4294967296) (hc : c < 4294967296) : x * y + z + c < 18446744073709551616 ∧ (x * y + z + c) / 4294967296 < 4294967296 := by
  have h1 : x * y ≤ 4294967295 * 4294967295 := Nat.mul_le_mul (by omega) (by omega)
  omega
end Pal

/-
  Runs over the same rules in another order; the reference's loops over runs; accepted runs by state. Own work. No statement of the seat is proved here.
-/
namespace Pal
open Go
theorem IsLeast.congr {m : List Int} {l l' : List (List Int)} (h : ∀ x, x ∈ l ↔ x ∈ l') (hm : IsLeast m l) : IsLeast m l' := ⟨(h m).1 hm.1, fun x hx => hm.2 x ((h x).2 hx)⟩
theorem LeastO.congr {o : Option (List Int)} {l l' : List (List Int)} (h : ∀ x, x ∈ l ↔ x ∈ l') (ho : LeastO o l) : LeastO o l' := by
  rcases ho with ⟨h1, h2⟩ | ⟨m, h1, h2⟩
  · refine .inl ⟨?_, h2⟩
    rw [List.eq_nil_iff_forall_not_mem]
    intro x hx
    have := (h x).2 hx
    rw [h1] at this; cases this
  · exact .inr ⟨m, h1, h2.congr h⟩
end Pal

/-
  Numbers of package bignat in the heap; choices of the comparison. Own work. No statement of the seat is proved here.
-/
namespace Pal
open Go
def words (ws : List Nat) : List Value := ws.map fun (w : Nat) => Value.int .u32 (w : Int)
def UW (H : View) (v : Value) (ws : List Nat) : Prop := SlAt H v ws.length (words ws) ∧ WordsOk ws
theorem UW.mono {H H' : View} {v : Value} {ws : List Nat} (h : UW H v ws) (hle : VLe H H') : UW H' v ws := ⟨h.1.mono hle, h.2⟩
theorem UW.shape {H : View} {v : Value} {ws : List Nat} (h : UW H v ws) : ∃ a cap, v = .slice a ws.length cap := by
  obtain ⟨⟨a, cap, h1, _⟩, _⟩ := h
  exact ⟨a, cap, h1⟩
theorem UW.get {H : View} {a : Option Addr} {k cap : Nat} {ws : List Nat} (h : UW H (.slice a k cap) ws) {i : Nat} (hi : i < ws.length) : ∃ b off, a = some ⟨b, off, none⟩ ∧ At H b (off + i * 1) [.int .u32 (ws[i] : Int)] := by
  obtain ⟨⟨a', c', h1, h2⟩, _⟩ := h
  cases h1
  rcases h2 with ⟨h2, _⟩ | ⟨b, off, rfl, h2⟩
  · omega
  · have := h2.one (j := i) (v := .int .u32 (ws[i] : Int)) (by simp [words, hi])
    exact ⟨b, off, rfl, by simpa using this⟩
/-- A number. -/
def RepN (H : View) (v : Value) (n : Nat) : Prop := ∃ ws, Canon ws ∧ valW ws = n ∧ UW H v ws
theorem RepN.mono {H H' : View} {v : Value} {n : Nat} (h : RepN H v n) (hle : VLe H H') : RepN H' v n := by
  obtain ⟨ws, h1, h2, h3⟩ := h
  exact ⟨ws, h1, h2, h3.mono hle⟩
theorem RepN.zero (H : View) : RepN H (.slice none 0 0) 0 := ⟨[], ⟨(fun w hw => by cases hw), by simp⟩, rfl, ⟨none, 0, rfl, .inl ⟨rfl, rfl⟩⟩, (fun w hw => by cases hw)⟩
/-- The order of rules. -/
def ordR (r s : Rl) : Int := if r.sym < s.sym then -1 else if s.sym < r.sym then 1 else if cmpL r.args s.args ≠ 0 then cmpL r.args s.args else if r.to < s.to then -1 else if s.to < r.to then 1 else 0
theorem ordR_eq {r s : Rl} : ordR r s = 0 ↔ r = s := by
  unfold ordR
  obtain ⟨a, b, c⟩ := r
  obtain ⟨d, e, f⟩ := s
  simp only [Rl.mk.injEq]
  constructor
  · intro h
    split at h
    · cases h
    · split at h
      · cases h
      · split at h
        · rename_i h3; exact absurd h h3
        · rename_i h1 h2 h3
          split at h
          · cases h
          · split at h
            · cases h
            · rename_i h4 h5
              exact ⟨by omega, cmpL_eq.1 (Decidable.not_not.1 h3), by omega⟩
  · rintro ⟨rfl, rfl, rfl⟩
    simp [cmpL_self]
section
variable {P : Program} {l : KL} {ty : TypeId}
end
section
variable {P : Program} {n : Nat} {c : Cx} {Q : Exit → Act → World → Prop} {l : KL} {H : View} {ops : Array Oper} {rest : List Oper}
end
/-! ### Words one by one, with a carry -/
end Pal

/-
  Lists that rise strictly by an order; rules in their order; what sorting and compacting give. Own work. No statement of the seat is proved here.
-/
namespace Pal
open Go
/-- Two lists that rise strictly, of the same elements, are the same. -/
theorem rise_uniq {α : Type} {lt : α → α → Prop} (irr : ∀ x, ¬ lt x x) (tr : ∀ x y z, lt x y → lt y z → lt x z) :
    ∀ {xs ys : List α}, xs.Pairwise lt → ys.Pairwise lt → (∀ x, x ∈ xs ↔ x ∈ ys) → xs = ys
  | [], [], _, _, _ => rfl
  | [], y :: ys, _, _, h => by have := (h y).2 List.mem_cons_self; cases this
  | x :: xs, [], _, _, h => by have := (h x).1 List.mem_cons_self; cases this
  | x :: xs, y :: ys, h1, h2, h => by
    have g1 := List.pairwise_cons.1 h1
    have g2 := List.pairwise_cons.1 h2
    have hxy : x = y := by
      rcases List.mem_cons.1 ((h x).1 List.mem_cons_self) with e | hx
      · exact e
      · rcases List.mem_cons.1 ((h y).2 List.mem_cons_self) with e | hy
        · exact e.symm
        · exact absurd (tr _ _ _ (g1.1 y hy) (g2.1 x hx)) (irr x)
    subst hxy
    have : ∀ z, z ∈ xs ↔ z ∈ ys := fun z => by
      constructor
      · intro hm
        rcases List.mem_cons.1 ((h z).1 (List.mem_cons_of_mem _ hm)) with e | e
        · subst e; exact absurd (g1.1 _ hm) (irr _)
        · exact e
      · intro hm
        rcases List.mem_cons.1 ((h z).2 (List.mem_cons_of_mem _ hm)) with e | e
        · subst e; exact absurd (g2.1 _ hm) (irr _)
        · exact e
    rw [rise_uniq irr tr g1.2 g2.2 this]

/-! ### Neighbours alike dropped -/
def compF {α : Type} (eq : α → α → Bool) : Option α → List α → List α
  | _, [] => []
  | none, x :: r => x :: compF eq (some x) r
  | some p, x :: r => if eq x p = true then compF eq (some x) r else x :: compF eq (some x) r
theorem compF_append {α : Type} (eq : α → α → Bool) : ∀ (o : Option α) (xs ys : List α), compF eq o (xs ++ ys) = compF eq o xs ++ compF eq (match xs.getLast? with | some x => some x | none => o) ys
  | _, [], _ => by simp [compF]
  | none, x :: r, ys => by
    simp only [List.cons_append, compF, compF_append eq (some x) r ys]
    cases r with
    | nil => simp
    | cons y r => simp [List.getLast?_eq_some_getLast]
  | some p, x :: r, ys => by
    simp only [List.cons_append, compF]
    rw [compF_append eq (some x) r ys]
    have : (match (x :: r).getLast? with | some x => some x | none => some p) = (match r.getLast? with | some y => some y | none => some x) := by
      cases r with
      | nil => simp
      | cons y r => simp [List.getLast?_eq_some_getLast]
    rw [this]
    split <;> simp
theorem compF_sublist {α : Type} (eq : α → α → Bool) : ∀ (o : Option α) (xs : List α), List.Sublist (compF eq o xs) xs
  | _, [] => by simp [compF]
  | none, x :: r => by simp only [compF]; exact (compF_sublist eq (some x) r).cons_cons x
  | some p, x :: r => by
    simp only [compF]
    split
    · exact (compF_sublist eq (some x) r).cons x
    · exact (compF_sublist eq (some x) r).cons_cons x
/-- Over a list that falls nowhere: it rises strictly; each element has its like there. -/
theorem compF_rise {α : Type} {eq : α → α → Bool} {lt : α → α → Prop} (heq : ∀ x y, eq x y = true → ∀ z, lt z x ↔ lt z y) (htr : ∀ x y z, lt x y → ¬ lt z y → lt x z) (hne : ∀ x y, eq x y = false → ¬ lt x y → lt y x)
    : ∀ (o : Option α) (xs : List α), xs.Pairwise (fun x y => ¬ lt y x) → (∀ p, o = some p → ∀ x ∈ xs, ¬ lt x p) → (compF eq o xs).Pairwise lt ∧ (∀ p, o = some p → ∀ x ∈ compF eq o xs, lt p x)
  | _, [], _, _ => by simp [compF]
  | none, x :: r, h, _ => by
    have g := List.pairwise_cons.1 h
    obtain ⟨h1, h2⟩ := compF_rise heq htr hne (some x) r g.2 (fun p hp y hy => by cases hp; exact g.1 y hy)
    simp only [compF]
    exact ⟨List.pairwise_cons.2 ⟨fun y hy => h2 x rfl y hy, h1⟩, fun p hp => by cases hp⟩
  | some p, x :: r, h, ho => by
    have g := List.pairwise_cons.1 h
    obtain ⟨h1, h2⟩ := compF_rise heq htr hne (some x) r g.2 (fun q hq y hy => by cases hq; exact g.1 y hy)
    simp only [compF]
    split
    · rename_i he
      refine ⟨h1, fun q hq y hy => ?_⟩
      cases hq
      have hxy := h2 x rfl y hy
      have hpx : ¬ lt x p := ho p rfl x List.mem_cons_self
      -- x is like p
      by_cases hlt : lt p y
      · exact hlt
      · exact absurd (htr x y p hxy hlt) hpx
    · rename_i he
      have he' : eq x p = false := by simpa using he
      have hpx : lt p x := hne x p he' (ho p rfl x List.mem_cons_self)
      refine ⟨List.pairwise_cons.2 ⟨fun y hy => h2 x rfl y hy, h1⟩, fun q hq y hy => ?_⟩
      cases hq
      rcases List.mem_cons.1 hy with e | e
      · subst e; exact hpx
      · exact htr p x y hpx (g.1 y ((compF_sublist eq (some x) r).subset e))
theorem compF_mem {α β : Type} {eq : α → α → Bool} {f : α → β} (heq : ∀ x y, eq x y = true → f x = f y) :
    ∀ (o : Option α) (xs : List α) (x : α), x ∈ xs → (∃ y ∈ compF eq o xs, f y = f x) ∨ ∃ p, o = some p ∧ f p = f x
  | _, [], x, h => by cases h
  | none, a :: r, x, h => by
    simp only [compF]
    rcases List.mem_cons.1 h with e | e
    · exact .inl ⟨a, List.mem_cons_self, by rw [e]⟩
    · rcases compF_mem heq (some a) r x e with ⟨y, hy, e⟩ | ⟨p, hp, e⟩
      · exact .inl ⟨y, List.mem_cons_of_mem _ hy, e⟩
      · cases hp; exact .inl ⟨_, List.mem_cons_self, e⟩
  | some p, a :: r, x, h => by
    simp only [compF]
    split
    · rename_i he
      rcases List.mem_cons.1 h with e | e
      · subst e; exact .inr ⟨p, rfl, (heq _ _ he).symm⟩
      · rcases compF_mem heq (some a) r x e with ⟨y, hy, e⟩ | ⟨q, hq, e⟩
        · exact .inl ⟨y, hy, e⟩
        · cases hq; exact .inr ⟨p, rfl, (heq _ _ he).symm.trans e⟩
    · rcases List.mem_cons.1 h with e | e
      · exact .inl ⟨a, List.mem_cons_self, by rw [e]⟩
      · rcases compF_mem heq (some a) r x e with ⟨y, hy, e⟩ | ⟨q, hq, e⟩
        · exact .inl ⟨y, List.mem_cons_of_mem _ hy, e⟩
        · cases hq; exact .inl ⟨_, List.mem_cons_self, e⟩

/-! ### Rules -/
def ltR (r s : Rl) : Prop := ordR r s < 0
instance (r s : Rl) : Decidable (ltR r s) := by unfold ltR; infer_instance
theorem ordR_lt {r s : Rl} : ordR r s < 0 ↔ r.sym < s.sym ∨ (r.sym = s.sym ∧ (cmpL r.args s.args < 0 ∨ (r.args = s.args ∧ r.to < s.to))) := by
  unfold ordR
  by_cases h1 : r.sym < s.sym
  · simp [h1]
  · by_cases h2 : s.sym < r.sym
    · rw [if_neg h1, if_pos h2]
      constructor
      · intro h; omega
      · rintro (h | ⟨h, _⟩) <;> omega
    · have e : r.sym = s.sym := by omega
      rw [if_neg h1, if_neg h2]
      by_cases h3 : cmpL r.args s.args = 0
      · have e3 := cmpL_eq.1 h3
        rw [if_neg (by simpa using h3)]
        by_cases h4 : r.to < s.to
        · rw [if_pos h4]; exact ⟨fun _ => .inr ⟨e, .inr ⟨e3, h4⟩⟩, fun _ => by decide⟩
        · rw [if_neg h4]
          constructor
          · intro h; split at h <;> omega
          · rintro (h | ⟨_, h | ⟨_, h⟩⟩) <;> omega
      · rw [if_pos h3]
        constructor
        · intro h; exact .inr ⟨e, .inl h⟩
        · rintro (h | ⟨_, h | ⟨h, _⟩⟩)
          · omega
          · exact h
          · exact absurd (cmpL_eq.2 h) h3
theorem ordR_gt {r s : Rl} : 0 < ordR r s ↔ ordR s r < 0 := by
  rw [ordR_lt]
  unfold ordR
  by_cases h1 : r.sym < s.sym
  · rw [if_pos h1]
    constructor
    · intro h; omega
    · rintro (h | ⟨h, _⟩) <;> omega
  · by_cases h2 : s.sym < r.sym
    · rw [if_neg h1, if_pos h2]; exact ⟨fun _ => .inl h2, fun _ => by decide⟩
    · have e : r.sym = s.sym := by omega
      rw [if_neg h1, if_neg h2]
      have hs := cmpL_swap r.args s.args
      by_cases h3 : cmpL r.args s.args = 0
      · have e3 := cmpL_eq.1 h3
        rw [if_neg (by simpa using h3)]
        by_cases h4 : r.to < s.to
        · rw [if_pos h4]
          constructor
          · intro h; omega
          · rintro (h | ⟨_, h | ⟨_, h⟩⟩) <;> omega
        · rw [if_neg h4]
          by_cases h5 : s.to < r.to
          · rw [if_pos h5]; exact ⟨fun _ => .inr ⟨e.symm, .inr ⟨e3.symm, h5⟩⟩, fun _ => by decide⟩
          · rw [if_neg h5]
            constructor
            · intro h; omega
            · rintro (h | ⟨_, h | ⟨_, h⟩⟩) <;> omega
      · rw [if_pos h3]
        constructor
        · intro h; exact .inr ⟨e.symm, .inl (by omega)⟩
        · rintro (h | ⟨_, h | ⟨h, _⟩⟩)
          · omega
          · omega
          · exact absurd (cmpL_eq.2 h.symm) h3
theorem ltR_irr (r : Rl) : ¬ ltR r r := by unfold ltR; rw [ordR_eq.2 rfl]; omega
theorem ltR_trans (r s t : Rl) (h1 : ltR r s) (h2 : ltR s t) : ltR r t := by
  unfold ltR at *
  rw [ordR_lt] at *
  rcases h1 with h1 | ⟨e1, h1⟩
  · rcases h2 with h2 | ⟨e2, _⟩
    · exact .inl (by omega)
    · exact .inl (by omega)
  · rcases h2 with h2 | ⟨e2, h2⟩
    · exact .inl (by omega)
    · refine .inr ⟨by omega, ?_⟩
      rcases h1 with h1 | ⟨a1, h1⟩
      · rcases h2 with h2 | ⟨a2, _⟩
        · exact .inl (cmpL_trans h1 h2)
        · exact .inl (by rw [← a2]; exact h1)
      · rcases h2 with h2 | ⟨a2, h2⟩
        · exact .inl (by rw [a1]; exact h2)
        · exact .inr ⟨a1.trans a2, by omega⟩
theorem ltR_total (r s : Rl) : ltR r s ∨ r = s ∨ ltR s r := by
  unfold ltR
  rcases Int.lt_trichotomy (ordR r s) 0 with h | h | h
  · exact .inl h
  · exact .inr (.inl (ordR_eq.1 h))
  · exact .inr (.inr (ordR_gt.1 h))
theorem ltR_htr (r s t : Rl) (h1 : ltR r s) (h2 : ¬ ltR t s) : ltR r t := by
  rcases ltR_total s t with h | h | h
  · exact ltR_trans _ _ _ h1 h
  · subst h; exact h1
  · exact absurd h h2
def insO (r : Rl) : List Rl → List Rl
  | [] => [r]
  | x :: xs => if ordR r x < 0 then r :: x :: xs else if ordR r x = 0 then x :: xs else x :: insO r xs
/-- The rules in their order, each once. -/
def sortO (rs : List Rl) : List Rl := rs.foldr insO []
theorem insO_mem {r x : Rl} : ∀ {l : List Rl}, x ∈ insO r l ↔ x = r ∨ x ∈ l
  | [] => by simp [insO]
  | y :: l => by
    simp only [insO]
    split
    · simp
    · split
      · rename_i h; have := ordR_eq.1 h; subst this; simp
      · rw [List.mem_cons, insO_mem (l := l), List.mem_cons]
        constructor
        · rintro (h | h | h) <;> simp [h]
        · rintro (h | h | h) <;> simp [h]
theorem insO_rise {r : Rl} : ∀ {l : List Rl}, l.Pairwise ltR → (insO r l).Pairwise ltR
  | [], _ => by simp [insO]
  | y :: l, h => by
    have g := List.pairwise_cons.1 h
    simp only [insO]
    split
    · rename_i h1
      refine List.pairwise_cons.2 ⟨fun z hz => ?_, h⟩
      rcases List.mem_cons.1 hz with e | e
      · subst e; exact h1
      · exact ltR_trans _ _ _ h1 (g.1 z e)
    · split
      · exact h
      · rename_i h1 h2
        refine List.pairwise_cons.2 ⟨fun z hz => ?_, insO_rise g.2⟩
        rcases insO_mem.1 hz with e | e
        · subst e
          rcases ltR_total y z with h | h | h
          · exact h
          · subst h; exact absurd (ordR_eq.2 rfl) h2
          · exact absurd h h1
        · exact g.1 z e
theorem sortO_mem {rs : List Rl} {x : Rl} : x ∈ sortO rs ↔ x ∈ rs := by
  induction rs with
  | nil => simp [sortO]
  | cons r rs ih =>
    show x ∈ insO r (sortO rs) ↔ _
    rw [insO_mem, ih, List.mem_cons]
theorem sortO_rise (rs : List Rl) : (sortO rs).Pairwise ltR := by
  induction rs with
  | nil => exact List.Pairwise.nil
  | cons r rs ih => exact insO_rise ih
theorem sortO_uniq {rs l : List Rl} (h1 : l.Pairwise ltR) (h2 : ∀ x, x ∈ l ↔ x ∈ rs) : l = sortO rs :=
  rise_uniq ltR_irr ltR_trans h1 (sortO_rise rs) fun x => (h2 x).trans sortO_mem.symm
theorem sortO_congr {rs ss : List Rl} (h : ∀ x, x ∈ rs ↔ x ∈ ss) : sortO rs = sortO ss := sortO_uniq (sortO_rise rs) fun x => sortO_mem.trans (h x)
theorem sortO_len (rs : List Rl) : (sortO rs).length ≤ rs.length := by
  induction rs with
  | nil => simp [sortO]
  | cons r rs ih =>
    have : ∀ (l : List Rl), (insO r l).length ≤ l.length + 1 := by
      intro l
      induction l with
      | nil => simp [insO]
      | cons y l ih =>
        simp only [insO]
        split
        · simp
        · split
          · simp
          · simp only [List.length_cons]; omega
    show (insO r (sortO rs)).length ≤ _
    have := this (sortO rs)
    simp only [List.length_cons]; omega
/-! the reference's order, where rules of a symbol take asx many operands -/
def insI (x : Int) : List Int → List Int
  | [] => [x]
  | y :: l => if x < y then x :: y :: l else if x = y then y :: l else y :: insI x l
def sortI (xs : List Int) : List Int := xs.foldr insI []
theorem insI_mem {r x : Int} : ∀ {l : List Int}, x ∈ insI r l ↔ x = r ∨ x ∈ l
  | [] => by simp [insI]
  | y :: l => by
    simp only [insI]
    split
    · simp
    · split
      · rename_i h; subst h; simp
      · rw [List.mem_cons, insI_mem (l := l), List.mem_cons]
        constructor
        · rintro (h | h | h) <;> simp [h]
        · rintro (h | h | h) <;> simp [h]
theorem insI_rise {r : Int} : ∀ {l : List Int}, l.Pairwise (· < ·) → (insI r l).Pairwise (· < ·)
  | [], _ => by simp [insI]
  | y :: l, h => by
    have g := List.pairwise_cons.1 h
    simp only [insI]
    split
    · rename_i h1
      refine List.pairwise_cons.2 ⟨fun z hz => ?_, h⟩
      rcases List.mem_cons.1 hz with e | e
      · omega
      · have := g.1 z e; omega
    · split
      · exact h
      · rename_i h1 h2
        refine List.pairwise_cons.2 ⟨fun z hz => ?_, insI_rise g.2⟩
        rcases insI_mem.1 hz with e | e
        · omega
        · exact g.1 z e
theorem sortI_mem {rs : List Int} {x : Int} : x ∈ sortI rs ↔ x ∈ rs := by
  induction rs with
  | nil => simp [sortI]
  | cons r rs ih =>
    show x ∈ insI r (sortI rs) ↔ _
    rw [insI_mem, ih, List.mem_cons]
theorem sortI_rise (rs : List Int) : (sortI rs).Pairwise (· < ·) := by
  induction rs with
  | nil => exact List.Pairwise.nil
  | cons r rs ih => exact insI_rise ih
theorem sortI_uniq {rs l : List Int} (h1 : l.Pairwise (· < ·)) (h2 : ∀ x, x ∈ l ↔ x ∈ rs) : l = sortI rs :=
  rise_uniq (fun x => by omega) (fun x y z => by omega) h1 (sortI_rise rs) fun x => (h2 x).trans sortI_mem.symm
theorem sortI_congr {rs ss : List Int} (h : ∀ x, x ∈ rs ↔ x ∈ ss) : sortI rs = sortI ss := sortI_uniq (sortI_rise rs) fun x => sortI_mem.trans (h x)
theorem sortI_len (rs : List Int) : (sortI rs).length ≤ rs.length := by
  induction rs with
  | nil => simp [sortI]
  | cons r rs ih =>
    have : ∀ (l : List Int), (insI r l).length ≤ l.length + 1 := by
      intro l
      induction l with
      | nil => simp [insI]
      | cons y l ih =>
        simp only [insI]
        split
        · simp
        · split
          · simp
          · simp only [List.length_cons]; omega
    show (insI r (sortI rs)).length ≤ _
    have := this (sortI rs)
    simp only [List.length_cons]; omega
/-- The normal form. -/
def normA (a : Au) : Au := ⟨a.ranks, a.states, sortO a.rules, sortI a.final⟩
theorem normA_ok {a : Au} (h : AuOk a) : AuOk (normA a) :=
  ⟨h.rl, h.rk, h.st, Nat.le_trans (sortO_len _) h.ul, fun r hr => h.ru r (sortO_mem.1 hr), fun q hq => h.fi q (sortI_mem.1 hq)⟩
/-- What sorting and then dropping like neighbours gives. -/
theorem comp_ints {xs : List Int} (h : xs.Pairwise (· ≤ ·)) : compF (fun x y => decide (x = y)) none xs = sortI xs := by
  refine sortI_uniq (compF_rise (lt := (· < ·)) (fun x y h z => by simp at h; subst h; rfl) (fun x y z => by omega) (fun x y h1 h2 => by simp at h1; omega) none xs (h.imp fun h => by omega) (fun p hp => by cases hp)).1 fun x => ⟨fun hx => (compF_sublist _ none xs).subset hx, fun hx => ?_⟩
  rcases compF_mem (f := fun x => x) (eq := fun x y => decide (x = y)) (fun x y h => by simpa using h) none xs x hx with ⟨y, hy, e⟩ | ⟨p, hp, _⟩
  · subst e; exact hy
  · cases hp
def eqP (x y : Rl × Value) : Bool := decide (ordR x.1 y.1 = 0)
theorem comp_rules {ps : List (Rl × Value)} (h : ps.Pairwise fun x y => ¬ ltR y.1 x.1) : (compF eqP none ps).map (·.1) = sortO (ps.map (·.1)) := by
  refine sortO_uniq ?_ fun x => ?_
  · rw [List.pairwise_map]
    exact (compF_rise (lt := fun x y : Rl × Value => ltR x.1 y.1) (fun x y h z => by simp only [eqP, decide_eq_true_eq] at h; rw [ordR_eq.1 h]) (fun x y z => ltR_htr _ _ _) (fun x y h1 h2 => by
      simp only [eqP, decide_eq_false_iff_not] at h1
      rcases ltR_total x.1 y.1 with h | h | h
      · exact absurd h h2
      · exact absurd (ordR_eq.2 h) h1
      · exact h) none ps h (fun p hp => by cases hp)).1
  · simp only [List.mem_map]
    constructor
    · rintro ⟨p, hp, rfl⟩; exact ⟨p, (compF_sublist _ none ps).subset hp, rfl⟩
    · rintro ⟨p, hp, rfl⟩
      rcases compF_mem (f := fun x : Rl × Value => x.1) (eq := eqP) (fun x y h => by simp only [eqP, decide_eq_true_eq] at h; exact ordR_eq.1 h) none ps p hp with ⟨y, hy, e⟩ | ⟨p, hp, _⟩
      · exact ⟨y, hy, e⟩
      · cases hp
end Pal

/-
  Maps with ints asx keys, told by their entries in the order in which they were laid: one block. Lookups, stores, ranges. Own work. No statement of the seat is proved here.
-/
namespace Pal
open Go
abbrev KVs := List (Int × Value)
def entO (p : (Int × Value) × Nat) : MapEntry := ⟨.int .i64 p.1.1, p.1.2, p.2⟩
def mkEs (kvs : KVs) : Array MapEntry := (kvs.zipIdx.map entO).toArray
def mapOb (kvs : KVs) : Obj := .map (mkEs kvs) kvs.length
def findI (q : Int) : KVs → Nat → Option (Nat × Value)
  | [], _ => none
  | p :: r, j => if q = p.1 then some (j, p.2) else findI q r (j + 1)
def lookI (kvs : KVs) (q : Int) : Option Value := (findI q kvs 0).map (·.2)
theorem findI_some {q : Int} : ∀ {kvs : KVs} {j i : Nat} {v : Value}, findI q kvs j = some (i, v) → j ≤ i ∧ kvs[i - j]? = some (q, v) ∧ ∀ k, k < i - j → ∀ p, kvs[k]? = some p → p.1 ≠ q
  | [], _, _, _, h => by simp [findI] at h
  | p :: r, j, i, v, h => by
    simp only [findI] at h
    by_cases e : q = p.1
    · rw [if_pos e] at h
      cases h
      refine ⟨Nat.le_refl _, ?_, fun k hk => by omega⟩
      rw [Nat.sub_self]
      simp [e]
    · rw [if_neg e] at h
      obtain ⟨h1, h2, h3⟩ := findI_some h
      refine ⟨by omega, ?_, fun k hk p' hp' => ?_⟩
      · rw [show i - j = (i - (j + 1)) + 1 by omega]; simpa using h2
      · cases k with
        | zero => simp at hp'; subst hp'; exact fun e' => e e'.symm
        | succ k => exact h3 k (by omega) p' (by simpa using hp')
theorem findI_none {q : Int} : ∀ {kvs : KVs} {j : Nat}, findI q kvs j = none → ∀ p ∈ kvs, p.1 ≠ q
  | [], _, _, p, hp => by cases hp
  | a :: r, j, h, p, hp => by
    simp only [findI] at h
    by_cases e : q = a.1
    · rw [if_pos e] at h; cases h
    · rw [if_neg e] at h
      rcases List.mem_cons.1 hp with h' | h'
      · subst h'; exact fun e' => e e'.symm
      · exact findI_none h p h'
theorem lookI_none {kvs : KVs} {q : Int} (h : lookI kvs q = none) : ∀ p ∈ kvs, p.1 ≠ q := by
  unfold lookI at h
  cases hf : findI q kvs 0 with
  | none => exact findI_none hf
  | some p => rw [hf] at h; cases h
theorem lookI_some {kvs : KVs} {q : Int} {v : Value} (h : lookI kvs q = some v) : (q, v) ∈ kvs := by
  unfold lookI at h
  cases hf : findI q kvs 0 with
  | none => rw [hf] at h; cases h
  | some p =>
    obtain ⟨i, u⟩ := p
    rw [hf] at h
    cases h
    obtain ⟨_, h2, _⟩ := findI_some hf
    exact List.mem_of_getElem? h2
theorem lookI_isSome {kvs : KVs} {q : Int} : (lookI kvs q).isSome = true ↔ q ∈ kvs.map (·.1) := by
  cases h : lookI kvs q with
  | none =>
    simp only [Option.isSome_none, Bool.false_eq_true, false_iff]
    intro hm
    obtain ⟨p, hp, e⟩ := List.mem_map.1 hm
    exact lookI_none h p hp e
  | some v =>
    simp only [Option.isSome_some, true_iff]
    exact List.mem_map.2 ⟨_, lookI_some h, rfl⟩
theorem lookI_mem {kvs : KVs} {q : Int} {v : Value} (hn : (kvs.map (·.1)).Nodup) (h : (q, v) ∈ kvs) : lookI kvs q = some v := by
  cases hl : lookI kvs q with
  | none => exact absurd rfl (lookI_none hl _ h)
  | some u =>
    have := lookI_some hl
    have e := nodup_map_inj hn h this rfl
    cases e; rfl
/-- A store. -/
def setI (kvs : KVs) (q : Int) (v : Value) : KVs := match findI q kvs 0 with
  | some (i, _) => kvs.set i (q, v)
  | none => kvs ++ [(q, v)]
theorem setI_keys {kvs : KVs} (q : Int) (v : Value) (hn : (kvs.map (·.1)).Nodup) : ((setI kvs q v).map (·.1)).Nodup := by
  unfold setI
  cases h : findI q kvs 0 with
  | none =>
    simp only
    rw [List.map_append, List.nodup_append]
    refine ⟨hn, by simp, ?_⟩
    intro a ha b hb e
    simp at hb
    obtain ⟨p, hp, e2⟩ := List.mem_map.1 ha
    exact findI_none h p hp (by rw [e2, e, hb])
  | some p =>
    obtain ⟨i, u⟩ := p
    obtain ⟨_, h2, _⟩ := findI_some h
    simp only
    have : (kvs.set i (q, v)).map (·.1) = kvs.map (·.1) := by
      rw [List.map_set]
      apply List.ext_getElem?
      intro k
      rw [List.getElem?_set]
      split
      · rename_i e
        subst e
        simp only [Nat.sub_zero] at h2
        rw [List.getElem?_map, h2]
        have : i < kvs.length := (List.getElem?_eq_some_iff.1 h2).1
        simp [this]
      · rfl
    rw [this]; exact hn
theorem setI_mem {kvs : KVs} {q : Int} {v : Value} (hn : (kvs.map (·.1)).Nodup) {p : Int × Value} : p ∈ setI kvs q v ↔ p = (q, v) ∨ (p.1 ≠ q ∧ p ∈ kvs) := by
  unfold setI
  cases h : findI q kvs 0 with
  | none =>
    simp only [List.mem_append, List.mem_singleton]
    constructor
    · rintro (h1 | h1)
      · exact .inr ⟨findI_none h p h1, h1⟩
      · exact .inl h1
    · rintro (h1 | h1)
      · exact .inr h1
      · exact .inl h1.2
  | some r =>
    obtain ⟨i, u⟩ := r
    obtain ⟨_, h2, h3⟩ := findI_some h
    simp only [Nat.sub_zero] at h2
    have hi : i < kvs.length := (List.getElem?_eq_some_iff.1 h2).1
    have hge : kvs[i] = (q, u) := by simpa [hi] using h2
    simp only
    constructor
    · intro hm
      obtain ⟨k, hk, e⟩ := List.getElem_of_mem hm
      rw [List.getElem_set] at e
      split at e
      · exact .inl e.symm
      · rename_i hne
        have hk' : k < kvs.length := by simpa using hk
        refine .inr ⟨fun e2 => hne ?_, e ▸ List.getElem_mem _⟩
        have a1 : (kvs.map (·.1))[k]'(by simpa using hk') = (kvs.map (·.1))[i]'(by simpa using hi) := by
          simp only [List.getElem_map]
          rw [e, e2, hge]
        have hpw := List.pairwise_iff_getElem.1 hn
        rcases Nat.lt_trichotomy i k with h | h | h
        · exact absurd a1.symm (hpw i k (by simpa using hi) (by simpa using hk') h)
        · exact h
        · exact absurd a1 (hpw k i (by simpa using hk') (by simpa using hi) h)
    · rintro (h1 | ⟨h1, h2'⟩)
      · subst h1
        exact List.mem_iff_getElem.2 ⟨i, by simpa using hi, by simp⟩
      · obtain ⟨k, hk, e⟩ := List.getElem_of_mem h2'
        refine List.mem_iff_getElem.2 ⟨k, by simpa using hk, ?_⟩
        rw [List.getElem_set_ne]
        · exact e
        · intro e2
          subst e2
          rw [hge] at e
          rw [← e] at h1
          exact h1 rfl
theorem lookI_setI {kvs : KVs} {q q' : Int} {v : Value} (hn : (kvs.map (·.1)).Nodup) : lookI (setI kvs q v) q' = if q' = q then some v else lookI kvs q' := by
  by_cases e : q' = q
  · rw [if_pos e, e]
    exact lookI_mem (setI_keys q v hn) ((setI_mem hn).2 (.inl rfl))
  · rw [if_neg e]
    cases h : lookI kvs q' with
    | none =>
      cases h2 : lookI (setI kvs q v) q' with
      | none => rfl
      | some u =>
        rcases (setI_mem hn).1 (lookI_some h2) with h3 | ⟨_, h3⟩
        · cases h3; exact absurd rfl e
        · exact absurd rfl (lookI_none h _ h3)
    | some u => exact lookI_mem (setI_keys q v hn) ((setI_mem hn).2 (.inr ⟨e, lookI_some h⟩))
section
variable {P : Program} {n : Nat} {c : Cx} {Q : Exit → Act → World → Prop} {l : KL} {hl : HL} {H : View} {keep : HL} {fin : Bool}
variable {ol : List Oper} {ops : Array Oper} {rest : List Oper} {R : List Nat} {T : ST} {d i : Nat} {ty : TypeId} {pos : String} {aft : Array Edge} {g : Option (Nat × Bool)}
/-- In the view, or owned. -/
def MapAt (H : View) (hl : HL) (b : Nat) (kvs : KVs) : Prop := H b = some (mapOb kvs) ∨ blk b (mapOb kvs) ∈ hl
theorem MapAt.heap {b : Nat} {kvs : KVs} (h : MapAt H hl b kvs) {w : World} (hw : Has w H hl) : w.heap[b]? = some (mapOb kvs) := by
  rcases h with h | h
  · exact hw.has _ _ h
  · exact hw.own _ h
end
end Pal

/-
  Owned blocks lent to the view for one call; sorted rows. Own work. No statement of the seat is proved here.
-/
namespace Pal
open Go
/-- What is owned is shown for one call that only reads it. -/
theorem SatO.lend {P : Program} {f : FuncId} {args : Array Value} {H : View} {hl : HL} (p : HL) {post : Value → HL → Prop}
    (h : ∀ H2, VLe H H2 → (∀ e ∈ p, e.holds H2) → SatO P f args H2 hl (fun v _ q => post v q)) : SatO P f args H (hl ++ p) (fun v H' q => H' = H ∧ ∃ q', q = q' ++ p ∧ post v q') := by
  intro w hw
  have hnd := hw.nd
  rw [feet_append, List.nodup_append] at hnd
  obtain ⟨nd1, nd2, ndx⟩ := hnd
  let H2 : View := fun b => if b ∈ feet p then w.heap[b]? else H b
  have hHn : ∀ b ∈ feet p, H b = none := fun b hb => hw.foot b (by rw [feet_append]; exact List.mem_append_right _ hb)
  have hle : VLe H H2 := by
    intro b o ho
    have : b ∉ feet p := fun hm => by rw [hHn b hm] at ho; cases ho
    simp only [H2, this, if_false]; exact ho
  have hown : ∀ e ∈ p, e.holds H2 := by
    intro e he
    refine e.loc _ _ (fun b hb => ?_) (hw.own e (List.mem_append_right _ he))
    have : b ∈ feet p := mem_feet.2 ⟨e, he, hb⟩
    simp only [H2, this, if_true]; rfl
  have hw2 : Has w H2 hl := by
    refine ⟨fun b o hb => ?_, fun e he => hw.own e (List.mem_append_left _ he), fun b hb => ?_, nd1⟩
    · by_cases hm : b ∈ feet p
      · simpa only [H2, hm, if_true] using hb
      · simp only [H2, hm, if_false] at hb; exact hw.has b o hb
    · have hm : b ∉ feet p := fun hm => ndx b hb b hm rfl
      simp only [H2, hm, if_false]
      exact hw.foot b (by rw [feet_append]; exact List.mem_append_left _ hb)
  refine Calls.mono (h H2 hle hown w hw2) ?_
  rintro e w' ⟨v, H', q, rfl, k, hpost⟩
  have hlt : ∀ b ∈ feet p, b < w.heap.size := fun b hb => hw.lt (by rw [feet_append]; exact List.mem_append_right _ hb)
  have hsame : ∀ b ∈ feet p, w'.heap[b]? = w.heap[b]? := fun b hb => k.old b (hlt b hb) (fun hm => ndx b hm b hb rfl)
  have hsome : ∀ b ∈ feet p, ∃ o, H' b = some o := by
    intro b hb
    have hb2 : H2 b = w.heap[b]? := by simp only [H2, hb, if_true]
    have := Array.getElem?_eq_getElem (hlt b hb)
    exact ⟨_, k.le b _ (by show H2 b = _; rw [hb2, this])⟩
  refine ⟨v, H, q ++ p, rfl, ⟨k.os, k.tape, k.output, k.drawn, k.size, ?_, fun _ _ _ => rfl, fun _ _ h => h, ?_, ?_, ?_, ?_⟩, rfl, q, rfl, hpost⟩
  · intro b hb hp
    exact k.old b hb (fun hm => hp (by show b ∈ feet (hl ++ p); rw [feet_append]; exact List.mem_append_left _ hm))
  · intro b o hb
    exact k.has b o (k.le b o (hle b o hb))
  · intro e he
    rcases List.mem_append.1 he with he | he
    · exact k.own e he
    · exact e.loc _ _ (fun b hb => hsame b (mem_feet.2 ⟨e, he, hb⟩)) (hw.own e (List.mem_append_right _ he))
  · intro b hb
    rw [feet_append] at hb
    show H b = none ∧ (w.heap.size ≤ b ∨ b ∈ feet (hl ++ p))
    rcases List.mem_append.1 hb with hb | hb
    · obtain ⟨h2, h3⟩ := k.foot b hb
      refine ⟨?_, ?_⟩
      · cases hH : H b with
        | none => rfl
        | some o => have := k.le b o (hle b o hH); rw [h2] at this; cases this
      · rcases h3 with h3 | h3
        · exact .inl h3
        · exact .inr (by rw [feet_append]; exact List.mem_append_left _ h3)
    · exact ⟨hHn b hb, .inr (by rw [feet_append]; exact List.mem_append_right _ hb)⟩
  · rw [feet_append, List.nodup_append]
    refine ⟨k.nd, nd2, ?_⟩
    intro b hb b' hb' e
    subst e
    obtain ⟨o, ho⟩ := hsome b hb'
    rw [(k.foot b hb).1] at ho; cases ho
theorem row_view {v : Value} {e : TypeId} {sz k : Nat} {xs : List Value} {H : View} (h : (row v e sz k xs).holds H) : rowAt H v k xs ∧ ∃ a cap, v = .slice a k cap ∧ k ≤ cap := by
  obtain ⟨h1, h2⟩ := h
  rcases h2 with ⟨rfl, rfl⟩ | ⟨g, cap, cur, rfl, hg, hk, hc, hs, ht⟩
  · exact ⟨.inl ⟨rfl, rfl, List.eq_nil_of_length_eq_zero (by simpa using h1)⟩, none, 0, rfl, Nat.le_refl _⟩
  · refine ⟨.inr ⟨g, cap, rfl, cur, e, _, hg, fun j u hj => ?_⟩, _, _, rfl, hk⟩
    rw [← ht, List.getElem?_take] at hj
    split at hj
    · simpa using hj
    · cases hj

/-! ### A row, sorted in place -/
theorem putRow_at {α : Type} [Inhabited α] {enc : α → Value} {w : World} {b : Nat} {d : Array α} {cur : Array Value} {e : TypeId} {fz : Nat × Nat} (hb : w.heap[b]? = some (.cells cur e fz)) :
    (Sort.putRow enc w b 0 d).heap[b]? = some (.cells (Sort.putCells enc 0 d cur) e fz) ∧ (∀ k, k ≠ b → (Sort.putRow enc w b 0 d).heap[k]? = w.heap[k]?) ∧ (Sort.putRow enc w b 0 d).heap.size = w.heap.size := by
  unfold Sort.putRow Sort.mapBlock
  refine ⟨?_, fun k hk => ?_, ?_⟩
  · simp [Array.getElem?_modify, hb, Sort.onCells]
  · have : b ≠ k := fun e => hk e.symm
    simp [Array.getElem?_modify, this]
  · simp
theorem putCells_take {α : Type} [Inhabited α] {enc : α → Value} {d : Array α} {cur : Array Value} (h : d.size ≤ cur.size) : (Sort.putCells enc 0 d cur).toList.take d.size = d.toList.map enc ∧ (Sort.putCells enc 0 d cur).size = cur.size := by
  refine ⟨?_, by simp [Sort.putCells]⟩
  apply List.ext_getElem?
  intro i
  rw [List.getElem?_take, List.getElem?_map]
  by_cases hi : i < d.size
  · have h2 : i < cur.size := by omega
    simp [hi, Sort.putCells, h2]
  · simp [hi]
theorem ok_sorted {α : Type} [Inhabited α] {enc : α → Value} {w : World} {H : View} {g k cap sz n : Nat} {cur : Array Value} {e : TypeId} {d : Array α} {os : Array Obj} {xs : List Value} (hw : Has w H [row (.slice (some ⟨g, 0, none⟩) k cap) e sz k xs])
    (hg : w.heap[g]? = some (.cells cur e (0, 0))) (hk : k ≤ cap) (hc : cap ≤ maxLen) (hs : cur.size = cap * sz) (hd : d.size = k * sz) :
    Ok ⟨w, H, feet [row (.slice (some ⟨g, 0, none⟩) k cap) e sz k xs]⟩ (Sort.grow (Sort.putRow enc (Sort.ahead w n) g 0 d) os) H [row (.slice (some ⟨g, 0, none⟩) k cap) e sz k (d.toList.map enc)] := by
  have hle : d.size ≤ cur.size := by rw [hd, hs]; exact Nat.mul_le_mul_right _ hk
  obtain ⟨p1, p2, p3⟩ := putRow_at (enc := enc) (w := Sort.ahead w n) (d := d) hg
  have hlt : g < w.heap.size := lt_of_heap hg
  have hsz : w.heap.size ≤ (Sort.grow (Sort.putRow enc (Sort.ahead w n) g 0 d) os).heap.size := by
    rw [Sort.size_grow, p3]; exact Nat.le_add_right _ _
  refine ok1 hw rfl rfl rfl (Nat.le_add_right _ _) hsz ?_ ?_ (fun b hb => .inl hb) (by simp [row, rowFoot])
  · intro j hj hn
    have hne : j ≠ g := fun e => hn (by subst e; simp [row, rowFoot])
    rw [Sort.heap_grow_old _ _ (by rw [p3]; exact hj), p2 j hne]; rfl
  · obtain ⟨t1, t2⟩ := putCells_take (enc := enc) hle
    refine ⟨by simp [hd], .inr ⟨g, cap, _, rfl, ?_, hk, hc, by rw [t2, hs], by rw [← hd]; exact t1⟩⟩
    show (Sort.grow _ os).heap[g]? = _
    rw [Sort.heap_grow_old _ _ (by rw [p3]; exact hlt), p1]
theorem holds_of_row {α : Type} [Inhabited α] {enc : α → Value} {w : World} {g : Nat} {cur : Array Value} {e : TypeId} {d : Array α} (hg : w.heap[g]? = some (.cells cur e (0, 0))) (hc : cur.toList.take d.size = d.toList.map enc) : Sort.Holds enc w g 0 d := by
  intro j hj
  have h1 : (cur.toList.take d.size)[j]? = (d.toList.map enc)[j]? := by rw [hc]
  rw [List.getElem?_take, if_pos hj, List.getElem?_map] at h1
  refine ⟨?_, ?_⟩
  · simp only [World.cell?, hg, Nat.zero_add]
    have : (d[j]!) = d[j] := getElem!_pos d j hj
    rw [this]
    simpa [hj] using h1
  · simp [World.frozen?, hg]
/-! ### slices.SortFunc at rules -/
/-- A rule and its slice's value. -/
def RVok (H : View) (p : Rl × Value) : Prop := SI H p.2 p.1.args ∧ p.1.args.length ≤ 1099511627776 ∧ i64ok p.1.sym ∧ i64ok p.1.to
theorem RVok.mono {H H' : View} {p : Rl × Value} (h : RVok H p) (hle : VLe H H') : RVok H' p := ⟨h.1.mono hle, h.2⟩
def cellRV (p : Rl × Value) : List Value := [.int .i64 p.1.sym, p.2, .int .i64 p.1.to]
def cellsP (ps : List (Rl × Value)) : List Value := ps.flatMap cellRV
theorem cellsP_len (ps : List (Rl × Value)) : (cellsP ps).length = ps.length * 3 := by
  induction ps with
  | nil => rfl
  | cons p ps ih => simp only [cellsP, List.flatMap_cons, List.length_append] at *; rw [ih]; simp [cellRV]; omega
theorem flatK_toList {α : Type} [Inhabited α] {enc : α → List Value} {k : Nat} (hk : ∀ x, (enc x).length = k) (d : Array α) : (Go.Sort.flatK enc k d).toList = d.toList.flatMap enc := by
  have hlen : ∀ l : List α, (l.flatMap enc).length = l.length * k := by
    intro l
    induction l with
    | nil => simp
    | cons a l ih => simp only [List.flatMap_cons, List.length_append, ih, hk, List.length_cons, Nat.succ_mul]; omega
  have hget : ∀ (l : List α) (t : Nat), t < l.length * k → ∀ (a : α), l[t / k]? = some a → (l.flatMap enc)[t]? = (enc a)[t % k]? := by
    intro l
    induction l with
    | nil => intro t h; simp at h
    | cons b l ih =>
      intro t h a ha
      rw [List.flatMap_cons, List.getElem?_append, hk]
      by_cases ht : t < k
      · rw [if_pos ht]
        rw [Nat.div_eq_of_lt ht] at ha
        simp at ha
        rw [Nat.mod_eq_of_lt ht, ha]
      · rw [if_neg ht]
        have h0 : 0 < k := by
          rcases Nat.eq_zero_or_pos k with e | e
          · subst e; simp at h
          · exact e
        have e1 : t / k = (t - k) / k + 1 := by rw [Nat.div_eq_sub_div h0 (by omega)]
        have e2 : t % k = (t - k) % k := by rw [Nat.mod_eq_sub_mod (by omega)]
        rw [e1] at ha
        rw [e2]
        refine ih (t - k) (by simp only [List.length_cons, Nat.succ_mul] at h; omega) a (by simpa using ha)
  apply List.ext_getElem?
  intro t
  by_cases ht : t < d.size * k
  · have h0 : 0 < k := by
      rcases Nat.eq_zero_or_pos k with e | e
      · subst e; simp at ht
      · exact e
    have hq : t / k < d.size := by rw [Nat.div_lt_iff_lt_mul h0]; exact ht
    rw [hget d.toList t (by simpa using ht) d[t / k] (by simp [hq])]
    have hs : t < (Go.Sort.flatK enc k d).size := by rw [Go.Sort.size_flatK]; exact ht
    have hg := Go.Sort.get_flatK enc k d t ht
    rw [getElem!_pos _ t hs] at hg
    rw [Array.getElem?_toList, Array.getElem?_eq_getElem hs, hg, getElem!_pos d _ hq]
    have hm : t % k < (enc d[t / k]).length := by rw [hk]; exact Nat.mod_lt _ h0
    rw [getElem!_pos (enc d[t / k]) (t % k) hm, List.getElem?_eq_getElem hm]
  · rw [List.getElem?_eq_none (by simp [Go.Sort.size_flatK]; omega), List.getElem?_eq_none (by rw [hlen]; simp; omega)]
section
variable {P : Program} {ρ : Go.Shelf.Ren}
open Go.Proofs Go.Shelf Go.Sort
theorem sortRules (L : SlLaysF0.n6 P ρ) (aE : ∀ w, (isAgg (ρ.t 24)).run P w = .ok true w) (zE : ∀ w, (Go.sizeOf (ρ.t 24)).run P w = .ok 3 w) (g : Nat) (hg : callable P g = true) (H : View) (e : TypeId)
    (hord : ∀ (r s : Rl) (v u : Value), RVok H (r, v) → RVok H (s, u) → Sat P g #[.agg #[.int .i64 r.sym, v, .int .i64 r.to], .agg #[.int .i64 s.sym, u, .int .i64 s.to]] H (fun x _ => x = .int .i64 (ordR r s)))
    (ps : List (Rl × Value)) (hps : ∀ p ∈ ps, RVok H p) (v : Value) (hlen : ps.length < 4611686018427387904) :
    SatO P (ρ.f 6) #[v, .func (.func g) #[] #[]] H [row v e 3 ps.length (cellsP ps)] (fun r H' q => r = .tuple #[] ∧ H' = H ∧ ∃ ps', ps'.Perm ps ∧ ps'.Pairwise (fun x y => ¬ ltR y.1 x.1) ∧ q = [row v e 3 ps'.length (cellsP ps')]) := by
  intro w hw
  obtain ⟨hl1, hrow⟩ := hw.own _ (List.mem_cons_self ..)
  rcases hrow with ⟨rfl, h0⟩ | ⟨gb, cap, cur, rfl, hgb, hk, hc, hs, ht⟩
  · have hnil : ps = [] := List.eq_nil_of_length_eq_zero h0
    subst hnil
    refine Calls.mono (AnyF.slices_SortFunc_none L none 0 _ w) ?_
    rintro e w' ⟨rfl, rfl⟩
    exact ⟨_, H, _, rfl, hw.ok, rfl, rfl, [], List.Perm.refl _, List.Pairwise.nil, rfl⟩
  · let A := { p : Rl × Value // RVok H p }
    let enc : A → List Value := fun x => cellRV x.1
    have dflt : RVok H (⟨0, [], 0⟩, nilS) := ⟨⟨⟨none, 0, rfl, .inl ⟨rfl, rfl⟩⟩, fun x hx => by cases hx⟩, by simp, (by unfold i64ok; decide), (by unfold i64ok; decide)⟩
    haveI : Inhabited A := ⟨⟨_, dflt⟩⟩
    let d : Array A := (ps.attach.map fun p => (⟨p.1, hps p.1 p.2⟩ : A)).toArray
    have hdl : d.toList.map (·.1) = ps := by simp only [d, List.map_map, Function.comp_def]; exact List.attach_map_subtype_val ps
    have hds : d.size = ps.length := by simp [d]
    let cf : A → A → Int := fun x y => ordR x.1.1 y.1.1
    have hencl : ∀ x : A, (enc x).length = 3 := fun x => rfl
    have hfl : ∀ l : List A, l.flatMap enc = cellsP (l.map (·.1)) := by
      intro l
      simp only [cellsP, List.flatMap_map]
      rfl
    have hlt : ∀ x y : A, ltOf cf x y = true ↔ ltR x.1.1 y.1.1 := fun x y => by simp [ltOf, cf, ltR]
    have hO : SWO (ltOf cf) := by
      refine ⟨fun x => ?_, fun x y z h1 h2 => ?_, fun x y z h1 h2 => ?_⟩
      · cases h : ltOf cf x x with
        | false => rfl
        | true => exact absurd ((hlt x x).1 h) (ltR_irr _)
      · exact (hlt x z).2 (ltR_trans _ _ _ ((hlt x y).1 h1) ((hlt y z).1 h2))
      · cases h : ltOf cf x z with
        | false => rfl
        | true =>
          have n1 : ¬ ltR x.1.1 y.1.1 := fun hh => by rw [(hlt x y).2 hh] at h1; cases h1
          have n2 : ¬ ltR y.1.1 z.1.1 := fun hh => by rw [(hlt y z).2 hh] at h2; cases h2
          exact absurd (ltR_htr _ _ _ ((hlt x z).1 h) n2) n1
    have hblk : gb < w.heap.size := lt_of_heap hgb
    have hFl : (Go.Sort.flatK enc 3 d).toList = cellsP ps := by rw [flatK_toList hencl, hfl, hdl]
    have hH : HoldsK enc 3 w gb 0 d := by
      refine holds_of_row hgb ?_
      rw [Go.Sort.size_flatK, hds, ht, hFl]; simp
    have hold : ∀ (w2 : World), (∀ b o, H b = some o → w2.heap[b]? = some o) → Has w2 H [] := fun w2 h => ⟨h, fun _ he => (by cases he), fun _ hb => (by simp [feet] at hb), by simp [feet]⟩
    have hHgb : H gb = none := hw.foot gb (by simp [feet, row, rowFoot])
    have hcmp : CmpLays P g #[] enc 3 cf gb 0 d.size w := by
      intro m os dk hdk x y
      have hs2 : dk.size = d.size := hdk
      obtain ⟨p1, p2, p3⟩ := putRow_at (enc := id) (w := Sort.ahead w m) (d := Go.Sort.flatK enc 3 dk) hgb
      have hhas : ∀ b o, H b = some o → (sortWorldK enc 3 w gb 0 m dk os).heap[b]? = some o := by
        intro b o hb
        have hne : b ≠ gb := fun e => by subst e; rw [hHgb] at hb; cases hb
        have h1 := hw.has b o hb
        show (Sort.grow (Sort.putRow id (Sort.ahead w m) gb 0 _) os).heap[b]? = _
        rw [Sort.heap_grow_old _ _ (by rw [p3]; exact lt_of_heap h1), p2 b hne]; exact h1
      have hcall := hord x.1.1 y.1.1 x.1.2 y.1.2 x.2 y.2 _ (hold _ hhas)
      refine Calls.mono hcall ?_
      rintro e w' ⟨v, H', q, rfl, hok, rfl⟩
      refine ⟨rfl, w'.drawn - (sortWorldK enc 3 w gb 0 m dk os).drawn, w'.heap.extract (sortWorldK enc 3 w gb 0 m dk os).heap.size w'.heap.size, ?_⟩
      generalize sortWorldK enc 3 w gb 0 m dk os = W at hok ⊢
      have e1 : w'.heap = W.heap ++ w'.heap.extract W.heap.size w'.heap.size := by
        apply Array.ext_getElem?
        intro k
        rw [Array.getElem?_append]
        have hsz := hok.size
        dsimp only at hsz
        by_cases hk : k < W.heap.size
        · rw [if_pos hk]; exact hok.old k hk (by simp [feet])
        · rw [if_neg hk, Array.getElem?_extract]
          have : Nat.min w'.heap.size w'.heap.size = w'.heap.size := Nat.min_self _
          by_cases hk2 : k < w'.heap.size
          · rw [if_pos (by omega)]; congr 1; omega
          · rw [if_neg (by omega), Array.getElem?_eq_none (by omega)]
      have e2 := hok.os
      have e3 := hok.tape
      have e4 := hok.output
      have e5 := hok.drawn
      dsimp only at e2 e3 e4 e5
      unfold Sort.grow World.drewN
      cases w'
      cases W
      simp only at e1 e2 e3 e4 e5 ⊢
      subst e2 e3 e4
      simp only [World.mk.injEq, true_and, and_true]
      exact ⟨e1, by omega⟩
    have hrun := AnyQ.slices_SortFunc (α := A) L 3 aE zE enc hencl (fun x u hu => by
      obtain ⟨a, cp, he⟩ := x.2.1.shape
      simp only [enc, cellRV, List.mem_cons, List.not_mem_nil, or_false] at hu
      rcases hu with rfl | rfl | rfl
      · rfl
      · rw [he]; rfl
      · rfl) cf hO g #[] gb 0 cap d w (callable.run hg) hcmp hH hblk (by omega)
    rw [hds] at hrun
    refine Calls.mono hrun ?_
    rintro e w' ⟨rfl, d', n, os, hperm, hsort, rfl⟩
    obtain ⟨hsz, _, hpm⟩ := hperm
    have hext : ∀ (x : Array A), x.size = ps.length → x.extract 0 ps.length = x := by
      intro x hx; rw [← hx]; exact Array.extract_size
    rw [hext d' (hsz.trans hds), hext d hds] at hpm
    have hF' : (Go.Sort.flatK enc 3 d').toList = cellsP (d'.toList.map (·.1)) := by rw [flatK_toList hencl, hfl]
    have hlen' : (d'.toList.map (·.1)).length = ps.length := by simp [hsz, hds]
    refine ⟨_, H, _, rfl, ok_sorted (enc := id) (d := Go.Sort.flatK enc 3 d') (n := n) (os := os) hw hgb hk hc hs (by rw [Go.Sort.size_flatK, hsz, hds]), rfl, rfl, d'.toList.map (·.1), ?_, ?_, ?_⟩
    · rw [← hdl]; exact hpm.map _
    · rw [List.pairwise_map, List.pairwise_iff_getElem]
      intro i j hi hj hij hlt2
      have hi2 : i < d'.size := by simpa using hi
      have hj2 : j < d'.size := by simpa using hj
      have hq := hsort i j (Nat.zero_le _) hij (by rw [← hds, ← hsz]; exact hj2)
      rw [getElem!_pos d' j hj2, getElem!_pos d' i hi2] at hq
      rw [(hlt _ _).2 (by simpa using hlt2)] at hq
      cases hq
    · rw [hlen', List.map_id, hF']
end
end Pal

/-
  Rows opened and shut, a slice's end cleared, neighbours alike dropped in place. Own work. No statement of the seat is proved here.
-/
namespace Pal
open Go
section
variable {P : Program} {n : Nat} {c : Cx} {Q : Exit → Act → World → Prop} {l : KL} {hl : HL} {H : View} {ops : Array Oper} {rest : List Oper}
theorem Ok.openRow {w : World} {v : Value} {e : TypeId} {sz k : Nat} {xs : List Value} (h : Ok c w H (row v e sz k xs :: hl)) :
    (v = nilS ∧ k = 0 ∧ xs = []) ∨ ∃ g cap tail, v = .slice (some ⟨g, 0, none⟩) k cap ∧ k ≤ cap ∧ cap ≤ maxLen ∧ xs.length = k * sz ∧ (xs ++ tail).length = cap * sz ∧ Ok c w H (blk g (.cells (xs ++ tail).toArray e (0, 0)) :: hl) := by
  obtain ⟨h1, h2⟩ := h.own _ List.mem_cons_self
  rcases h2 with ⟨rfl, rfl⟩ | ⟨g, cap, cur, rfl, hg, hk, hc, hs, ht⟩
  · exact .inl ⟨rfl, rfl, List.eq_nil_of_length_eq_zero (by simpa using h1)⟩
  · have hcur : xs ++ cur.toList.drop (k * sz) = cur.toList := by rw [← ht]; exact List.take_append_drop _ _
    refine .inr ⟨g, cap, cur.toList.drop (k * sz), rfl, hk, hc, h1, by rw [hcur]; simpa using hs, ?_⟩
    rw [hcur]
    refine ⟨h.os, h.tape, h.output, h.drawn, h.size, h.old, h.vold, h.le, h.has, ?_, fun b hb => h.foot b (by simpa [feet, row, rowFoot, blk] using hb), by simpa [feet, row, rowFoot, blk] using h.nd⟩
    intro x hx
    rcases List.mem_cons.1 hx with rfl | hx
    · exact hg
    · exact h.own x (List.mem_cons_of_mem _ hx)
theorem Ok.shutRow {w : World} {e : TypeId} {sz k g cap : Nat} {xs : List Value} {cur : Array Value} (hk : k ≤ cap) (hc : cap ≤ maxLen) (hx : xs.length = k * sz) (hs : cur.size = cap * sz) (ht : cur.toList.take (k * sz) = xs)
    (h : Ok c w H (blk g (.cells cur e (0, 0)) :: hl)) : Ok c w H (row (.slice (some ⟨g, 0, none⟩) k cap) e sz k xs :: hl) := by
  refine ⟨h.os, h.tape, h.output, h.drawn, h.size, h.old, h.vold, h.le, h.has, ?_, fun b hb => h.foot b (by simpa [feet, row, rowFoot, blk] using hb), by simpa [feet, row, rowFoot, blk] using h.nd⟩
  intro x hx2
  rcases List.mem_cons.1 hx2 with rfl | hx2
  · exact ⟨hx, .inr ⟨g, cap, cur, rfl, h.own _ List.mem_cons_self, hk, hc, hs, ht⟩⟩
  · exact h.own x (List.mem_cons_of_mem _ hx2)
theorem KC_openRow {code : Code} {v : Value} {e : TypeId} {sz k : Nat} {xs : List Value} (h0 : v = nilS → k = 0 → xs = [] → KC P n c code Q l hl H)
    (h1 : ∀ g cap tail, v = .slice (some ⟨g, 0, none⟩) k cap → k ≤ cap → cap ≤ maxLen → xs.length = k * sz → (xs ++ tail).length = cap * sz → KC P n c code Q l (blk g (.cells (xs ++ tail).toArray e (0, 0)) :: hl) H) :
    KC P n c code Q l (row v e sz k xs :: hl) H := by
  intro ρ w hm ho
  rcases ho.openRow with ⟨a, b, d⟩ | ⟨g, cap, tail, a, b, d, e1, f, k1⟩
  · exact h0 a b d ρ w hm (ho.sublist (List.sublist_cons_self _ _))
  · exact h1 g cap tail a b d e1 f ρ w hm k1
theorem KQ_shutRow {x : Exit} {e : TypeId} {sz k g cap : Nat} {xs : List Value} {cur : Array Value} (hk : k ≤ cap) (hc : cap ≤ maxLen) (hx : xs.length = k * sz) (hs : cur.size = cap * sz) (ht : cur.toList.take (k * sz) = xs)
    (h : KQ n c Q x l (row (.slice (some ⟨g, 0, none⟩) k cap) e sz k xs :: hl) H) : KQ n c Q x l (blk g (.cells cur e (0, 0)) :: hl) H :=
  fun ρ w hm ho => h ρ w hm (ho.shutRow hk hc hx hs ht)
theorem E_clear {x : Operand} {t e ty : TypeId} {b off k m cap : Nat} {cur : Array Value} {E : TypeId} {z : Value} (hS : slcOk P t e) (hz : zeroOk P e z) (hz1 : z.cells.all Value.oneCell' = true)
    (hx : ev l x = some (.slice (some ⟨b, off, none⟩) k cap)) (hzs : z.cells.size = m) (hfit : off + k * m ≤ cur.size) :
    Eff P l H [blk b (.cells cur E (0, 0))] (.call ⟨.builtin .clear, #[x], #[t]⟩) ty fun _ H' q => ∃ en', q = [en'] ∧ (H' = H ∧ ∃ cur', en' = blk b (.cells cur' E (0, 0)) ∧ cur'.size = cur.size ∧ cur'.toList.take off = cur.toList.take off) := by
  intro e' w hk ho
  have hb : w.heap[b]? = some (.cells cur E (0, 0)) := ho.own (blk b (.cells cur E (0, 0))) (by simp)
  have hS' : P.underlying t = some (.slice e) := hS
  by_cases hk0 : k = 0
  · subst hk0
    have hrun : (ex e' (.call ⟨.builtin .clear, #[x], #[t]⟩) ty).run P w = .ok (.value (.tuple #[])) w := by
      simp [ex, execOp, resolve, invoke, builtin, hk x _ hx, Builtin.clear_, run_underlying hS']
    rw [hrun]
    exact ⟨H, _, ho.ok, _, rfl, rfl, cur, rfl, rfl, rfl⟩
  · have hzl : (Builtin.zeroCells z.cells k).toList.length = k * m := by
      have := size_zeroCells z.cells k
      rw [hzs] at this
      simpa [Nat.mul_comm] using this
    have hone : ∀ v ∈ (Builtin.zeroCells z.cells k).toList, v.oneCell' = true := by
      intro v hv
      have hall := Array.all_eq_true.1 hz1
      simp only [Builtin.zeroCells, Array.toList_map, List.mem_map] at hv
      obtain ⟨i, hi, rfl⟩ := hv
      have h0 : 0 < z.cells.size := by
        rcases Nat.eq_zero_or_pos z.cells.size with h | h
        · rw [h] at hi; simp at hi
        · exact h
      have hm : i % z.cells.size < z.cells.size := Nat.mod_lt _ h0
      rw [getElem!_pos z.cells _ hm]
      exact hall _ hm
    have hst := run_storeCells_at P b off E (Builtin.zeroCells z.cells k).toList 0 cur w hb (by rw [hzl]; omega) hone
    simp only [Nat.add_zero] at hst
    have hrun : (ex e' (.call ⟨.builtin .clear, #[x], #[t]⟩) ty).run P w = .ok (.value (.tuple #[])) (w.setRow b (putCells cur off (Builtin.zeroCells z.cells k).toList)) := by
      obtain ⟨k', rfl⟩ : ∃ k', k = k' + 1 := ⟨k - 1, by omega⟩
      simp [ex, execOp, resolve, invoke, builtin, hk x _ hx, Builtin.clear_, run_underlying hS', hz.run w]
      rw [hst]
      rfl
    rw [hrun]
    obtain ⟨e1, e2, e3, e4⟩ := setRow_os w b (putCells cur off (Builtin.zeroCells z.cells k).toList)
    have hfit' : off + (Builtin.zeroCells z.cells k).toList.length ≤ cur.toList.length := by rw [hzl]; simpa using hfit
    refine ⟨H, _, ok1 (en' := blk b (.cells (putCells cur off (Builtin.zeroCells z.cells k).toList) E (0, 0))) ho e1 e2 e3 (Nat.le_refl _) (by rw [e4]; exact Nat.le_refl _) (fun k _ hk => setRow_other w b k _ (by simpa [blk] using hk)) (setRow_heap w b cur _ E _ hb) (fun k hk => .inl hk) (by simp [blk]), _, rfl, rfl, _, rfl, ?_, ?_⟩
    · have := putL_length hfit'
      simpa [putCells] using this
    · simp only [putCells, putL, List.append_assoc]
      rw [List.take_append_of_le_length (by rw [List.length_take]; omega), List.take_take, Nat.min_self]
theorem K_clear {x : Operand} {t e ty : TypeId} {pos : String} {aft : Array Edge} {b off k m cap : Nat} {cur : Array Value} {E : TypeId} {z : Value} (j : Nat) (hS : slcOk P t e) (hz : zeroOk P e z) (hz1 : z.cells.all Value.oneCell' = true)
    (hx : ev l x = some (.slice (some ⟨b, off, none⟩) k cap)) (hzs : z.cells.size = m) (hj : hl[j]? = some (blk b (.cells cur E (0, 0)))) (hfit : off + k * m ≤ cur.size)
    (h : ∀ cur', cur'.size = cur.size → cur'.toList.take off = cur.toList.take off → KO P n c ops Q rest l (hl.set j (blk b (.cells cur' E (0, 0)))) H) :
    KO P n c ops Q (⟨none, .call ⟨.builtin .clear, #[x], #[t]⟩, ty, pos, aft, none⟩ :: rest) l hl H :=
  KE1_ j hj (E_clear hS hz hz1 hx hzs hfit) (by rintro v H' en' _ ⟨rfl, cur', rfl, h1, h2⟩; exact h cur' h1 h2)
/-! ### Elements' cells in a block -/
theorem flat_len {α : Type} {enc : α → List Value} {sz : Nat} (hk : ∀ x, (enc x).length = sz) (it : List α) : (it.flatMap enc).length = it.length * sz := by
  induction it with
  | nil => simp
  | cons a l ih => simp only [List.flatMap_cons, List.length_append, ih, hk, List.length_cons, Nat.succ_mul]; omega
theorem flat_get {α : Type} {enc : α → List Value} {sz : Nat} (hk : ∀ x, (enc x).length = sz) (it : List α) (tail : List Value) {i : Nat} (hi : i < it.length) {off : Nat} (ho : off = i * sz) :
    (((it.flatMap enc ++ tail).toArray.toList).drop off).take sz = enc it[i] := by
  subst ho
  have e : it = it.take i ++ it[i] :: it.drop (i + 1) := by simp
  have hl : ((it.take i).flatMap enc).length = i * sz := by rw [flat_len hk, List.length_take, Nat.min_eq_left (by omega)]
  have h2 : it.flatMap enc ++ tail = (it.take i).flatMap enc ++ (enc it[i] ++ ((it.drop (i + 1)).flatMap enc ++ tail)) := by
    conv => lhs; rw [e]
    simp only [List.flatMap_append, List.flatMap_cons, List.append_assoc]
  show ((it.flatMap enc ++ tail).drop (i * sz)).take sz = _
  rw [h2, List.drop_append_of_le_length (by omega), List.drop_of_length_le (by omega), List.nil_append, List.take_append_of_le_length (by rw [hk]; exact Nat.le_refl _), List.take_of_length_le (by rw [hk]; exact Nat.le_refl _)]
theorem flat_put {α : Type} {enc : α → List Value} {sz : Nat} (hk : ∀ x, (enc x).length = sz) (it : List α) (tail : List Value) {i : Nat} (hi : i < it.length) (y : α) {off : Nat} (ho : off = i * sz) {v : Value} (hv : v.cells.toList = enc y) :
    putCells (it.flatMap enc ++ tail).toArray off v.cells.toList = ((it.set i y).flatMap enc ++ tail).toArray := by
  subst ho
  unfold putCells putL
  rw [hv, hk]
  congr 1
  have e : it = it.take i ++ it[i] :: it.drop (i + 1) := by simp
  have e2 : it.set i y = it.take i ++ y :: it.drop (i + 1) := List.set_eq_take_append_cons_drop .. |>.trans (by rw [if_pos hi])
  have hl : ((it.take i).flatMap enc).length = i * sz := by rw [flat_len hk, List.length_take, Nat.min_eq_left (by omega)]
  have h2 : it.flatMap enc ++ tail = (it.take i).flatMap enc ++ (enc it[i] ++ ((it.drop (i + 1)).flatMap enc ++ tail)) := by
    conv => lhs; rw [e]
    simp only [List.flatMap_append, List.flatMap_cons, List.append_assoc]
  have h3 : (it.set i y).flatMap enc ++ tail = (it.take i).flatMap enc ++ (enc y ++ ((it.drop (i + 1)).flatMap enc ++ tail)) := by
    rw [e2]
    simp only [List.flatMap_append, List.flatMap_cons, List.append_assoc]
  show (it.flatMap enc ++ tail).take (i * sz) ++ enc y ++ (it.flatMap enc ++ tail).drop (i * sz + sz) = _
  have hd : (it.flatMap enc ++ tail).drop (i * sz + sz) = (it.drop (i + 1)).flatMap enc ++ tail := by
    rw [h2, ← List.append_assoc]
    exact List.drop_left' (by rw [List.length_append, hl, hk])
  have ht : (it.flatMap enc ++ tail).take (i * sz) = (it.take i).flatMap enc := by
    rw [h2]
    exact List.take_left' hl
  rw [hd, ht, h3, List.append_assoc]
theorem flat_take {α : Type} {enc : α → List Value} {sz : Nat} (hk : ∀ x, (enc x).length = sz) (it : List α) (tail : List Value) {m : Nat} (hm : m ≤ it.length) : (it.flatMap enc ++ tail).take (m * sz) = (it.take m).flatMap enc := by
  have e : it = it.take m ++ it.drop m := by simp
  have hl : ((it.take m).flatMap enc).length = m * sz := by rw [flat_len hk, List.length_take, Nat.min_eq_left hm]
  have h2 : it.flatMap enc ++ tail = (it.take m).flatMap enc ++ ((it.drop m).flatMap enc ++ tail) := by
    conv => lhs; rw [e]
    simp only [List.flatMap_append, List.append_assoc]
  rw [h2, List.take_append_of_le_length (by omega), List.take_of_length_le (by omega)]
/-! ### Dropping like neighbours in place -/
theorem compF_snoc {α : Type} (eq : α → α → Bool) {xs : List α} {k : Nat} (h0 : 0 < k) (hk : k < xs.length) : compF eq none (xs.take (k + 1)) = compF eq none (xs.take k) ++ if eq xs[k] xs[k - 1] = true then [] else [xs[k]] := by
  have e : xs.take (k + 1) = xs.take k ++ [xs[k]] := by rw [List.take_add_one, List.getElem?_eq_getElem hk]; rfl
  have hl : (xs.take k).getLast? = some xs[k - 1] := by
    rw [List.getLast?_eq_getElem?, List.length_take, Nat.min_eq_left (by omega), List.getElem?_take, if_pos (by omega), List.getElem?_eq_getElem (by omega)]
  rw [e, compF_append, hl]
  rfl
theorem compF_all {α : Type} {eq : α → α → Bool} {xs : List α} : ∀ {k : Nat}, k ≤ xs.length → (∀ j (h : j < xs.length), 0 < j → j < k → eq xs[j] xs[j - 1] = false) → compF eq none (xs.take k) = xs.take k
  | 0, _, _ => by simp [compF]
  | k + 1, hk, h => by
    have ih := compF_all (eq := eq) (xs := xs) (k := k) (by omega) fun j hj h0 hjk => h j hj h0 (by omega)
    rcases Nat.eq_zero_or_pos k with e | e
    · subst e
      cases xs with
      | nil => simp at hk
      | cons a xs => simp [compF]
    · rw [compF_snoc eq e (by omega), ih, h k (by omega) e (by omega), List.take_add_one, List.getElem?_eq_getElem (by omega)]
      rfl
structure CpI {α : Type} (eq : α → α → Bool) (xs it : List α) (w m : Nat) : Prop where
  len : it.length = xs.length
  wm : w < m
  mn : m ≤ xs.length
  done : it.take w = compF eq none (xs.take m)
  todo : ∀ j (h : j < xs.length), m ≤ j + 1 → it[j]'(by rw [len]; exact h) = xs[j]
theorem CpI.start {α : Type} {eq : α → α → Bool} {xs : List α} {k : Nat} (h0 : 0 < k) (hk : k < xs.length) (hall : ∀ j (h : j < xs.length), 0 < j → j < k → eq xs[j] xs[j - 1] = false) (hd : eq xs[k] xs[k - 1] = true) : CpI eq xs xs k (k + 1) :=
  ⟨rfl, by omega, by omega, by rw [compF_snoc eq h0 hk, compF_all (by omega) hall, if_pos hd, List.append_nil], fun _ _ _ => rfl⟩
theorem CpI.skip {α : Type} {eq : α → α → Bool} {xs it : List α} {w m : Nat} (h : CpI eq xs it w m) (hm : m < xs.length) (hd : eq xs[m] xs[m - 1] = true) : CpI eq xs it w (m + 1) :=
  ⟨h.len, by have := h.wm; omega, by omega, by rw [compF_snoc eq (by have := h.wm; omega) hm, if_pos hd, List.append_nil, h.done], fun j hj hm2 => h.todo j hj (by omega)⟩
theorem CpI.keep {α : Type} {eq : α → α → Bool} {xs it : List α} {w m : Nat} (h : CpI eq xs it w m) (hm : m < xs.length) (hd : eq xs[m] xs[m - 1] = false) : CpI eq xs (it.set w xs[m]) (w + 1) (m + 1) := by
  have hwm := h.wm
  refine ⟨by rw [List.length_set]; exact h.len, by omega, by omega, ?_, fun j hj hm2 => ?_⟩
  · rw [compF_snoc eq (by omega) hm, hd, ← h.done, List.take_add_one, List.getElem?_set_self (by rw [h.len]; omega), List.take_set_of_le (Nat.le_refl _)]
    rfl
  · rw [List.getElem_set_ne (by omega)]; exact h.todo j hj (by omega)
/-! ### Scopes; parts of slices, told -/
theorem R_sliceHiE {t e ty : TypeId} {x y : Operand} {g k cap m : Nat} {agg : Bool} {sz : Nat} (hS : slcOk P t e) (hT : Ty P e agg sz) (hx : ev l x = some (.slice (some ⟨g, 0, none⟩) k cap)) (hy : ev l y = some (.int .i64 (m : Int))) (hc : m ≤ cap) :
    ValOk P l H hl (.slice t x none (some y) none) ty (.slice (some ⟨g, 0, none⟩) m cap) := by
  have h := R_sliceHi (hl := hl) (H := H) (ty := ty) hS hT hx hy hc
  have e : hiV (some ⟨g, 0, none⟩) cap m = .slice (some ⟨g, 0, none⟩) m cap := by
    unfold hiV
    split <;> simp [addr_add]
  rw [e] at h; exact h
theorem R_sliceLoE {t e ty : TypeId} {x y : Operand} {g off k cap m : Nat} {agg : Bool} {sz : Nat} (hS : slcOk P t e) (hT : Ty P e agg sz) (hx : ev l x = some (.slice (some ⟨g, off, none⟩) k cap)) (hy : ev l y = some (.int .i64 (m : Int))) (hc : m ≤ k) (hlt : m < cap) :
    ValOk P l H hl (.slice t x (some y) none none) ty (.slice (some ⟨g, off + m * sz, none⟩) (k - m) (cap - m)) := by
  have h := R_sliceLo (hl := hl) (H := H) (ty := ty) hS hT hx hy hc
  have e : loV (some ⟨g, off, none⟩) k cap m sz = .slice (some ⟨g, off + m * sz, none⟩) (k - m) (cap - m) := by
    unfold loV
    rw [if_neg (by omega)]
    simp [addr_add]
  rw [e] at h; exact h
theorem SatO.openRow {f : FuncId} {args : Array Value} {v : Value} {e : TypeId} {sz k : Nat} {xs : List Value} {post : Value → View → HL → Prop} (h0 : v = nilS → k = 0 → xs = [] → SatO P f args H hl post)
    (h1 : ∀ g cap tail, v = .slice (some ⟨g, 0, none⟩) k cap → k ≤ cap → cap ≤ maxLen → xs.length = k * sz → (xs ++ tail).length = cap * sz → SatO P f args H (blk g (.cells (xs ++ tail).toArray e (0, 0)) :: hl) post) :
    SatO P f args H (row v e sz k xs :: hl) post := by
  intro w hw
  rcases hw.ok.openRow with ⟨rfl, rfl, rfl⟩ | ⟨g, cap, tail, rfl, b, d, e1, f, k1⟩
  · have h := h0 rfl rfl rfl w (hw.sublist (List.sublist_cons_self _ _))
    have hf : feet (row nilS e sz 0 [] :: hl) = feet hl := by simp [feet, row, rowFoot, nilS]
    rw [hf]; exact h
  · have h := h1 g cap tail rfl b d e1 f w k1.hasL
    have hf : feet (row (.slice (some ⟨g, 0, none⟩) k cap) e sz k xs :: hl) = feet (blk g (.cells (xs ++ tail).toArray e (0, 0)) :: hl) := by simp [feet, row, rowFoot, blk]
    rw [hf]; exact h
theorem cellRV_len (p : Rl × Value) : (cellRV p).length = 3 := rfl
theorem RVok.one {H : View} {p : Rl × Value} (h : RVok H p) : (cellRV p).all Value.oneCell' = true := by
  obtain ⟨a, cp, e⟩ := h.1.shape
  simp [cellRV, e, Value.oneCell']
def cellI (x : Int) : List Value := [.int .i64 x]
theorem cellI_len (x : Int) : (cellI x).length = 1 := rfl
theorem ints_flat (xs : List Int) : ints xs = xs.flatMap cellI := by
  induction xs with
  | nil => rfl
  | cons x xs ih => simp only [ints, List.map_cons, List.flatMap_cons, cellI, List.cons_append, List.nil_append] at *; rw [ih]
end
end Pal
namespace Pal
def eqI (x y : Int) : Bool := decide (x = y)
end Pal

/-
  slices.Sort at ints, over owned rows. Own work. No statement of the seat is proved here.
-/
namespace Pal
open Go Go.Proofs Go.Shelf Go.Sort
variable {P : Program} {ρ : Go.Shelf.Ren}
theorem sortInts (L : SlLaysN.n53 P ρ) (H : View) (e : TypeId) (xs : List Int) (v : Value) (hlen : xs.length < 4611686018427387904) :
    SatO P (ρ.f 53) #[v] H [row v e 1 xs.length (ints xs)] (fun r H' q => r = .tuple #[] ∧ H' = H ∧ ∃ ys, ys.Perm xs ∧ ys.Pairwise (· ≤ ·) ∧ q = [row v e 1 ys.length (ints ys)]) := by
  intro w hw
  obtain ⟨hl1, hrow⟩ := hw.own _ (List.mem_cons_self ..)
  rcases hrow with ⟨rfl, h0⟩ | ⟨gb, cap, cur, rfl, hgb, hk, hc, hs, ht⟩
  · have hnil : xs = [] := List.eq_nil_of_length_eq_zero h0
    subst hnil
    refine Calls.mono (AnyG.slices_Sort_int_none L none 0 w) ?_
    rintro e w' ⟨rfl, rfl⟩
    exact ⟨_, H, _, rfl, hw.ok, rfl, rfl, [], List.Perm.refl _, List.Pairwise.nil, rfl⟩
  · have hH : Holds (Value.int .i64) w gb 0 xs.toArray := holds_of_row hgb (by simpa [ints] using ht)
    refine Calls.mono (AnyG.slices_Sort_int L gb 0 cap xs w hH (lt_of_heap hgb) hlen) ?_
    rintro e w' ⟨rfl, n, os, rfl⟩
    have hp := List.mergeSort_perm xs (fun x y => decide (x ≤ y))
    have hsz := hp.length_eq
    refine ⟨_, H, _, rfl, ok_sorted (enc := Value.int .i64) (n := n) (os := os) hw hgb hk hc hs (by simp [hsz]), rfl, rfl, xs.mergeSort (fun x y => decide (x ≤ y)), hp, ?_, ?_⟩
    · have := List.pairwise_mergeSort (le := fun x y : Int => decide (x ≤ y)) (fun a b c h1 h2 => by simp at *; omega) (fun a b => by simp; omega) xs
      exact this.imp fun h => by simpa using h
    · rw [hsz]; simp [ints]
end Pal

/-
  Many owned things asx one; automata that are owned, with their rules' slices. Own work. No statement of the seat is proved here.
-/
namespace Pal
open Go
def many (p : HL) : Own where
  foot := feet p
  holds h := ∀ e ∈ p, e.holds h
  loc h h' heq hh e he := e.loc h h' (fun b hb => heq b (mem_feet.2 ⟨e, he, hb⟩)) (hh e he)
  ex h hh b hb := by
    obtain ⟨e, he, hbe⟩ := mem_feet.1 hb
    exact e.ex h (hh e he) b hbe
theorem feet_many (p hl : HL) : feet (many p :: hl) = feet (p ++ hl) := by rw [feet_cons, feet_append]; rfl
section
variable {P : Program} {n : Nat} {c : Cx} {Q : Exit → Act → World → Prop} {l : KL} {hl : HL} {H : View} {ops : Array Oper} {rest : List Oper}
theorem Ok.many_out {w : World} {p : HL} (h : Ok c w H (many p :: hl)) : Ok c w H (p ++ hl) := by
  refine ⟨h.os, h.tape, h.output, h.drawn, h.size, h.old, h.vold, h.le, h.has, fun e he => ?_, fun b hb => h.foot b (by rw [feet_many]; exact hb), by rw [← feet_many]; exact h.nd⟩
  rcases List.mem_append.1 he with he | he
  · exact h.own (many p) List.mem_cons_self e he
  · exact h.own e (List.mem_cons_of_mem _ he)
theorem Ok.many_in {w : World} {p : HL} (h : Ok c w H (p ++ hl)) : Ok c w H (many p :: hl) := by
  refine ⟨h.os, h.tape, h.output, h.drawn, h.size, h.old, h.vold, h.le, h.has, fun e he => ?_, fun b hb => h.foot b (by rw [← feet_many]; exact hb), by rw [feet_many]; exact h.nd⟩
  rcases List.mem_cons.1 he with rfl | he
  · exact fun e he => h.own e (List.mem_append_left _ he)
  · exact h.own e (List.mem_append_right _ he)
theorem Ok.many_nil {w : World} (h : Ok c w H hl) : Ok c w H (many [] :: hl) := Ok.many_in (p := []) h
theorem Ok.many_perm {w : World} {p p' : HL} (hp : p.Perm p') (h : Ok c w H (many p :: hl)) : Ok c w H (many p' :: hl) := (h.many_out.perm (hp.append_right hl)).many_in
theorem Ok.many_sub {w : World} {p p' : HL} (hp : List.Sublist p' p) (h : Ok c w H (many p :: hl)) : Ok c w H (many p' :: hl) := (h.many_out.sublist (hp.append_right hl)).many_in
theorem Ok.many_snoc {w : World} {p : HL} {en : Own} (h : Ok c w H (en :: many p :: hl)) : Ok c w H (many (p ++ [en]) :: hl) := by
  have h1 : Ok c w H (many p :: en :: hl) := h.perm (List.Perm.swap _ _ _)
  have h2 := h1.many_out
  refine Ok.many_in (p := p ++ [en]) ?_
  simpa using h2
theorem KC_many_nil {code : Code} (h : KC P n c code Q l (many [] :: hl) H) : KC P n c code Q l hl H := fun ρ w hm ho => h ρ w hm ho.many_nil
theorem KQ_many_snoc {x : Exit} {p : HL} {en : Own} (h : KQ n c Q x l (many (p ++ [en]) :: hl) H) : KQ n c Q x l (en :: many p :: hl) H := fun ρ w hm ho => h ρ w hm ho.many_snoc
end
/-! ### Rules whose slices are owned -/
def rowsFrom (ti : TypeId) (ps : List (Rl × Value)) : HL := ps.map fun p => row p.2 ti 1 p.1.args.length (ints p.1.args)
theorem rowsFrom_snoc (ti : TypeId) (ps : List (Rl × Value)) (p : Rl × Value) : rowsFrom ti (ps ++ [p]) = rowsFrom ti ps ++ [row p.2 ti 1 p.1.args.length (ints p.1.args)] := by simp [rowsFrom]
theorem cellsP_snoc (ps : List (Rl × Value)) (p : Rl × Value) : cellsP (ps ++ [p]) = cellsP ps ++ cellRV p := by simp [cellsP]
def RlB (r : Rl) : Prop := r.args.length ≤ 1099511627776 ∧ i64ok r.sym ∧ i64ok r.to ∧ ∀ x ∈ r.args, i64ok x
theorem row_SI {ti : TypeId} {v : Value} {xs : List Int} {H : View} (h : (row v ti 1 xs.length (ints xs)).holds H) (hx : ∀ x ∈ xs, i64ok x) : SI H v xs := ⟨(row_view h).1.sl, hx⟩
theorem rv_of_many {ti : TypeId} {ps : List (Rl × Value)} {H : View} (h : (many (rowsFrom ti ps)).holds H) (hb : ∀ p ∈ ps, RlB p.1) : ∀ p ∈ ps, RVok H p := by
  intro p hp
  obtain ⟨h1, h2, h3, h4⟩ := hb p hp
  exact ⟨row_SI (h _ (List.mem_map.2 ⟨p, hp, rfl⟩)) h4, h1, h2, h3⟩
structure AuB (a : Au) : Prop where
  s : i64ok a.states
  rl : a.ranks.length ≤ 1099511627776
  ul : a.rules.length ≤ 1099511627776
  fl : a.final.length ≤ 1099511627776
  r : ∀ x ∈ a.ranks, i64ok x
  u : ∀ r ∈ a.rules, RlB r
  f : ∀ x ∈ a.final, i64ok x
theorem repL_mem {α : Type} {R : α → List Value → Prop} {sz : Nat} {xs : List α} {cells : List Value} (h : RepL R sz xs cells) : ∀ x ∈ xs, ∃ cs, R x cs := by
  intro x hx
  obtain ⟨i, hi, rfl⟩ := List.getElem_of_mem hx
  obtain ⟨cs, _, h2, _⟩ := h.get hi
  exact ⟨cs, h2⟩
theorem RepAu.b {H : View} {a : Au} {vr vu vf : Value} (h : RepAu H a vr vu vf) : AuB a := by
  refine ⟨h.s, h.rl, h.ul, h.fl, h.r.2, fun r hr => ?_, h.f.2⟩
  obtain ⟨cells, _, h2⟩ := h.u
  obtain ⟨cs, a', cp, _, h3, h4, h5, h6⟩ := repL_mem h2 r hr
  exact ⟨h6, h4, h5, h3.2⟩
theorem AuB.norm {a : Au} (h : AuB a) : AuB (normA a) :=
  ⟨h.s, h.rl, Nat.le_trans (sortO_len _) h.ul, Nat.le_trans (sortI_len _) h.fl, h.r, fun r hr => h.u r (sortO_mem.1 hr), fun x hx => h.f x (sortI_mem.1 hx)⟩
/-- An automaton whose rules, final states and rules' slices are owned. -/
def OwnAu (H : View) (ti tr : TypeId) (a : Au) (v : Value) (q : HL) : Prop := ∃ vr ua uc fa fc ps, v = .agg #[vr, .int .i64 a.states, .slice ua ps.length uc, .slice fa a.final.length fc] ∧ SI H vr a.ranks ∧ ps.map (·.1) = a.rules ∧
  q = [row (.slice ua ps.length uc) tr 3 ps.length (cellsP ps), row (.slice fa a.final.length fc) ti 1 a.final.length (ints a.final), many (rowsFrom ti ps)]
theorem repL_rv {H : View} : ∀ {ps : List (Rl × Value)}, (∀ p ∈ ps, RVok H p) → RepL (RepR H) 3 (ps.map (·.1)) (cellsP ps)
  | [], _ => .nil
  | p :: ps, h => by
    have h1 := h p List.mem_cons_self
    obtain ⟨a, cp, e⟩ := h1.1.shape
    have h2 := h1.1
    rw [e] at h2
    exact .cons (sz := 3) ⟨a, cp, by simp [cellRV, e], h2, h1.2.2.1, h1.2.2.2, h1.2.1⟩ rfl (repL_rv fun q hq => h q (List.mem_cons_of_mem _ hq))
section
variable {c : Cx} {hl : HL} {H : View}
theorem Ok.pub_many {w : World} {ti : TypeId} : ∀ {ps : List (Rl × Value)} {H : View}, Ok c w H (many (rowsFrom ti ps) :: hl) → (∀ p ∈ ps, RlB p.1) → ∃ H', VLe H H' ∧ (∀ p ∈ ps, RVok H' p) ∧ Ok c w H' hl
  | [], H, h, _ => ⟨H, VLe.refl _, fun p hp => (by cases hp), h.sublist (List.sublist_cons_self _ _)⟩
  | p :: ps, H, h, hb => by
    have h1 : Ok c w H (row p.2 ti 1 p.1.args.length (ints p.1.args) :: many (rowsFrom ti ps) :: hl) := by
      have h2 := h.many_out
      have h3 : Ok c w H (rowsFrom ti ps ++ (row p.2 ti 1 p.1.args.length (ints p.1.args) :: hl)) := h2.perm (by simpa [rowsFrom] using List.perm_middle.symm)
      exact h3.many_in.perm (List.Perm.swap _ _ _)
    obtain ⟨H1, hle1, hrow, _, h4⟩ := h1.pubrowF
    obtain ⟨H2, hle2, hall, h5⟩ := Ok.pub_many h4 fun q hq => hb q (List.mem_cons_of_mem _ hq)
    refine ⟨H2, hle1.trans hle2, fun q hq => ?_, h5⟩
    rcases List.mem_cons.1 hq with rfl | hq
    · obtain ⟨b1, b2, b3, b4⟩ := hb q List.mem_cons_self
      exact ⟨⟨hrow.sl.mono hle2, b4⟩, b1, b2, b3⟩
    · exact hall q hq
theorem Ok.pub_au {w : World} {ti tr : TypeId} {a : Au} {v : Value} {q : HL} (hq : OwnAu H ti tr a v q) (hb : AuB a) (h : Ok c w H (q ++ hl)) : ∃ H' vr vu vf, VLe H H' ∧ v = .agg #[vr, .int .i64 a.states, vu, vf] ∧ RepAu H' a vr vu vf ∧ Ok c w H' hl := by
  obtain ⟨vr, ua, uc, fa, fc, ps, rfl, hr, hps, rfl⟩ := hq
  have hlen : ps.length = a.rules.length := by rw [← hps]; simp
  obtain ⟨H1, hle1, hrow1, _, h1⟩ := Ok.pubrowF (hl := _ :: _ :: hl) h
  obtain ⟨H2, hle2, hrow2, _, h2⟩ := Ok.pubrowF (hl := _ :: hl) h1
  obtain ⟨H3, hle3, hall, h3⟩ := Ok.pub_many h2 (fun p hp => hb.u p.1 (by rw [← hps]; exact List.mem_map.2 ⟨p, hp, rfl⟩))
  refine ⟨H3, vr, _, _, hle1.trans (hle2.trans hle3), rfl, ⟨hr.mono (hle1.trans (hle2.trans hle3)), ⟨cellsP ps, ?_, ?_⟩, ⟨hrow2.sl.mono hle3, hb.f⟩, hb.s, hb.rl, hb.ul, hb.fl⟩, h3⟩
  · rw [← hlen]; exact hrow1.sl.mono (hle2.trans hle3)
  · rw [← hps]; exact repL_rv hall
end
theorem SatO.pub_au {P : Program} {f : FuncId} {args : Array Value} {H : View} {p : HL} {ti tr : TypeId} {a : Au} {b : Prop} (hb : AuB a) (h : SatO P f args H p fun v H' q => OwnAu H' ti tr a v q ∧ b) :
    SatO P f args H p fun v H' q => q = [] ∧ (∃ vr vu vf, v = .agg #[vr, .int .i64 a.states, vu, vf] ∧ RepAu H' a vr vu vf) ∧ b := by
  intro w hw
  refine Calls.mono (h w hw) ?_
  rintro e w' ⟨v, H', q, rfl, hok, hown, hbb⟩
  obtain ⟨H2, vr, vu, vf, hle, hv, hrep, hok2⟩ := Ok.pub_au (hl := []) hown hb (by simpa using hok)
  exact ⟨v, H2, [], rfl, hok2, rfl, ⟨vr, vu, vf, hv, hrep⟩, hbb⟩
theorem SatO.rowshape {P : Program} {f : FuncId} {args : Array Value} {H : View} {p p' : HL} {e : TypeId} {sz k : Nat} {xs : List Value} (h : SatO P f args H p fun w _ q => q = row w e sz k xs :: p') :
    SatO P f args H p fun w _ q => ∃ a cap, w = .slice a k cap ∧ q = row (.slice a k cap) e sz k xs :: p' := by
  intro w hw
  refine Calls.mono (h w hw) ?_
  rintro e' w' ⟨v, H', q, rfl, hok, rfl⟩
  obtain ⟨a, cap, rfl⟩ := row_shape (hok.own _ List.mem_cons_self)
  exact ⟨_, H', _, rfl, hok, a, cap, rfl, rfl⟩
end Pal

/-
  Rules by their symbol in a map. Own work. No statement of the seat is proved here.
-/
namespace Pal
open Go
section
variable {P : Program} {l : KL} {hl : HL} {H : View} {ty : TypeId} {v : Value}
end
def symR (rs : List Rl) (q : Int) : List Rl := rs.filter fun r => decide (r.sym = q)
theorem symR_snoc {rs : List Rl} {k : Nat} (hk : k < rs.length) (q : Int) : symR (rs.take (k + 1)) q = symR (rs.take k) q ++ if rs[k].sym = q then [rs[k]] else [] := by
  unfold symR
  rw [List.take_succ_eq_append_getElem hk, List.filter_append]
  congr 1
  by_cases h : rs[k].sym = q <;> simp [h]
/-- A slice that holds these rules. -/
def RulesAt (H : View) (v : Value) (rs : List Rl) : Prop := ∃ ps, ps.map (·.1) = rs ∧ (∃ a cap, v = .slice a ps.length cap) ∧ SlAt H v ps.length (cellsP ps) ∧ ∀ p ∈ ps, RVok H p
theorem RulesAt.mono {H H' : View} {v : Value} {rs : List Rl} (h : RulesAt H v rs) (hle : VLe H H') : RulesAt H' v rs := by
  obtain ⟨ps, h1, h2, h3, h4⟩ := h
  exact ⟨ps, h1, h2, h3.mono hle, fun p hp => (h4 p hp).mono hle⟩
theorem RulesAt.nil (H : View) : RulesAt H nilS [] := ⟨[], rfl, ⟨none, 0, rfl⟩, ⟨none, 0, rfl, .inl ⟨rfl, rfl⟩⟩, fun p hp => by cases hp⟩
theorem RulesAt.shape {H : View} {v : Value} {rs : List Rl} (h : RulesAt H v rs) : ∃ a cap, v = .slice a rs.length cap := by
  obtain ⟨ps, rfl, ⟨a, cap, rfl⟩, _⟩ := h
  exact ⟨a, cap, by simp⟩
theorem RulesAt.elem {H : View} {a : Option Addr} {k cap : Nat} {rs : List Rl} (h : RulesAt H (.slice a k cap) rs) {i : Nat} (hi : i < rs.length) :
    ∃ b off va, a = some ⟨b, off, none⟩ ∧ At H b (off + i * 3) [.int .i64 rs[i].sym, va, .int .i64 rs[i].to] ∧ RVok H (rs[i], va) := by
  obtain ⟨ps, rfl, ⟨a', cap', e⟩, ⟨a2, c2, e2, h3⟩, h4⟩ := h
  have hi' : i < ps.length := by simpa using hi
  cases e
  cases e2
  rcases h3 with ⟨h3, _⟩ | ⟨b, off, rfl, hA⟩
  · omega
  · refine ⟨b, off, ps[i].2, rfl, ?_, by simpa using h4 _ (List.getElem_mem hi')⟩
    have hg := flat_get (enc := cellRV) cellRV_len ps [] hi' rfl
    simp only [List.append_nil] at hg
    refine hA.sub fun j u hj => ?_
    have hc : (cellRV ps[i])[j]? = some u := by simpa [cellRV] using hj
    rw [← hg, List.getElem?_take] at hc
    split at hc
    · rw [List.getElem?_drop] at hc; exact hc
    · cases hc
theorem At.rules {H : View} {v : Value} {ps : List (Rl × Value)} (h : rowAt H v ps.length (cellsP ps)) (hs : ∃ a cap, v = .slice a ps.length cap) (hp : ∀ p ∈ ps, RVok H p) : RulesAt H v (ps.map (·.1)) := ⟨ps, rfl, hs, h.sl, hp⟩
/-- The book. -/
def BookAt (H : View) (v : Value) (rs : List Rl) : Prop := ∃ b kvs, v = mp b ∧ H b = some (mapOb kvs) ∧ (kvs.map (·.1)).Nodup ∧ ∀ q, RulesAt H ((lookI kvs q).getD nilS) (symR rs q)
theorem BookAt.mono {H H' : View} {v : Value} {rs : List Rl} (h : BookAt H v rs) (hle : VLe H H') : BookAt H' v rs := by
  obtain ⟨b, kvs, h1, h2, h3, h4⟩ := h
  exact ⟨b, kvs, h1, hle _ _ h2, h3, fun q => (h4 q).mono hle⟩
/-- While it is made: what stands in the map for symbols that are done; the symbol at hand, its slice. -/
def curK (cur : Option Int) (w : Value) : KVs := match cur with | none => [] | some s => [(s, w)]
structure BkI (V : View) (rs : List Rl) (k : Nat) (kv0 : KVs) (cur : Option Int) (w : Value) (ps : List (Rl × Value)) : Prop where
  kn : (kv0.map (·.1)).Nodup
  below : ∀ p ∈ kv0, ∀ s, cur = some s → p.1 < s
  emp : cur = none → kv0 = [] ∧ ps = [] ∧ w = nilS ∧ k = 0
  isIn : ∀ s, cur = some s → ∃ r ∈ rs.take k, r.sym = s
  old : ∀ q, cur ≠ some q → RulesAt V ((lookI kv0 q).getD nilS) (symR (rs.take k) q)
  now : ∀ s, cur = some s → ps.map (·.1) = symR (rs.take k) s
  rv : ∀ p ∈ ps, RVok V p
  le : ∀ r ∈ rs.take k, ∀ s, cur = some s → r.sym ≤ s
  len : ps.length ≤ k
theorem ltR_sym {r s : Rl} (h : ltR r s) : r.sym ≤ s.sym := by
  unfold ltR at h
  rw [ordR_lt] at h
  rcases h with h | ⟨h, _⟩ <;> omega
theorem BkI.start (V : View) (rs : List Rl) : BkI V rs 0 [] none nilS [] :=
  ⟨by simp, fun p hp => (by cases hp), fun _ => ⟨rfl, rfl, rfl, rfl⟩, fun s h => (by cases h), fun q _ => by simpa [lookI, findI, symR] using RulesAt.nil V, fun s h => (by cases h), fun p hp => (by cases hp), fun r hr => (by simp at hr), Nat.le_refl _⟩
theorem BkI.keys {V : View} {rs : List Rl} {k : Nat} {kv0 : KVs} {cur : Option Int} {w : Value} {ps : List (Rl × Value)} (h : BkI V rs k kv0 cur w ps) : ((kv0 ++ curK cur w).map (·.1)).Nodup := by
  cases cur with
  | none => simpa [curK] using h.kn
  | some s =>
    simp only [curK, List.map_append, List.map_cons, List.map_nil, List.nodup_append]
    refine ⟨h.kn, by simp, fun a ha b hb e => ?_⟩
    simp at hb
    obtain ⟨p, hp, rfl⟩ := List.mem_map.1 ha
    have := h.below p hp s rfl
    omega
theorem lookI_snoc {kvs : KVs} {s q : Int} {w : Value} (h : ∀ p ∈ kvs, p.1 ≠ s) : lookI (kvs ++ [(s, w)]) q = if q = s then some w else lookI kvs q := by
  unfold lookI
  have : ∀ (l : KVs) (j : Nat), (∀ p ∈ l, p.1 ≠ s) → findI q (l ++ [(s, w)]) j = if q = s then some (j + l.length, w) else findI q l j := by
    intro l
    induction l with
    | nil => intro j _; simp [findI]
    | cons p r ih =>
      intro j hne
      simp only [List.cons_append, findI]
      by_cases e : q = p.1
      · have : q ≠ s := fun e2 => hne p List.mem_cons_self (by omega)
        rw [if_pos e, if_neg this, if_pos e]
      · rw [if_neg e, if_neg e, ih (j + 1) fun x hx => hne x (List.mem_cons_of_mem _ hx)]
        by_cases e2 : q = s
        · rw [if_pos e2, if_pos e2, List.length_cons, Nat.add_assoc, Nat.add_comm 1]
        · rw [if_neg e2, if_neg e2]
  rw [this kvs 0 h]
  by_cases e : q = s <;> simp [e]
/-- Everything that lies in the map once the row at hand is published. -/
theorem BkI.all {V : View} {rs : List Rl} {k : Nat} {kv0 : KVs} {cur : Option Int} {w : Value} {ps : List (Rl × Value)} (h : BkI V rs k kv0 cur w ps) (hw : RulesAt V w (ps.map (·.1))) (q : Int) : RulesAt V ((lookI (kv0 ++ curK cur w) q).getD nilS) (symR (rs.take k) q) := by
  cases cur with
  | none =>
    have := h.old q (by simp)
    simpa [curK] using this
  | some s =>
    show RulesAt V ((lookI (kv0 ++ [(s, w)]) q).getD nilS) _
    rw [lookI_snoc fun p hp => by have := h.below p hp s rfl; omega]
    by_cases e : q = s
    · subst e
      rw [if_pos rfl, ← h.now q rfl]; exact hw
    · rw [if_neg e]
      exact h.old q fun e2 => e (by cases e2; rfl)
/-- The next rule has the symbol at hand. -/
theorem BkI.same {V V' : View} {rs : List Rl} {k : Nat} {kv0 : KVs} {s : Int} {w w' fv : Value} {ps : List (Rl × Value)} (h : BkI V rs k kv0 (some s) w ps) (hle : VLe V V') (hk : k < rs.length) (hs : rs[k].sym = s) (hf : RVok V' (rs[k], fv)) : BkI V' rs (k + 1) kv0 (some s) w' (ps ++ [(rs[k], fv)]) := by
  refine ⟨h.kn, h.below, fun e => (by cases e), fun t ht => ⟨rs[k], by rw [List.take_succ_eq_append_getElem hk]; exact List.mem_append_right _ (List.mem_singleton.2 rfl), by cases ht; exact hs⟩, fun q hq => ?_, fun t ht => ?_, fun p hp => ?_, fun r hr t ht => ?_, by have := h.len; simp; omega⟩
  · rw [symR_snoc hk, if_neg (fun e => hq (by rw [← e, hs])), List.append_nil]
    exact (h.old q hq).mono hle
  · cases ht
    rw [symR_snoc hk, if_pos hs, List.map_append, h.now s rfl]; rfl
  · rcases List.mem_append.1 hp with hp | hp
    · exact (h.rv p hp).mono hle
    · simp at hp; subst hp; exact hf
  · cases ht
    rw [List.take_succ_eq_append_getElem hk] at hr
    rcases List.mem_append.1 hr with hr | hr
    · exact h.le r hr s rfl
    · simp at hr; subst hr; omega
/-- The next rule has another symbol. -/
theorem BkI.new {V V' : View} {rs : List Rl} {k : Nat} {kv0 : KVs} {cur : Option Int} {w w' fv : Value} {ps : List (Rl × Value)} (h : BkI V rs k kv0 cur w ps) (hle : VLe V V') (hw : RulesAt V' w (ps.map (·.1))) (hk : k < rs.length) (hs : cur ≠ some rs[k].sym) (hr : rs.Pairwise ltR) (hf : RVok V' (rs[k], fv)) :
    lookI (kv0 ++ curK cur w) rs[k].sym = none ∧ BkI V' rs (k + 1) (kv0 ++ curK cur w) (some rs[k].sym) w' [(rs[k], fv)] := by
  have hprev : ∀ r ∈ rs.take k, r.sym ≤ rs[k].sym := by
    intro r hr2
    obtain ⟨i, hi, rfl⟩ := List.getElem_of_mem hr2
    have hik : i < k := by rw [List.length_take] at hi; omega
    rw [List.getElem_take]
    exact ltR_sym (List.pairwise_iff_getElem.1 hr i k (by omega) hk hik)
  have hcur : ∀ s, cur = some s → s < rs[k].sym := by
    intro s e
    obtain ⟨r, hr2, rfl⟩ := h.isIn s e
    have h1 := hprev r hr2
    have h2 : r.sym ≠ rs[k].sym := fun e2 => hs (by rw [e, e2])
    omega
  have hall : ∀ p ∈ kv0 ++ curK cur w, p.1 < rs[k].sym := by
    intro p hp
    cases cur with
    | none =>
      have := (h.emp rfl).1
      subst this
      simp [curK] at hp
    | some s =>
      have h1 := hcur s rfl
      rcases List.mem_append.1 hp with hp | hp
      · have := h.below p hp s rfl; omega
      · simp [curK] at hp; subst hp; exact h1
  have hnone : lookI (kv0 ++ curK cur w) rs[k].sym = none := by
    cases hl : lookI (kv0 ++ curK cur w) rs[k].sym with
    | none => rfl
    | some u => have := hall _ (lookI_some hl); dsimp only at this; omega
  refine ⟨hnone, h.keys, fun p hp s e => by cases e; exact hall p hp, fun e => (by cases e), fun t ht => ⟨rs[k], by rw [List.take_succ_eq_append_getElem hk]; exact List.mem_append_right _ (List.mem_singleton.2 rfl), by cases ht; rfl⟩, fun q hq => ?_, fun t ht => ?_, fun p hp => ?_, fun r hr2 t ht => ?_, by simp⟩
  · rw [symR_snoc hk, if_neg (fun e => hq (by rw [e])), List.append_nil]
    have h' : BkI V' rs k kv0 cur w ps := ⟨h.kn, h.below, h.emp, h.isIn, fun q hq => (h.old q hq).mono hle, h.now, fun p hp => (h.rv p hp).mono hle, h.le, h.len⟩
    exact h'.all hw q
  · cases ht
    rw [symR_snoc hk, if_pos rfl]
    have : symR (rs.take k) rs[k].sym = [] := by
      unfold symR
      rw [List.filter_eq_nil_iff]
      intro r hr2
      simp only [decide_eq_true_eq]
      intro e
      cases cur with
      | none => have := (h.emp rfl).2.2.2; subst this; simp at hr2
      | some s => have h1 := h.le r hr2 s rfl; have h2 := hcur s rfl; omega
    rw [this]; rfl
  · simp at hp; subst hp; exact hf
  · cases ht
    rw [List.take_succ_eq_append_getElem hk] at hr2
    rcases List.mem_append.1 hr2 with hr2 | hr2
    · exact hprev r hr2
    · simp at hr2; subst hr2; exact Int.le_refl _
theorem BkI.mono {V V' : View} {rs : List Rl} {k : Nat} {kv0 : KVs} {cur : Option Int} {w : Value} {ps : List (Rl × Value)} (h : BkI V rs k kv0 cur w ps) (hle : VLe V V') : BkI V' rs k kv0 cur w ps :=
  ⟨h.kn, h.below, h.emp, h.isIn, fun q hq => (h.old q hq).mono hle, h.now, fun p hp => (h.rv p hp).mono hle, h.le, h.len⟩
theorem MapAt.at {H : View} {hl : HL} {b : Nat} {kvs : KVs} (i : Nat) (h : hl[i]? = some (blk b (mapOb kvs))) : MapAt H hl b kvs := .inr (List.mem_of_getElem? h)
theorem RepAu.rules {H : View} {a : Au} {vr vu vf : Value} (h : RepAu H a vr vu vf) : RulesAt H vu a.rules := by
  obtain ⟨cells, hs, hR⟩ := h.u
  have key : ∀ (rs : List Rl) (cells : List Value), RepL (RepR H) 3 rs cells → ∃ ps, ps.map (·.1) = rs ∧ cells = cellsP ps ∧ ∀ p ∈ ps, RVok H p := by
    intro rs cells hR
    induction hR with
    | nil => exact ⟨[], rfl, rfl, fun p hp => by cases hp⟩
    | @cons x cs xs ys hx hl ht ih =>
      obtain ⟨ps, h1, h2, h3⟩ := ih
      obtain ⟨a', cp, e, h4, h5, h6, h7⟩ := hx
      refine ⟨(x, .slice a' x.args.length cp) :: ps, by simp [h1], by rw [h2, e]; rfl, fun p hp => ?_⟩
      rcases List.mem_cons.1 hp with rfl | hp
      · exact ⟨h4, h7, h5, h6⟩
      · exact h3 p hp
  obtain ⟨ps, h1, rfl, h3⟩ := key _ _ hR
  have hl : ps.length = a.rules.length := by rw [← h1]; simp
  obtain ⟨a', cap, e, h4⟩ := hs
  exact ⟨ps, h1, ⟨a', cap, by rw [hl]; exact e⟩, ⟨a', cap, by rw [hl]; exact e, by rw [hl]; exact h4⟩, h3⟩
end Pal

/-
  Products of numbers by words. Own work. No statement of the seat is proved here.
-/
namespace Pal
open Go
structure MulI (xs ys os : List Nat) (i k c : Nat) : Prop where
  len : os.length = xs.length + ys.length
  ok : WordsOk os
  cl : c < 4294967296
  zer : ∀ j (h : j < os.length), i + ys.length ≤ j → os[j] = 0
  val : valW os + 4294967296 ^ (i + k) * c = valN xs i * valW ys + 4294967296 ^ i * (xs.getD i 0 * valN ys k)
theorem valN_zero (xs : List Nat) : valN xs 0 = 0 := rfl
theorem MulI.start (xs ys : List Nat) : MulI xs ys (List.replicate (xs.length + ys.length) 0) 0 0 0 :=
  ⟨by simp, fun w hw => by rw [List.mem_replicate] at hw; omega, by omega, fun j h _ => by simp, by rw [valW_zeros, valN_zero, valN_zero]; simp⟩
theorem MulI.step {xs ys os : List Nat} {i k c : Nat} (h : MulI xs ys os i k c) (hx : WordsOk xs) (hy : WordsOk ys) (hi : i < xs.length) (hk : k < ys.length) (hj : i + k < os.length) :
    xs[i] * ys[k] + os[i + k] + c < 18446744073709551616 ∧ MulI xs ys (os.set (i + k) ((xs[i] * ys[k] + os[i + k] + c) % 4294967296)) i (k + 1) ((xs[i] * ys[k] + os[i + k] + c) / 4294967296) := by
  have hx1 := hx _ (List.getElem_mem hi)
  have hy1 := hy _ (List.getElem_mem hk)
  have ho1 := h.ok _ (List.getElem_mem hj)
  obtain ⟨m1, m2⟩ := mul_step hx1 hy1 ho1 h.cl
  refine ⟨m1, by rw [List.length_set]; exact h.len, fun w hw => ?_, m2, fun j hj2 hij => ?_, ?_⟩
  · rcases List.mem_or_eq_of_mem_set hw with e | e
    · exact h.ok w e
    · rw [e]; exact Nat.mod_lt _ (by decide)
  · rw [List.getElem_set_ne (by omega)]; exact h.zer j (by simpa using hj2) hij
  · have hs := valW_set hj ((xs[i] * ys[k] + os[i + k] + c) % 4294967296)
    have hv := h.val
    have hyk : ys.getD k 0 = ys[k] := by simp [List.getD, hk]
    have hxi : xs.getD i 0 = xs[i] := by simp [List.getD, hi]
    rw [hxi] at hv ⊢
    rw [valN_succ, hyk]
    generalize xs[i] = x at *
    generalize ys[k] = y at *
    generalize hz : os[i + k] = z at *
    generalize hS : x * y + z + c = s at *
    have hdm := Nat.div_add_mod s 4294967296
    have e1 : 4294967296 ^ (i + k) * (4294967296 * (s / 4294967296)) + 4294967296 ^ (i + k) * (s % 4294967296) = 4294967296 ^ (i + k) * (x * y) + 4294967296 ^ (i + k) * z + 4294967296 ^ (i + k) * c := by
      rw [← Nat.mul_add, hdm, ← hS, Nat.mul_add, Nat.mul_add]
    have e2 : 4294967296 ^ (i + (k + 1)) * (s / 4294967296) = 4294967296 ^ (i + k) * (4294967296 * (s / 4294967296)) := by
      rw [← Nat.add_assoc, Nat.pow_succ, Nat.mul_assoc]
    have e3 : 4294967296 ^ i * (x * (valN ys k + 4294967296 ^ k * y)) = 4294967296 ^ i * (x * valN ys k) + 4294967296 ^ (i + k) * (x * y) := by
      rw [Nat.mul_add, Nat.mul_add, Nat.pow_add]
      congr 1
      rw [← Nat.mul_assoc x, Nat.mul_comm x, Nat.mul_assoc, Nat.mul_assoc]
    rw [e2, e3]
    omega
theorem MulI.next {xs ys os : List Nat} {i c : Nat} (h : MulI xs ys os i ys.length c) (hi : i < xs.length) : MulI xs ys (os.set (i + ys.length) c) (i + 1) 0 0 := by
  have hj : i + ys.length < os.length := by rw [h.len]; omega
  refine ⟨by rw [List.length_set]; exact h.len, fun w hw => ?_, by omega, fun j hj2 hij => ?_, ?_⟩
  · rcases List.mem_or_eq_of_mem_set hw with e | e
    · exact h.ok w e
    · rw [e]; exact h.cl
  · rw [List.getElem_set_ne (by omega)]; exact h.zer j (by simpa using hj2) (by omega)
  · have hs := valW_set hj c
    rw [h.zer _ hj (Nat.le_refl _), Nat.mul_zero, Nat.add_zero] at hs
    have hv := h.val
    rw [valN_all (Nat.le_refl _)] at hv
    rw [hs, valN_succ, valN_zero, Nat.mul_zero, Nat.mul_zero, Nat.mul_zero, Nat.add_mul, hv, Nat.mul_assoc]
theorem MulI.done {xs ys os : List Nat} {c : Nat} (h : MulI xs ys os xs.length 0 c) (hc : c = 0) : valW os = valW xs * valW ys := by
  subst hc
  have hv := h.val
  rw [valN_all (Nat.le_refl _), valN_zero] at hv
  omega
/-- A number below a power of the base has that many words. -/
theorem canon_len {ws : List Nat} {L : Nat} (h : Canon ws) (hv : valW ws < 4294967296 ^ L) : ws.length ≤ L := by
  rcases Nat.lt_or_ge L ws.length with h1 | h1
  · exfalso
    have hne : ws ≠ [] := by intro e; subst e; simp at h1
    obtain ⟨us, y, rfl⟩ : ∃ us y, ws = us ++ [y] := ⟨ws.dropLast, ws.getLast hne, (List.dropLast_concat_getLast hne).symm⟩
    have hy0 : y ≠ 0 := by intro e; subst e; exact h.2 (by simp)
    rw [valW_snoc] at hv
    have h2 : 4294967296 ^ L ≤ 4294967296 ^ us.length := Nat.pow_le_pow_right (by decide) (by simp at h1; omega)
    have h3 : 4294967296 ^ us.length * 1 ≤ 4294967296 ^ us.length * y := Nat.mul_le_mul_left _ (by omega)
    omega
  · exact h1
def kWords : Nat := 1048576
theorem kWords_eq : kWords = 1048576 := rfl
attribute [irreducible] kWords
def bigN : Nat := 4294967296 ^ kWords
theorem bigN_eq : bigN = 4294967296 ^ kWords := rfl
attribute [irreducible] bigN
theorem RepN.words {H : View} {v : Value} {n : Nat} (h : RepN H v n) (hn : n < bigN) : ∃ ws, UW H v ws ∧ valW ws = n ∧ ws.length ≤ 1048576 := by
  obtain ⟨ws, h1, h2, h3⟩ := h
  exact ⟨ws, h3, h2, kWords_eq ▸ canon_len h1 (by rw [h2, ← bigN_eq]; exact hn)⟩
end Pal

/-
  A tree's nodes with the number of runs for each state; the rules that apply. Own work. No statement of the seat is proved here.
-/
namespace Pal
open Go
inductive Nd where
  | mk (b lm : Nat) (l : List Nd)
def Nd.b : Nd → Nat | .mk b _ _ => b
def Nd.lm : Nd → Nat | .mk _ m _ => m
def Nd.l : Nd → List Nd | .mk _ _ l => l
mutual
/-- The maps of least runs, one for each node. -/
def Nd.maps (σ : Nat → KVs) : Nd → HL
  | .mk _ lm l => blk lm (mapOb (σ lm)) :: Nd.mapss σ l
def Nd.mapss (σ : Nat → KVs) : List Nd → HL
  | [] => []
  | n :: r => Nd.maps σ n ++ Nd.mapss σ r
end
def NatAt (H : View) (v : Value) (n : Nat) : Prop := ∃ xa k cp, v = .agg #[.slice xa k cp] ∧ RepN H (.slice xa k cp) n
theorem NatAt.mono {H H' : View} {v : Value} {n : Nat} (h : NatAt H v n) (hle : VLe H H') : NatAt H' v n := by
  obtain ⟨xa, k, cp, h1, h2⟩ := h
  exact ⟨xa, k, cp, h1, h2.mono hle⟩
def natZ : Value := .agg #[.slice none 0 0]
def RunP (H : View) (f : Int → Nat) (kvs : KVs) : Prop := (kvs.map (·.1)).Nodup ∧ ∀ q, (lookI kvs q = none → f q = 0) ∧ ∀ v, lookI kvs q = some v → 0 < f q ∧ NatAt H v (f q)
theorem RunP.mono {H H' : View} {f : Int → Nat} {kvs : KVs} (h : RunP H f kvs) (hle : VLe H H') : RunP H' f kvs := ⟨h.1, fun q => ⟨(h.2 q).1, fun v hv => ⟨((h.2 q).2 v hv).1, ((h.2 q).2 v hv).2.mono hle⟩⟩⟩
theorem RunP.nil (H : View) : RunP H (fun _ => 0) [] := ⟨by simp, fun q => ⟨fun _ => rfl, fun v hv => by simp [lookI, findI] at hv⟩⟩
theorem RunP.val {H : View} {f : Int → Nat} {kvs : KVs} (h : RunP H f kvs) (q : Int) : NatAt H ((lookI kvs q).getD natZ) (f q) := by
  cases hl : lookI kvs q with
  | none => exact ⟨none, 0, 0, rfl, by rw [(h.2 q).1 hl]; exact RepN.zero H⟩
  | some v => exact ((h.2 q).2 v hl).2
theorem RunP.isSome {H : View} {f : Int → Nat} {kvs : KVs} (h : RunP H f kvs) (q : Int) : (lookI kvs q).isSome = true ↔ 0 < f q := by
  cases hl : lookI kvs q with
  | none => have := (h.2 q).1 hl; simp; omega
  | some v => have := ((h.2 q).2 v hl).1; simp; omega
theorem RunP.set {H H' : View} {f : Int → Nat} {kvs : KVs} (h : RunP H f kvs) (hle : VLe H H') {q : Int} {n : Nat} {v : Value} (hn : 0 < n) (hv : NatAt H' v (f q + n)) : RunP H' (fun x => f x + if q = x then n else 0) (setI kvs q v) := by
  refine ⟨setI_keys q v h.1, fun x => ?_⟩
  rw [lookI_setI h.1]
  by_cases e : x = q
  · subst e
    dsimp only
    rw [if_pos rfl, if_pos rfl]
    exact ⟨fun h => (by cases h), fun u hu => by cases hu; exact ⟨by omega, hv⟩⟩
  · dsimp only
    rw [if_neg e, if_neg (fun (h : q = x) => e h.symm)]
    exact ⟨fun h1 => by have := (h.2 x).1 h1; omega, fun u hu => ⟨by have := ((h.2 x).2 u hu).1; omega, by simpa using ((h.2 x).2 u hu).2.mono hle⟩⟩
inductive RepNd (tn : TypeId) (H : View) (rs : List Rl) : Tr → Nd → Prop
  | mk (s : Int) (ts : List Tr) (b lm rb : Nat) (ns : List Nd) (a : Option Addr) (cap : Nat) (kvs : KVs) (hb : H b = some (.cells #[.slice a ts.length cap, .int .i64 s, mp rb, mp lm] tn (0, 0))) (hl : ns.length = ts.length)
    (hc : SlAt H (.slice a ts.length cap) ts.length (ns.map fun n => ptr n.b)) (hr : H rb = some (mapOb kvs)) (hq : RunP H (Tr.cnt rs (.node s ts)) kvs)
    (hch : ∀ i (h : i < ts.length) (h2 : i < ns.length), RepNd tn H rs ts[i] ns[i]) : RepNd tn H rs (.node s ts) (.mk b lm ns)
theorem RepNd.mono {tn : TypeId} {H H' : View} {rs : List Rl} {t : Tr} {nd : Nd} (h : RepNd tn H rs t nd) (hle : VLe H H') : RepNd tn H' rs t nd := by
  induction h with
  | mk s ts b lm rb ns a cap kvs hb hl hc hr hq hch ih => exact .mk s ts b lm rb ns a cap kvs (hle _ _ hb) hl (hc.mono hle) (hle _ _ hr) (hq.mono hle) ih
/-- What is known of a node's operands. -/
def ChAt (H : View) (a : Option Addr) (n : Nat) (f : Nat → Int → Nat) (kv : Nat → KVs) : Prop :=
  ∀ i, i < n → ∃ b off cb lv sv mv rb, a = some ⟨b, off, none⟩ ∧ At H b (off + i * 1) [ptr cb] ∧ At H cb 0 [lv, sv, mp rb, mv] ∧ H rb = some (mapOb (kv i)) ∧ RunP H (f i) (kv i)
theorem ChAt.mono {H H' : View} {a : Option Addr} {n : Nat} {f : Nat → Int → Nat} {kv : Nat → KVs} (h : ChAt H a n f kv) (hle : VLe H H') : ChAt H' a n f kv := by
  intro i hi
  obtain ⟨b, off, cb, lv, sv, mv, rb, h1, h2, h3, h4, h5⟩ := h i hi
  exact ⟨b, off, cb, lv, sv, mv, rb, h1, h2.mono hle, h3.mono hle, hle _ _ h4, h5.mono hle⟩
mutual
def Tr.fits (rs : List Rl) : Tr → Prop
  | .node s ts => (∀ r ∈ rs, r.sym = s → r.args.length = ts.length) ∧ Tr.fitss rs ts
def Tr.fitss (rs : List Rl) : List Tr → Prop
  | [] => True
  | t :: ts => Tr.fits rs t ∧ Tr.fitss rs ts
end
section
variable {P : Program} {n : Nat} {c : Cx} {Q : Exit → Act → World → Prop} {l : KL} {hl : HL} {H : View}
end
end Pal

/-
  Ranges over maps; trees that fit; states of a tree. Own work. No statement of the seat is proved here.
-/
namespace Pal
open Go
section
variable {P : Program} {n : Nat} {c : Cx} {Q : Exit → Act → World → Prop} {l : KL} {hl : HL} {H : View} {ops : Array Oper} {rest : List Oper} {d : Nat} {ty : TypeId} {pos : String} {aft : Array Edge}
theorem MapAt.perm {b : Nat} {kvs : KVs} {hl' : HL} (h : MapAt H hl b kvs) (hp : hl.Perm hl') : MapAt H hl' b kvs := h.imp id fun h => hp.mem_iff.1 h
end
def askErr (a : Au) (t : Tr) : Int := if auErr a ≠ 0 then auErr a else validErr a.ranks t
theorem validErr_zero {rk : List Int} {t : Tr} (h : validErr rk t = 0) : t.size ≤ 4096 ∧ Tr.nodesErr rk t = 0 := by
  unfold validErr at h
  split at h
  · rename_i h1; exact absurd h h1
  · split at h
    · omega
    · split at h
      · omega
      · exact ⟨by omega, h⟩
theorem RepNd.head {tn : TypeId} {H : View} {rs : List Rl} {t : Tr} {nd : Nd} (h : RepNd tn H rs t nd) : ∃ lv sv rb kvs, At H nd.b 0 [lv, sv, mp rb, mp nd.lm] ∧ H rb = some (mapOb kvs) ∧ RunP H (Tr.cnt rs t) kvs := by
  cases h with
  | mk s ts b lm rb ns a cap kvs hb hl hc hr hq hch => exact ⟨_, _, rb, kvs, At.of hb, hr, hq⟩
end Pal
namespace Pal
open Go
/-- The program's answers. -/
def accA (a : Au) (t : Tr) : Bool := decide (askErr a t = 0) && a.final.any fun q => decide (0 < t.cnt (sortO a.rules) q)
end Pal

/-
  Least runs with their memory: the maps of a tree's nodes. Own work. No statement of the seat is proved here.
-/
namespace Pal
open Go
inductive Md where
  | mk (lm : Nat) (kv : KVs) (l : List Md)
mutual
def Md.maps : Md → HL
  | .mk lm kv l => blk lm (mapOb kv) :: Md.mapss l
def Md.mapss : List Md → HL
  | [] => []
  | m :: r => Md.maps m ++ Md.mapss r
end
def LeastP (H : View) (f : Int → Option (List Int)) (kvs : KVs) : Prop := (kvs.map (·.1)).Nodup ∧ ∀ q v, lookI kvs q = some v → ∃ x, f q = some x ∧ SI H v x
theorem LeastP.mono {H H' : View} {f : Int → Option (List Int)} {kvs : KVs} (h : LeastP H f kvs) (hle : VLe H H') : LeastP H' f kvs :=
  ⟨h.1, fun q v hv => by obtain ⟨x, h1, h2⟩ := h.2 q v hv; exact ⟨x, h1, h2.mono hle⟩⟩
theorem LeastP.set {H H' : View} {f : Int → Option (List Int)} {kvs : KVs} (h : LeastP H f kvs) (hle : VLe H H') {q : Int} {v : Value} {x : List Int} (hx : f q = some x) (hv : SI H' v x) : LeastP H' f (setI kvs q v) := by
  refine ⟨setI_keys q v h.1, fun k u hu => ?_⟩
  rw [lookI_setI h.1] at hu
  by_cases e : k = q
  · rw [if_pos e] at hu; cases hu; subst e; exact ⟨x, hx, hv⟩
  · rw [if_neg e] at hu; exact (h.mono hle).2 k u hu
inductive MdOk (H : View) (rs : List Rl) : Tr → Nd → Md → Prop
  | mk (s : Int) (ts : List Tr) (b lm : Nat) (ns : List Nd) (kv : KVs) (ms : List Md) (h1 : ns.length = ts.length) (h2 : ms.length = ts.length) (hk : LeastP H (Tr.least rs (.node s ts)) kv)
    (hch : ∀ i (h : i < ts.length) (h2 : i < ns.length) (h3 : i < ms.length), MdOk H rs ts[i] ns[i] ms[i]) : MdOk H rs (.node s ts) (.mk b lm ns) (.mk lm kv ms)
theorem MdOk.mono {H H' : View} {rs : List Rl} {t : Tr} {nd : Nd} {md : Md} (h : MdOk H rs t nd md) (hle : VLe H H') : MdOk H' rs t nd md := by
  induction h with
  | mk s ts b lm ns kv ms h1 h2 hk hch ih => exact .mk s ts b lm ns kv ms h1 h2 (hk.mono hle) ih
mutual
def Nd.md : Nd → Md
  | .mk _ lm l => .mk lm [] (Nd.mds l)
def Nd.mds : List Nd → List Md
  | [] => []
  | n :: r => Nd.md n :: Nd.mds r
end
section
variable {P : Program} {n : Nat} {c : Cx} {Q : Exit → Act → World → Prop} {l : KL} {hl : HL} {H : View} {ops : Array Oper} {rest : List Oper}
end
/-! ### The plain law -/
/-- The best run so far, in its cell. -/
def BestW (H : View) (w : Value) (o : Option (List Int)) : Prop := (o = none ∧ w = nilS) ∨ ∃ x a cp, o = some x ∧ w = .slice (some a) x.length cp ∧ SI H w x ∧ x.length ≤ 1048577
theorem BestW.mono {H H' : View} {w : Value} {o : Option (List Int)} (h : BestW H w o) (hle : VLe H H') : BestW H' w o := by
  rcases h with h | ⟨x, a, cp, h1, h2, h3, h4⟩
  · exact .inl h
  · exact .inr ⟨x, a, cp, h1, h2, h3.mono hle, h4⟩
end Pal

/-
  The reference's enumeration of runs: lists of pairs, their number. Own work. No statement of the seat is proved here.
-/
namespace Pal
open Go
section
variable {P : Program} {l : KL} {hl : HL} {H : View} {ty : TypeId}
end
theorem Sat.nil {P : Program} {f : FuncId} {args : Array Value} {H : View} {post : Value → View → Prop} (h : Sat P f args H post) : SatO P f args H [] (fun v H' q => q = [] ∧ post v H') := by
  intro w hw
  refine Calls.mono (h w hw) ?_
  rintro e w' ⟨v, H', q, rfl, hok, hp⟩
  exact ⟨v, H', [], rfl, hok.sublist (List.nil_sublist _), rfl, hp⟩
/-- A call that reads something owned. -/
theorem Sat.lend {P : Program} {f : FuncId} {args : Array Value} {H : View} (en : Own) {post : Value → Prop} (h : ∀ H2, VLe H H2 → en.holds H2 → Sat P f args H2 (fun v _ => post v)) : SatO P f args H [en] (fun v H' q => H' = H ∧ q = [en] ∧ post v) := by
  have h2 := SatO.lend (P := P) (f := f) (args := args) (H := H) (hl := []) [en] (post := fun v q => q = [] ∧ post v) (fun H2 hle hh => (h H2 hle (hh en List.mem_cons_self)).nil)
  refine SatO.mono' h2 ?_
  rintro v H' q ⟨rfl, q', rfl, rfl, hp⟩
  exact ⟨rfl, rfl, hp⟩
end Pal

/-
  The values of the small automaton that a law's own test runs on, and what the laws of reachable states and of runs come to: the
  library's answers and the reference's, told over the same sorted rules, are alike. Plain Lean, no program. Own work.
-/
namespace Go.Proofs.X
open Go Pal Go.Proofs
theorem accA_no {a : Au} {t : Tr} (h : askErr a t ≠ 0) : accA a t = false := by
  unfold accA
  rw [decide_eq_false h, Bool.false_and]
theorem BestW.si {H : View} {w : Value} {o : Option (List Int)} (h : BestW H w o) : SI H w (o.getD []) ∧ (o.getD []).length ≤ 1048577 := by
  rcases h with ⟨rfl, rfl⟩ | ⟨x, a, cp, rfl, rfl, h3, h4⟩
  · exact ⟨⟨⟨none, 0, rfl, .inl ⟨rfl, rfl⟩⟩, fun x hx => by cases hx⟩, Nat.zero_le _⟩
  · exact ⟨h3, h4⟩
section rules
variable {P : Program} {n : Nat} {c : Cx} {l : KL} {hl : HL} {H : View} {v : Value} {ty : TypeId} {pos : String} {aft : Array Edge} {g : Option (Nat × Bool)} {ol : List Oper} {keep : HL} {fin : Bool} {T : ST} {R : List Nat} {i : Nat}
end rules
end Go.Proofs.X

/-
  Automata up to order and duplicates: sorted forms of sorted forms, the reference's Same, and the automaton with nothing in it that stands beside
  an error. Plain Lean, no program. Own work.
-/
namespace Go.Proofs.X
open Go Pal Go.Proofs
deriving instance DecidableEq for Rl
def zeroA : Au := ⟨[], 0, [], []⟩
def errAu (e : Int) (b : Au) : Au := if e = 0 then b else zeroA
theorem errAu_ok {e : Int} {b : Au} (h : e = 0) : errAu e b = b := if_pos h
theorem errAu_no {e : Int} {b : Au} (h : e ≠ 0) : errAu e b = zeroA := if_neg h
end Go.Proofs.X

/-
  The image and the inverse image of an automaton under a mapping of symbols, in plain Lean, with the rules that a walk over a row of rules
  needs that is changed in place. Own work. No statement of the seat is proved here.
-/
namespace Pal
open Go Go.Proofs Go.Proofs.X
def turnErr (a : Au) (rk : List Int) : Int := if auErr a ≠ 0 then auErr a else ranksErr rk
def relErr (a : Au) (l rk : List Int) : Int := if turnErr a rk ≠ 0 then turnErr a rk else if mapsM l a.ranks rk = true then 0 else 3
def imgR (l : List Int) (r : Rl) : Rl := ⟨l.getD r.sym.toNat 0, r.args, r.to⟩
def imgA (a : Au) (l rk : List Int) : Au := ⟨rk, a.states, a.rules.map (imgR l), a.final⟩
theorem imgA_ok {a : Au} {l rk : List Int} (h : AuOk a) (hr : ranksErr rk = 0) (hm : mapsM l a.ranks rk = true) : AuOk (imgA a l rk) := by
  obtain ⟨h1, h2⟩ := mapsM_iff.1 hm
  obtain ⟨r1, r2⟩ := ranksErr_ok hr
  refine ⟨r1, r2, h.st, by simpa [imgA] using h.ul, fun r hr => ?_, h.fi⟩
  obtain ⟨q, hq, rfl⟩ := List.mem_map.1 hr
  obtain ⟨k1, k2, k3, k4, k5⟩ := h.ru q hq
  have hlt : q.sym.toNat < l.length := by omega
  have e := h2 q.sym.toNat hlt (by omega)
  have e0 : l.getD q.sym.toNat 0 = l[q.sym.toNat] := by simp [List.getD, hlt]
  refine ⟨?_, ?_, ?_, k4, k5⟩
  · show 0 ≤ l.getD q.sym.toNat 0
    rw [e0]; exact e.1.1
  · show l.getD q.sym.toNat 0 < _
    rw [e0]; exact e.1.2
  · show (q.args.length : Int) = rk.getD (l.getD q.sym.toNat 0).toNat 0
    have hlt2 : q.sym.toNat < a.ranks.length := by omega
    rw [e0, e.2, k3]
    simp [List.getD, hlt2]
def imgP (l : List Int) (p : Rl × Value) : Rl × Value := (imgR l p.1, p.2)
def qsAt (l : List Int) (ps : List (Rl × Value)) (k : Nat) : List (Rl × Value) := (ps.take k).map (imgP l) ++ ps.drop k
theorem qsAt_len (l : List Int) (ps : List (Rl × Value)) (k : Nat) : (qsAt l ps k).length = ps.length := by
  simp only [qsAt, List.length_append, List.length_map, List.length_take, List.length_drop]; omega
theorem qsAt_zero (l : List Int) (ps : List (Rl × Value)) : qsAt l ps 0 = ps := by simp [qsAt]
theorem qsAt_full (l : List Int) (ps : List (Rl × Value)) : qsAt l ps ps.length = ps.map (imgP l) := by simp [qsAt]
theorem qsAt_get {l : List Int} {ps : List (Rl × Value)} {k : Nat} (hk : k < ps.length) : (qsAt l ps k)[k]'(by rw [qsAt_len]; exact hk) = ps[k] := by
  have h0 : ((ps.take k).map (imgP l)).length = k := by simp; omega
  simp only [qsAt]
  rw [List.getElem_append_right (by omega)]
  simp only [h0, Nat.sub_self, List.getElem_drop]
  rfl
theorem qsAt_set {l : List Int} {ps : List (Rl × Value)} {k : Nat} (hk : k < ps.length) : (qsAt l ps k).set k (imgP l ps[k]) = qsAt l ps (k + 1) := by
  have h0 : ((ps.take k).map (imgP l)).length = k := by simp; omega
  unfold qsAt
  rw [List.set_append_right _ _ (by omega), h0, Nat.sub_self, List.drop_eq_getElem_cons hk, List.set_cons_zero, List.take_succ_eq_append_getElem hk, List.map_append, List.append_assoc]
  rfl
theorem put_sym (qs : List (Rl × Value)) (tail : List Value) {k off : Nat} (hk : k < qs.length) (ho : off = k * 3) (x : Int) :
    putCells (cellsP qs ++ tail).toArray off [.int .i64 x] = (cellsP (qs.set k (⟨x, qs[k].1.args, qs[k].1.to⟩, qs[k].2)) ++ tail).toArray := by
  subst ho
  unfold putCells putL
  congr 1
  have e : qs = qs.take k ++ qs[k] :: qs.drop (k + 1) := by simp
  have e2 : qs.set k (⟨x, qs[k].1.args, qs[k].1.to⟩, qs[k].2) = qs.take k ++ (⟨x, qs[k].1.args, qs[k].1.to⟩, qs[k].2) :: qs.drop (k + 1) := List.set_eq_take_append_cons_drop .. |>.trans (by rw [if_pos hk])
  have hl : (cellsP (qs.take k)).length = k * 3 := by rw [cellsP_len, List.length_take, Nat.min_eq_left (by omega)]
  have h2 : cellsP qs ++ tail = cellsP (qs.take k) ++ (.int .i64 qs[k].1.sym :: ([qs[k].2, .int .i64 qs[k].1.to] ++ (cellsP (qs.drop (k + 1)) ++ tail))) := by
    have hc : cellsP qs = cellsP (qs.take k) ++ (cellRV qs[k] ++ cellsP (qs.drop (k + 1))) := by
      conv => lhs; rw [e]
      unfold cellsP; rw [List.flatMap_append, List.flatMap_cons]
    rw [hc]
    simp only [List.append_assoc]
    rfl
  have h3 : cellsP (qs.set k (⟨x, qs[k].1.args, qs[k].1.to⟩, qs[k].2)) ++ tail = cellsP (qs.take k) ++ (.int .i64 x :: ([qs[k].2, .int .i64 qs[k].1.to] ++ (cellsP (qs.drop (k + 1)) ++ tail))) := by
    rw [e2]
    unfold cellsP
    rw [List.flatMap_append, List.flatMap_cons]
    simp only [List.append_assoc]
    rfl
  show (cellsP qs ++ tail).take (k * 3) ++ [Value.int .i64 x] ++ (cellsP qs ++ tail).drop (k * 3 + 1) = _
  have ht : (cellsP qs ++ tail).take (k * 3) = cellsP (qs.take k) := by rw [h2]; exact List.take_left' hl
  have hd : (cellsP qs ++ tail).drop (k * 3 + 1) = [qs[k].2, .int .i64 qs[k].1.to] ++ (cellsP (qs.drop (k + 1)) ++ tail) := by
    rw [h2, List.drop_append, hl, List.drop_of_length_le (by omega), show k * 3 + 1 - k * 3 = 1 by omega]
    rfl
  rw [hd, ht, h3, List.append_assoc]
  rfl
theorem put_img {l : List Int} {ps : List (Rl × Value)} {k off : Nat} (tail : List Value) (hk : k < ps.length) (ho : off = k * 3) :
    putCells (cellsP (qsAt l ps k) ++ tail).toArray off [.int .i64 (l.getD ps[k].1.sym.toNat 0)] = (cellsP (qsAt l ps (k + 1)) ++ tail).toArray := by
  have hk2 : k < (qsAt l ps k).length := by rw [qsAt_len]; exact hk
  rw [put_sym (qsAt l ps k) tail hk2 ho]
  have e : ((⟨l.getD ps[k].1.sym.toNat 0, (qsAt l ps k)[k].1.args, (qsAt l ps k)[k].1.to⟩ : Rl), (qsAt l ps k)[k].2) = imgP l ps[k] := by rw [qsAt_get hk]; rfl
  rw [e, qsAt_set hk]
section rules
variable {P : Program} {n : Nat} {c : Cx} {Q : Exit → Act → World → Prop} {l : KL} {hl : HL} {H : View}
theorem KQ_pubmany {x : Exit} {ti : TypeId} {ps : List (Rl × Value)} (hb : ∀ p ∈ ps, RlB p.1) (h : ∀ H', VLe H H' → (∀ p ∈ ps, RVok H' p) → KQ n c Q x l hl H') : KQ n c Q x l (many (rowsFrom ti ps) :: hl) H := by
  intro ρ w hm ho
  obtain ⟨H', h1, h2, h3⟩ := ho.pub_many hb
  exact h H' h1 h2 ρ w hm h3
end rules
end Pal

/-
  Trees with turned symbols; when a run exists; images and inverse images accept alike. Plain Lean, no program. Own work.
-/
namespace Pal
open Go Go.Proofs Go.Proofs.X
def turnS (l : List Int) (s : Int) : Int := if 0 ≤ s ∧ s < l.length then l.getD s.toNat 0 else 0
mutual
def Tr.turn (l : List Int) : Tr → Tr
  | .node s ts => .node (turnS l s) (Tr.turns l ts)
def Tr.turns (l : List Int) : List Tr → List Tr
  | [] => []
  | t :: r => Tr.turn l t :: Tr.turns l r
end
theorem sum_pos_iff {α : Type} (f : α → Nat) : ∀ l : List α, 0 < (l.map f).sum ↔ ∃ x ∈ l, 0 < f x
  | [] => by simp
  | a :: l => by
    have ih := sum_pos_iff f l
    simp only [List.map_cons, List.sum_cons, List.mem_cons, exists_eq_or_imp]
    rw [← ih]; omega
theorem Tr.cnt_pos {rs : List Rl} {s : Int} {ts : List Tr} {q : Int} : 0 < Tr.cnt rs (.node s ts) q ↔ ∃ r ∈ rs, r.sym = s ∧ r.to = q ∧ 0 < Tr.cnts rs ts r.args := by
  rw [Tr.cnt, sum_pos_iff]
  constructor
  · rintro ⟨r, hr, h⟩
    obtain ⟨h1, h2⟩ := List.mem_filter.1 hr
    have h3 := of_decide_eq_true h2
    exact ⟨r, h1, h3.1, h3.2, h⟩
  · rintro ⟨r, h1, h2, h3, h⟩
    exact ⟨r, List.mem_filter.2 ⟨h1, decide_eq_true ⟨h2, h3⟩⟩, h⟩
theorem Tr.cnts_pos {rs : List Rl} {t : Tr} {ts : List Tr} {q : Int} {qs : List Int} : 0 < Tr.cnts rs (t :: ts) (q :: qs) ↔ 0 < Tr.cnt rs t q ∧ 0 < Tr.cnts rs ts qs := by
  rw [Tr.cnts]
  constructor
  · intro h
    exact ⟨Nat.pos_of_ne_zero fun e => by rw [e] at h; simp at h, Nat.pos_of_ne_zero fun e => by rw [e] at h; simp at h⟩
  · rintro ⟨h1, h2⟩; exact Nat.mul_pos h1 h2
mutual
theorem Tr.cnt_mono {rs rs' : List Rl} (h : ∀ x ∈ rs, x ∈ rs') : ∀ (t : Tr) (q : Int), 0 < t.cnt rs q → 0 < t.cnt rs' q
  | .node s ts, q, hp => by
    obtain ⟨r, h1, h2, h3, h4⟩ := Tr.cnt_pos.1 hp
    exact Tr.cnt_pos.2 ⟨r, h r h1, h2, h3, Tr.cnts_mono h ts r.args h4⟩
theorem Tr.cnts_mono {rs rs' : List Rl} (h : ∀ x ∈ rs, x ∈ rs') : ∀ (ts : List Tr) (qs : List Int), 0 < Tr.cnts rs ts qs → 0 < Tr.cnts rs' ts qs
  | [], [], _ => Nat.one_pos
  | t :: ts, q :: qs, hp => by
    obtain ⟨h1, h2⟩ := Tr.cnts_pos.1 hp
    exact Tr.cnts_pos.2 ⟨Tr.cnt_mono h t q h1, Tr.cnts_mono h ts qs h2⟩
  | [], _ :: _, hp => absurd hp (Nat.lt_irrefl 0)
  | _ :: _, [], hp => absurd hp (Nat.lt_irrefl 0)
end
theorem cnt_sortO (rs : List Rl) (t : Tr) (q : Int) : 0 < t.cnt (sortO rs) q ↔ 0 < t.cnt rs q :=
  ⟨Tr.cnt_mono (fun _ h => sortO_mem.1 h) t q, Tr.cnt_mono (fun _ h => sortO_mem.2 h) t q⟩
theorem accA_iff {a : Au} {t : Tr} : accA a t = true ↔ askErr a t = 0 ∧ ∃ q ∈ a.final, 0 < t.cnt a.rules q := by
  unfold accA
  rw [Bool.and_eq_true, decide_eq_true_eq, List.any_eq_true]
  simp only [decide_eq_true_eq, cnt_sortO]
theorem norm_err {a : Au} (h : auErr a = 0) : auErr (normA a) = 0 := by
  have hok := AuOk.of h
  have hr : ranksErr a.ranks = 0 := by
    unfold auErr at h
    split at h
    · rename_i h1; exact absurd h h1
    · rename_i h1; exact Decidable.not_not.1 h1
  exact (normA_ok hok).err hr
theorem ranks_of_auErr {a : Au} (h : auErr a = 0) : ranksErr a.ranks = 0 := by
  unfold auErr at h
  split at h
  · rename_i h1; exact absurd h h1
  · rename_i h1; exact Decidable.not_not.1 h1
theorem ask_norm {a : Au} (h : auErr a = 0) (t : Tr) : askErr (normA a) t = askErr a t := by
  unfold askErr
  rw [if_neg (not_not_intro (norm_err h)), if_neg (not_not_intro h)]
  rfl
theorem bool_iff {a b : Bool} (h : a = true ↔ b = true) : a = b := by cases a <;> cases b <;> simp_all
theorem acc_norm {a : Au} (h : auErr a = 0) (t : Tr) : accA (normA a) t = accA a t := bool_iff (by
  rw [accA_iff, accA_iff, ask_norm h]
  show _ ∧ (∃ q ∈ sortI a.final, 0 < t.cnt (sortO a.rules) q) ↔ _
  simp only [sortI_mem, cnt_sortO])
/-! ### Images and inverse images -/
mutual
theorem Tr.cnt_img {l : List Int} {rs : List Rl} : ∀ (t u : Tr), Tr.relabel l t = some u → ∀ q, 0 < t.cnt rs q → 0 < u.cnt (rs.map (imgR l)) q
  | .node s ts, u, h, q, hp => by
    simp only [Tr.relabel] at h
    split at h
    · rename_i hs
      cases hr : Tr.relabels l ts with
      | none => rw [hr] at h; simp at h
      | some us =>
        rw [hr] at h
        simp only [Option.map_some, Option.some.injEq] at h
        subst h
        obtain ⟨r, h1, h2, h3, h4⟩ := Tr.cnt_pos.1 hp
        exact Tr.cnt_pos.2 ⟨imgR l r, List.mem_map.2 ⟨r, h1, rfl⟩, by subst h2; rfl, h3, Tr.cnts_img ts us hr r.args h4⟩
    · cases h
theorem Tr.cnts_img {l : List Int} {rs : List Rl} : ∀ (ts us : List Tr), Tr.relabels l ts = some us → ∀ qs, 0 < Tr.cnts rs ts qs → 0 < Tr.cnts (rs.map (imgR l)) us qs
  | [], us, h, qs, hp => by
    simp [Tr.relabels] at h; subst h
    cases qs with
    | nil => exact Nat.one_pos
    | cons q qs => exact absurd hp (Nat.lt_irrefl 0)
  | t :: r, us, h, qs, hp => by
    simp only [Tr.relabels] at h
    cases ht : Tr.relabel l t with
    | none => rw [ht] at h; cases h
    | some u =>
      rw [ht] at h
      cases hr : Tr.relabels l r with
      | none => rw [hr] at h; simp at h
      | some vs =>
        rw [hr] at h
        simp only [Option.map_some, Option.some.injEq] at h
        subst h
        cases qs with
        | nil => exact absurd hp (Nat.lt_irrefl 0)
        | cons q qs =>
          obtain ⟨h1, h2⟩ := Tr.cnts_pos.1 hp
          exact Tr.cnts_pos.2 ⟨Tr.cnt_img t u ht q h1, Tr.cnts_img r vs hr qs h2⟩
end
end Pal

/-
  Trimming: the states that come about and lead on, the automaton that is left, and its runs. Plain Lean, no program. Own work.
-/
namespace Pal
open Go Go.Proofs Go.Proofs.X
/-! ### Marks -/
def onL (m : List Bool) (q : Int) : Bool := m.getD q.toNat false
theorem onL_get {m : List Bool} {q : Int} {k : Nat} (hk : q.toNat = k) (h : k < m.length) : onL m q = m[k] := by
  unfold onL; rw [hk]; simp [List.getD, h]
/-- The same, or more marks. -/
structure Up (m m' : List Bool) : Prop where
  len : m'.length = m.length
  le : ∀ q, onL m q = true → onL m' q = true
  cnt : m' = m ∨ m.count true < m'.count true
theorem Up.refl (m : List Bool) : Up m m := ⟨rfl, fun _ h => h, .inl rfl⟩
theorem Up.trans {m m' m'' : List Bool} (h : Up m m') (h' : Up m' m'') : Up m m'' := by
  refine ⟨h'.len.trans h.len, fun q hq => h'.le q (h.le q hq), ?_⟩
  rcases h.cnt with rfl | h1
  · exact h'.cnt
  · rcases h'.cnt with rfl | h2
    · exact .inr h1
    · exact .inr (by omega)
theorem Up.back {m m' m'' : List Bool} (h : Up m m') (h' : Up m' m'') (e : m'' = m) : m' = m := by
  subst e
  rcases h.cnt with h1 | h1
  · exact h1
  · rcases h'.cnt with h2 | h2
    · exact h2.symm
    · omega
end Pal

/-
  Marks and numbers in a block, asx a walk over Trim meets them. Own work. No statement of the seat is proved here.
-/
namespace Pal
open Go Go.Proofs Go.Proofs.X
def mkL (m : List Bool) : Array Value := (m.map Value.bool).toArray
theorem mkL_get {m : List Bool} {q : Int} {off : Nat} (h : q.toNat < m.length) (ho : off = q.toNat) : (mkL m)[off]? = some (.bool (onL m q)) := by
  subst ho
  rw [onL_get rfl h]
  simp [mkL, h]
theorem At.mark {H : View} {b : Nat} {m : List Bool} {q : Int} (h : At H b 0 (mkL m).toList) (hq : q.toNat < m.length) : At H b (0 + q.toNat * 1) [.bool (onL m q)] := by
  rw [Nat.mul_one]
  exact h.one (by rw [Array.getElem?_toList]; exact mkL_get hq rfl)
def fnC (n : Nat) (f : Nat → Int) : Array Value := ((List.range n).map fun (x : Nat) => Value.int .i64 (f x)).toArray
theorem fnC_get {n off : Nat} {f : Nat → Int} (h : off < n) : (fnC n f)[off]? = some (.int .i64 (f off)) := by simp [fnC, h]
theorem At.fn {H : View} {b n : Nat} {f : Nat → Int} {q : Int} (h : At H b 0 (fnC n f).toList) (hq : q.toNat < n) : At H b (0 + q.toNat * 1) [.int .i64 (f q.toNat)] := by
  rw [Nat.mul_one]
  exact h.one (by rw [Array.getElem?_toList]; exact fnC_get hq)
end Pal
namespace Pal
open Go Go.Proofs Go.Proofs.X
/-! ### As the reference trims -/
end Pal
namespace Pal
open Go Go.Proofs Go.Proofs.X
end Pal

/-
  An owned automaton that is read, and changed cell by cell. Own work. No statement of the seat is proved here.
-/
namespace Pal
open Go Go.Proofs Go.Proofs.X
theorem flat_split {α : Type} {f : α → List Value} {qs : List α} {k : Nat} (hk : k < qs.length) : qs.flatMap f = (qs.take k).flatMap f ++ (f qs[k] ++ (qs.drop (k + 1)).flatMap f) := by
  have e : qs = qs.take k ++ qs[k] :: qs.drop (k + 1) := by simp
  conv => lhs; rw [e]
  rw [List.flatMap_append, List.flatMap_cons]
theorem flat_lenN {α : Type} {f : α → List Value} {sz : Nat} (hsz : ∀ x, (f x).length = sz) : ∀ qs : List α, (qs.flatMap f).length = qs.length * sz
  | [] => by simp
  | q :: qs => by rw [List.flatMap_cons, List.length_append, hsz, flat_lenN hsz qs, List.length_cons, Nat.succ_mul]; omega
theorem flat_cell {α : Type} {f : α → List Value} {sz : Nat} (hsz : ∀ x, (f x).length = sz) {qs : List α} {k j off : Nat} {v : Value} (hk : k < qs.length) (ho : off = k * sz + j) (tail : List Value) (hv : (f qs[k])[j]? = some v) : (qs.flatMap f ++ tail).toArray[off]? = some v := by
  subst ho
  have hj : j < (f qs[k]).length := (List.getElem?_eq_some_iff.1 hv).1
  have hl : ((qs.take k).flatMap f).length = k * sz := by rw [flat_lenN hsz, List.length_take, Nat.min_eq_left (by omega)]
  rw [List.getElem?_toArray, flat_split hk, List.append_assoc, List.getElem?_append_right (by omega), hl, Nat.add_sub_cancel_left, List.append_assoc, List.getElem?_append_left hj]
  exact hv
theorem set_mid {α : Type} {qs : List α} {k : Nat} (hk : k < qs.length) (q : α) : qs.take k ++ q :: qs.drop (k + 1) = qs.set k q := by
  rw [List.set_eq_take_append_cons_drop, if_pos hk]
theorem mid_len {α : Type} {qs : List α} {k : Nat} (hk : k < qs.length) (q : α) : (qs.take k ++ q :: qs.drop (k + 1)).length = qs.length := by rw [set_mid hk, List.length_set]
theorem mid_get {α : Type} {qs : List α} {k : Nat} (hk : k < qs.length) (q : α) : (qs.take k ++ q :: qs.drop (k + 1))[k]'(by rw [mid_len hk]; exact hk) = q := by
  have h0 : (qs.take k).length = k := by rw [List.length_take]; omega
  rw [List.getElem_append_right (by omega)]
  simp only [h0, Nat.sub_self, List.getElem_cons_zero]
section rules
variable {P : Program} {n : Nat} {c : Cx} {Q : Exit → Act → World → Prop} {l : KL} {hl : HL} {H : View}
end rules
end Pal
namespace Pal
open Go Go.Proofs Go.Proofs.X
end Pal
namespace Pal
end Pal

/-
  The subset construction keeps the language, and all its states are reached. Plain Lean, no program. Own work.
-/
namespace Pal
open Go Go.Proofs Go.Proofs.X
/-- The states of a tree, asx a subset. -/
def setT (a : Au) (t : Tr) : List Int := subL a.states.toNat fun s => decide (0 < t.cnt a.rules (s : Int))
theorem mem_setT {a : Au} {t : Tr} {q : Int} : q ∈ setT a t ↔ (0 ≤ q ∧ q < a.states) ∧ 0 < t.cnt a.rules q := by
  constructor
  · intro h
    obtain ⟨s, hs, rfl⟩ := List.mem_map.1 h
    obtain ⟨h1, h2⟩ := List.mem_filter.1 hs
    have := List.mem_range.1 h1
    exact ⟨by omega, of_decide_eq_true h2⟩
  · rintro ⟨⟨h0, h1⟩, h2⟩
    have := (mem_subL (m := a.states.toNat) (p := fun s => decide (0 < t.cnt a.rules (s : Int))) (s := q.toNat)).2 ⟨by omega, by rw [Int.toNat_of_nonneg h0]; exact decide_eq_true h2⟩
    rwa [Int.toNat_of_nonneg h0] at this
theorem cnts_pos_iff {rs : List Rl} : ∀ {ts : List Tr} {qs : List Int}, 0 < Tr.cnts rs ts qs ↔ ts.length = qs.length ∧ ∀ i (h : i < ts.length), 0 < ts[i].cnt rs (qs.getD i 0)
  | [], [] => by simp [Tr.cnts]
  | [], _ :: _ => by simp [Tr.cnts]
  | _ :: _, [] => by simp [Tr.cnts]
  | t :: ts, q :: qs => by
    rw [Tr.cnts_pos, cnts_pos_iff]
    constructor
    · rintro ⟨h1, h2, h3⟩
      refine ⟨by simp [h2], fun i hi => ?_⟩
      cases i with
      | zero => simpa using h1
      | succ i => simpa using h3 i (by simpa using hi)
    · rintro ⟨h1, h2⟩
      refine ⟨h2 0 (Nat.zero_lt_succ _), by simpa using h1, fun i hi => h2 (i + 1) (Nat.succ_lt_succ hi)⟩
theorem next_set {a : Au} (ha : AuOk a) {s : Int} {ts : List Tr} (hl : ∀ r ∈ a.rules, r.sym = s → r.args.length = ts.length) : refNext a s (ts.map (setT a)) = setT a (.node s ts) := by
  rw [refNext_sub]
  refine subL_congr fun q hq => ?_
  refine Bool.eq_iff_iff.2 ?_
  rw [List.any_eq_true, decide_eq_true_eq, Tr.cnt_pos]
  constructor
  · rintro ⟨r, hr, h⟩
    simp only [fitR, Bool.and_eq_true, decide_eq_true_eq, hasAll, List.all_eq_true, List.mem_range, List.length_map] at h
    refine ⟨r, hr, h.1.1, h.1.2, cnts_pos_iff.2 ⟨(hl r hr h.1.1).symm, fun i hi => ?_⟩⟩
    have h2 := h.2 i hi
    have e : (ts.map (setT a)).getD i [] = setT a ts[i] := by simp [List.getD, hi]
    rw [e] at h2
    exact (mem_setT.1 h2).2
  · rintro ⟨r, hr, h1, h2, h3⟩
    obtain ⟨h4, h5⟩ := cnts_pos_iff.1 h3
    refine ⟨r, hr, ?_⟩
    simp only [fitR, Bool.and_eq_true, decide_eq_true_eq, hasAll, List.all_eq_true, List.mem_range, List.length_map]
    refine ⟨⟨h1, h2⟩, fun i hi => ?_⟩
    have e : (ts.map (setT a)).getD i [] = setT a ts[i] := by simp [List.getD, hi]
    rw [e]
    have hi2 : i < r.args.length := by omega
    have e2 : r.args.getD i 0 = r.args[i] := by simp [List.getD, hi2]
    have h6 := (ha.ru r hr).2.2.2.1 r.args[i] (List.getElem_mem hi2)
    exact mem_setT.2 ⟨by rw [e2]; exact h6, h5 i hi⟩
theorem place_tups {n m : Nat} {xs : List Int} (h : xs ∈ tups n m) : ∃ i, i < (tups n m).length ∧ placeM n xs = (i : Int) ∧ (tups n m)[i]? = some xs := by
  obtain ⟨i, hi, e⟩ := List.getElem_of_mem h
  exact ⟨i, hi, by rw [← e]; exact tups_at hi, by rw [List.getElem?_eq_getElem hi, e]⟩
theorem refFind_in {l : List (List Int)} {s : List Int} (h : s ∈ l) : 0 ≤ refFind l s ∧ refFind l s < l.length ∧ l.getD (refFind l s).toNat [] = s := by
  have h1 := List.idxOf_lt_length_of_mem h
  have e : refFind l s = (l.idxOf s : Int) := if_pos h
  rw [e]
  refine ⟨by omega, by omega, ?_⟩
  rw [Int.toNat_natCast]
  simp [List.getD, idxOf_getElem? h]
theorem from_at {a : Au} {s : Int} {xs : List Int} (h0 : 0 ≤ s ∧ s < a.ranks.length) (hx : xs ∈ tups (refSubs a).length (rankN a s.toNat)) : atM (refFrom a) s xs = refFind (refSubs a) (refNext a s (ofM (refSubs a) xs)) := by
  obtain ⟨i, hi, e1, e2⟩ := place_tups hx
  have hs : s.toNat < a.ranks.length := by omega
  have hacc : (refFrom a).acc.length = (refSubs a).length := by simp [refFrom, refFinal]
  have e3 : (refFrom a).to.getD s.toNat [] = refTo a (refSubs a) s.toNat := by simp [refFrom, List.getD, hs]
  unfold atM
  rw [hacc, e3, e1, Int.toNat_natCast]
  unfold refTo
  have e4 : (tups (refSubs a).length (a.ranks.getD s.toNat 0).toNat)[i]? = some xs := e2
  rw [List.getD_eq_getElem?_getD, List.getElem?_map, e4, Int.toNat_of_nonneg h0.1]
  rfl
theorem node_rank {rk : List Int} {s : Int} {ts : List Tr} (h : Tr.nodesErr rk (.node s ts) = 0) : (0 ≤ s ∧ s < rk.length) ∧ (ts.length : Int) = rk.getD s.toNat 0 ∧ ∀ t ∈ ts, Tr.nodesErr rk t = 0 := Tr.nodesErr_zero.1 h
mutual
theorem run_set {a : Au} (he : auErr a = 0) (h6 : a.states ≤ 6) : ∀ t : Tr, Tr.nodesErr a.ranks t = 0 → (0 ≤ Tr.run (refFrom a) t ∧ Tr.run (refFrom a) t < (refSubs a).length) ∧ (refSubs a).getD (Tr.run (refFrom a) t).toNat [] = setT a t
  | .node s ts, h => by
    obtain ⟨h0, h1, h2⟩ := node_rank h
    have hok := AuOk.of he
    obtain ⟨g1, g2⟩ := runs_set he h6 ts h2
    have hs : s.toNat < a.ranks.length := by omega
    have hlen : (Tr.runs (refFrom a) ts).length = ts.length := by rw [Tr.runs_map, List.length_map]
    have hx : Tr.runs (refFrom a) ts ∈ tups (refSubs a).length (rankN a s.toNat) := mem_tups.2 ⟨by rw [hlen]; unfold rankN; omega, g1⟩
    have hcl := (refSubs_closed he h6).2 s.toNat hs _ hx
    rw [Int.toNat_of_nonneg h0.1] at hcl
    obtain ⟨k1, k2, k3⟩ := refFind_in hcl
    have e : Tr.run (refFrom a) (.node s ts) = refFind (refSubs a) (refNext a s (ofM (refSubs a) (Tr.runs (refFrom a) ts))) := by rw [Tr.run, from_at h0 hx]
    rw [e]
    refine ⟨⟨k1, k2⟩, ?_⟩
    rw [k3, g2]
    refine next_set hok fun r hr e => ?_
    have := (hok.ru r hr).2.2.1
    rw [e] at this
    omega
theorem runs_set {a : Au} (he : auErr a = 0) (h6 : a.states ≤ 6) : ∀ ts : List Tr, (∀ t ∈ ts, Tr.nodesErr a.ranks t = 0) → (∀ x ∈ Tr.runs (refFrom a) ts, 0 ≤ x ∧ x < ((refSubs a).length : Int)) ∧ ofM (refSubs a) (Tr.runs (refFrom a) ts) = ts.map (setT a)
  | [], _ => ⟨fun x hx => (by cases hx), rfl⟩
  | t :: ts, h => by
    obtain ⟨h1, h2⟩ := run_set he h6 t (h t List.mem_cons_self)
    obtain ⟨h3, h4⟩ := runs_set he h6 ts fun u hu => h u (List.mem_cons_of_mem _ hu)
    refine ⟨fun x hx => ?_, ?_⟩
    · rw [Tr.runs] at hx
      rcases List.mem_cons.1 hx with rfl | hx
      · exact h1
      · exact h3 x hx
    · rw [Tr.runs, ofM, List.map_cons, List.map_cons, h2]
      exact congrArg _ h4
end
theorem from_ok {a : Au} (he : auErr a = 0) (h6 : a.states ≤ 6) : DtOk (refFrom a) := by
  have hok := AuOk.of he
  have hrk := ranks_of_auErr he
  obtain ⟨h1, h2⟩ := refSubs_closed he h6
  have h64 := h1.len h6
  have hacc : (refFrom a).acc.length = (refSubs a).length := by simp [refFrom, refFinal]
  have hrow : ∀ s, s < a.ranks.length → (refFrom a).to.getD s [] = refTo a (refSubs a) s := fun s hs => by simp [refFrom, List.getD, hs]
  have hpos : 1 ≤ (refSubs a).length := by
    have h0 : (0 : Int) ∈ a.ranks := by
      unfold ranksErr at hrk
      split at hrk
      · cases hrk
      · split at hrk
        · cases hrk
        · split at hrk
          · cases hrk
          · rename_i h; exact Decidable.not_not.1 h
    obtain ⟨i, hi, e⟩ := List.getElem_of_mem h0
    have hr : rankN a i = 0 := by unfold rankN; simp [List.getD, hi, e]
    have h3 := h2 i hi [] (by rw [hr]; simp [tups])
    exact List.length_pos_of_mem h3
  refine ⟨hrk, by rw [hacc]; omega, by simp [refFrom], fun s hs => ?_, fun x hx q hq => ?_⟩
  · rw [hrow s hs, hacc]
    simp only [refTo, List.length_map, tups_len]
    rfl
  · obtain ⟨s, hs, rfl⟩ := List.mem_map.1 (show x ∈ (List.range a.ranks.length).map (refTo a (refSubs a)) from hx)
    obtain ⟨xs, hxs, rfl⟩ := List.mem_map.1 hq
    obtain ⟨k1, k2, _⟩ := refFind_in (h2 s (List.mem_range.1 hs) xs hxs)
    rw [hacc]
    exact ⟨k1, k2⟩
/-- The language. -/
theorem from_accepts {a : Au} (he : auErr a = 0) (h6 : a.states ≤ 6) (t : Tr) : acceptsM (refFrom a) t = accA a t := by
  have hok := AuOk.of he
  have hd := (from_ok he h6).err
  unfold acceptsM
  rw [if_neg (by rw [hd]; simp)]
  by_cases hv : validErr a.ranks t = 0
  · rw [if_neg (by show ¬ validErr a.ranks t ≠ 0; rw [hv]; simp)]
    obtain ⟨⟨h1, h2⟩, h3⟩ := run_set he h6 t (validErr_zero hv).2
    have hlt : (Tr.run (refFrom a) t).toNat < (refSubs a).length := by omega
    have e : (refFrom a).acc.getD (Tr.run (refFrom a) t).toNat false = ((refSubs a).getD (Tr.run (refFrom a) t).toNat []).any fun x => decide (x ∈ a.final) := by
      show (refFinal a (refSubs a)).getD _ false = _
      simp [refFinal, List.getD, hlt]
    rw [e, h3]
    refine bool_iff ?_
    rw [List.any_eq_true, accA_iff]
    constructor
    · rintro ⟨q, hq, hf⟩
      exact ⟨ask_of he hv, q, of_decide_eq_true hf, (mem_setT.1 hq).2⟩
    · rintro ⟨_, q, hf, hp⟩
      exact ⟨q, mem_setT.2 ⟨hok.fi q hf, hp⟩, decide_eq_true hf⟩
  · rw [if_pos (show validErr (refFrom a).ranks t ≠ 0 from hv)]
    exact (accA_no fun h => hv ((ask_eq he t).symm.trans h)).symm
where
  ask_eq {a : Au} (h : auErr a = 0) (t : Tr) : askErr a t = validErr a.ranks t := by unfold askErr; rw [if_neg (not_not_intro h)]
  ask_of {a : Au} {t : Tr} (h : auErr a = 0) (hv : validErr a.ranks t = 0) : askErr a t = 0 := by unfold askErr; rw [if_neg (not_not_intro h)]; exact hv
/-! ### All states are found -/
end Pal
namespace Pal
open Go Go.Proofs Go.Proofs.X
theorem from_bounds {a : Au} (he : auErr a = 0) (h6 : a.states ≤ 6) (h8 : a.ranks.length ≤ 8) : (refFrom a).acc.length ≤ 64 ∧ (refFrom a).ranks.length ≤ 1048576 ∧ (refFrom a).acc.length ≤ 1048576 ∧ (refFrom a).to.length ≤ 1048576 ∧ ∀ x ∈ (refFrom a).to, x.length ≤ 1048576 := by
  have hok := from_ok he h6
  have hacc : (refFrom a).acc.length = (refSubs a).length := by simp [refFrom, refFinal]
  have h64 := (refSubs_closed he h6).1.len h6
  have hrk : (refFrom a).ranks = a.ranks := rfl
  refine ⟨by omega, by rw [hrk]; omega, by omega, by rw [hok.tl, hrk]; omega, fun x hx => ?_⟩
  obtain ⟨s, hs, rfl⟩ := List.getElem_of_mem hx
  have hs2 : s < (refFrom a).ranks.length := by rw [← hok.tl]; exact hs
  have h1 := hok.w s hs2
  have e : (refFrom a).to.getD s [] = (refFrom a).to[s] := by simp [List.getD, hs]
  have hr := (ranksErr_ok hok.rk).2 s hs2
  have e2 : (refFrom a).ranks.getD s 0 = (refFrom a).ranks[s] := by simp [List.getD, hs2]
  rw [e, e2] at h1
  rw [h1]
  exact Nat.le_trans (pow_le2 (k := (refFrom a).acc.length) (by omega) (by omega)) (by decide)
theorem from_cons {a : Au} (he : auErr a = 0) (h6 : a.states ≤ 6) : ∃ st, consM a 64 = (0, some st) ∧ fromM a st = refFrom a := by
  obtain ⟨E, o, hc, hall⟩ := cons_ways a 64 h6
  have h64 := (refSubs_closed he h6).1.len h6
  rcases hall with ⟨h, _, _⟩ | ⟨_, hm, _⟩ | ⟨_, _, hlt, _⟩ | ⟨_, _, _, rfl, st, rfl, _, hst2⟩
  · exact absurd he h
  · omega
  · omega
  · exact ⟨st, hc, hst2⟩
end Pal

/-
  The least accepted preimage of a tree: what the tables hold, and that it is the least. Plain Lean, no program. Own work.
-/
namespace Pal
open Go Go.Proofs Go.Proofs.X
/-! ### Trees asx slices of symbols -/
mutual
def Tr.code : Tr → List Int
  | .node s ts => s :: Tr.codes ts
def Tr.codes : List Tr → List Int
  | [] => []
  | t :: ts => Tr.code t ++ Tr.codes ts
end
theorem relabel_node {l : List Int} {s : Int} {us : List Tr} {x : Tr} (h : Tr.relabel l (.node s us) = some x) : ∃ ts, x = .node (l.getD s.toNat 0) ts ∧ (0 ≤ s ∧ s < l.length) ∧ Tr.relabels l us = some ts := by
  simp only [Tr.relabel] at h
  split at h
  · rename_i hs
    cases hr : Tr.relabels l us with
    | none => rw [hr] at h; cases h
    | some ts =>
      rw [hr] at h
      simp only [Option.map_some, Option.some.injEq] at h
      exact ⟨ts, h.symm, hs, rfl⟩
  · cases h
theorem relabels_cons {l : List Int} {us : List Tr} {t : Tr} {ts : List Tr} (h : Tr.relabels l us = some (t :: ts)) : ∃ u vs, us = u :: vs ∧ Tr.relabel l u = some t ∧ Tr.relabels l vs = some ts := by
  cases us with
  | nil => simp [Tr.relabels] at h
  | cons u vs =>
    simp only [Tr.relabels] at h
    cases hu : Tr.relabel l u with
    | none => rw [hu] at h; cases h
    | some t' =>
      rw [hu] at h
      cases hr : Tr.relabels l vs with
      | none => rw [hr] at h; simp at h
      | some ts' =>
        rw [hr] at h
        simp only [Option.map_some, Option.some.injEq, List.cons.injEq] at h
        exact ⟨u, vs, rfl, by rw [hu, h.1], by rw [hr, h.2]⟩
theorem relabels_nil {l : List Int} {us : List Tr} (h : Tr.relabels l us = some []) : us = [] := by
  cases us with
  | nil => rfl
  | cons u vs =>
    simp only [Tr.relabels] at h
    cases hu : Tr.relabel l u with
    | none => rw [hu] at h; cases h
    | some t' =>
      rw [hu] at h
      cases hr : Tr.relabels l vs with
      | none => rw [hr] at h; simp at h
      | some ts' => rw [hr] at h; simp at h
theorem relabels_mk {l : List Int} {u t : Tr} {us ts : List Tr} (h1 : Tr.relabel l u = some t) (h2 : Tr.relabels l us = some ts) : Tr.relabels l (u :: us) = some (t :: ts) := by
  simp only [Tr.relabels, h1, h2]; rfl
mutual
theorem code_len {l : List Int} : ∀ (x u : Tr), Tr.relabel l u = some x → u.code.length = x.size
  | .node y ts, .node s us, h => by
    obtain ⟨ts', e, _, h2⟩ := relabel_node h
    cases e
    rw [Tr.code, List.length_cons, codes_len ts us h2, Tr.size]; omega
theorem codes_len {l : List Int} : ∀ (ts us : List Tr), Tr.relabels l us = some ts → (Tr.codes us).length = Tr.sizes ts
  | [], us, h => by rw [relabels_nil h]; rfl
  | t :: ts, us, h => by
    obtain ⟨u, vs, rfl, h1, h2⟩ := relabels_cons h
    rw [Tr.codes, List.length_append, code_len t u h1, codes_len ts vs h2, Tr.sizes]
end
mutual
theorem code_inj {l : List Int} : ∀ (x u v : Tr), Tr.relabel l u = some x → Tr.relabel l v = some x → u.code = v.code → u = v
  | .node y ts, .node s us, .node s' vs, h, h', e => by
    obtain ⟨ts1, e1, _, h2⟩ := relabel_node h
    obtain ⟨ts2, e2, _, h2'⟩ := relabel_node h'
    cases e1
    simp only [Tr.node.injEq] at e2
    obtain ⟨_, rfl⟩ := e2
    rw [Tr.code, Tr.code] at e
    obtain ⟨e3, e4⟩ := List.cons.inj e
    rw [e3, codes_inj _ us vs h2 h2' e4]
theorem codes_inj {l : List Int} : ∀ (ts us vs : List Tr), Tr.relabels l us = some ts → Tr.relabels l vs = some ts → Tr.codes us = Tr.codes vs → us = vs
  | [], us, vs, h, h', _ => by rw [relabels_nil h, relabels_nil h']
  | t :: ts, us, vs, h, h', e => by
    obtain ⟨u, us', rfl, h1, h2⟩ := relabels_cons h
    obtain ⟨v, vs', rfl, h1', h2'⟩ := relabels_cons h'
    rw [Tr.codes, Tr.codes] at e
    obtain ⟨e1, e2⟩ := List.append_inj e (by rw [code_len t u h1, code_len t v h1'])
    rw [code_inj t u v h1 h1' e1, codes_inj ts us' vs' h2 h2' e2]
end
def srcs (l : List Int) (y : Int) : List Int := ((List.range l.length).filter fun (s : Nat) => decide (l.getD s 0 = y)).map fun (s : Nat) => (s : Int)
structure Ch where
  s : Int
  p : Int
  q : Int
  i : Int
  k : Int
def chV (c : Ch) : Value := .agg #[.int .i64 c.s, .int .i64 c.p, .int .i64 c.q, .int .i64 c.i, .int .i64 c.k]
def ch0 : Ch := ⟨0, 0, 0, 0, 0⟩
def keyC (c : Ch) : List Int := [c.s, c.i, c.k]
def updF (f : Int → Option Ch) (q : Int) (c : Ch) : Int → Option Ch := fun x => if q = x then some c else f x
def consF (f : Int → Option Ch) (x : Ch × Int) : Int → Option Ch := match f x.2 with
  | none => updF f x.2 x.1
  | some o => if cmpL (keyC x.1) (keyC o) < 0 then updF f x.2 x.1 else f
theorem fold_cons : ∀ (cs : List (Ch × Int)) (f : Int → Option Ch),
    (∀ q c, cs.foldl consF f q = some c → f q = some c ∨ (c, q) ∈ cs) ∧ (∀ q o, f q = some o → ∃ c, cs.foldl consF f q = some c ∧ cmpL (keyC c) (keyC o) ≤ 0) ∧ (∀ c q, (c, q) ∈ cs → ∃ c', cs.foldl consF f q = some c' ∧ cmpL (keyC c') (keyC c) ≤ 0)
  | [], f => ⟨fun q c h => .inl h, fun q o h => ⟨o, h, by rw [cmpL_self]; exact Int.le_refl _⟩, fun c q h => by cases h⟩
  | x :: cs, f => by
    obtain ⟨h1, h2, h3⟩ := fold_cons cs (consF f x)
    have hx : ∃ c, consF f x x.2 = some c ∧ cmpL (keyC c) (keyC x.1) ≤ 0 := by
      unfold consF
      cases ho : f x.2 with
      | none => exact ⟨x.1, by simp [updF], by rw [cmpL_self]; exact Int.le_refl _⟩
      | some o =>
        dsimp only
        by_cases hc : cmpL (keyC x.1) (keyC o) < 0
        · rw [if_pos hc]; exact ⟨x.1, by simp [updF], by rw [cmpL_self]; exact Int.le_refl _⟩
        · rw [if_neg hc]; exact ⟨o, ho, by rw [cmpL_swap]; omega⟩
    have hf : ∀ q c, consF f x q = some c → f q = some c ∨ (c, q) = x := by
      intro q c h
      unfold consF at h
      cases ho : f x.2 with
      | none =>
        rw [ho] at h
        dsimp only [updF] at h
        split at h
        · rename_i e; cases h; exact .inr (by rw [← e])
        · exact .inl h
      | some o =>
        rw [ho] at h
        dsimp only at h
        split at h
        · dsimp only [updF] at h
          split at h
          · rename_i e; cases h; exact .inr (by rw [← e])
          · exact .inl h
        · exact .inl h
    have hk : ∀ q o, f q = some o → ∃ c, consF f x q = some c ∧ cmpL (keyC c) (keyC o) ≤ 0 := by
      intro q o ho
      unfold consF
      cases hx2 : f x.2 with
      | none =>
        dsimp only [updF]
        by_cases e : x.2 = q
        · rw [e, ho] at hx2; cases hx2
        · rw [if_neg e]; exact ⟨o, ho, by rw [cmpL_self]; exact Int.le_refl _⟩
      | some o2 =>
        dsimp only
        by_cases hc : cmpL (keyC x.1) (keyC o2) < 0
        · rw [if_pos hc]
          dsimp only [updF]
          by_cases e : x.2 = q
          · rw [if_pos e]
            rw [e, ho] at hx2
            cases hx2
            exact ⟨x.1, rfl, by omega⟩
          · rw [if_neg e]; exact ⟨o, ho, by rw [cmpL_self]; exact Int.le_refl _⟩
        · rw [if_neg hc]; exact ⟨o, ho, by rw [cmpL_self]; exact Int.le_refl _⟩
    refine ⟨fun q c h => ?_, fun q o ho => ?_, fun c q h => ?_⟩
    · rcases h1 q c h with h | h
      · rcases hf q c h with h | h
        · exact .inl h
        · exact .inr (by rw [h]; exact List.mem_cons_self)
      · exact .inr (List.mem_cons_of_mem _ h)
    · obtain ⟨c, e1, e2⟩ := hk q o ho
      obtain ⟨c', e3, e4⟩ := h2 q c e1
      exact ⟨c', e3, cmpL_le_trans e4 e2⟩
    · rcases List.mem_cons.1 h with h | h
      · subst h
        obtain ⟨c1, e1, e2⟩ := hx
        obtain ⟨c', e3, e4⟩ := h2 _ c1 e1
        exact ⟨c', e3, cmpL_le_trans e4 e2⟩
      · exact h3 c q h
def atI (d : Dt) (s place : Int) : Int := (d.to.getD s.toNat []).getD place.toNat 0
inductive Tb where
  | mk (f : Int → Option Ch) (R : List Int) (kids : List Tb)
def Tb.f : Tb → Int → Option Ch | .mk f _ _ => f
def Tb.R : Tb → List Int | .mk _ R _ => R
def Tb.kids : Tb → List Tb | .mk _ _ k => k
mutual
def Tb.tree : Tb → Int → Tr
  | .mk f _ kids, q => .node ((f q).getD ch0).s (Tb.trees kids [((f q).getD ch0).p, ((f q).getD ch0).q])
def Tb.trees : List Tb → List Int → List Tr
  | [], _ => []
  | t :: ts, q :: qs => Tb.tree t q :: Tb.trees ts qs
  | t :: ts, [] => Tb.tree t 0 :: Tb.trees ts []
end
/-- The states of a table, in the order of their choices. -/
structure IsR (f : Int → Option Ch) (R : List Int) : Prop where
  nd : R.Nodup
  mem : ∀ q, q ∈ R ↔ (f q).isSome = true
  le : R.Pairwise fun x y => cmpL (keyC ((f x).getD ch0)) (keyC ((f y).getD ch0)) ≤ 0
/-- What a table says of its tree. -/
structure TbG (d : Dt) (l : List Int) (x : Tr) (tb : Tb) : Prop where
  has : ∀ u, Tr.relabel l u = some x → (tb.f (u.run d)).isSome = true ∧ cmpL (tb.tree (u.run d)).code u.code ≤ 0
  is : ∀ q, (tb.f q).isSome = true → Tr.relabel l (tb.tree q) = some x ∧ (tb.tree q).run d = q
  lt : tb.R.Pairwise fun p q => cmpL (tb.tree p).code (tb.tree q).code < 0
  mem : ∀ q, q ∈ tb.R ↔ (tb.f q).isSome = true
def treeC (kids : List Tb) (c : Ch) : Tr := .node c.s (Tb.trees kids [c.p, c.q])
/-- What is asked of the choices. -/
structure CandOk (d : Dt) (l : List Int) (x : Tr) (kids : List Tb) (cs : List (Ch × Int)) : Prop where
  f1 : ∀ c q, (c, q) ∈ cs → Tr.relabel l (treeC kids c) = some x ∧ (treeC kids c).run d = q
  f2 : ∀ u, Tr.relabel l u = some x → ∃ c, (c, u.run d) ∈ cs ∧ cmpL (treeC kids c).code u.code ≤ 0
  f3 : ∀ c q c' q', (c, q) ∈ cs → (c', q') ∈ cs → cmpL (keyC c) (keyC c') ≤ 0 → cmpL (treeC kids c).code (treeC kids c').code ≤ 0
theorem TbG.of {d : Dt} {l : List Int} {x : Tr} {R : List Int} {kids : List Tb} {cs : List (Ch × Int)} {f : Int → Option Ch} (hf : f = cs.foldl consF fun _ => none) (h : CandOk d l x kids cs) (hR : IsR f R) : TbG d l x (.mk f R kids) := by
  obtain ⟨g1, _, g3⟩ := fold_cons cs (fun _ => none)
  rw [← hf] at g1 g3
  have hin : ∀ q c, f q = some c → (c, q) ∈ cs := fun q c e => (g1 q c e).resolve_left (fun e2 => by cases e2)
  have htree : ∀ q c, f q = some c → Tb.tree (.mk f R kids) q = treeC kids c := fun q c e => by rw [Tb.tree, e]; rfl
  refine ⟨fun u hu => ?_, fun q hq => ?_, ?_, hR.mem⟩
  · obtain ⟨c, h1, h2⟩ := h.f2 u hu
    obtain ⟨c', h3, h4⟩ := g3 c _ h1
    refine ⟨by show (f (u.run d)).isSome = true; rw [h3]; rfl, ?_⟩
    rw [htree _ _ h3]
    exact cmpL_le_trans (h.f3 _ _ _ _ (hin _ _ h3) h1 h4) h2
  · obtain ⟨c, hc⟩ := Option.isSome_iff_exists.1 hq
    rw [htree _ _ hc]
    exact h.f1 c q (hin _ _ hc)
  · show R.Pairwise _
    refine List.Pairwise.imp_of_mem (fun {p q} hp hq hpq => ?_) (hR.le.and hR.nd)
    obtain ⟨c, hc⟩ := Option.isSome_iff_exists.1 ((hR.mem p).1 hp)
    obtain ⟨c', hc'⟩ := Option.isSome_iff_exists.1 ((hR.mem q).1 hq)
    have hle := hpq.1
    rw [hc, hc'] at hle
    rw [htree _ _ hc, htree _ _ hc']
    have h1 := h.f3 _ _ _ _ (hin _ _ hc) (hin _ _ hc') hle
    obtain ⟨h2, h3⟩ := h.f1 c p (hin _ _ hc)
    obtain ⟨h4, h5⟩ := h.f1 c' q (hin _ _ hc')
    rcases Int.lt_or_eq_of_le h1 with h6 | h6
    · exact h6
    · exfalso
      have e := code_inj _ _ _ h2 h4 (cmpL_eq.1 h6)
      exact hpq.2 (by rw [← h3, ← h5, e])
end Pal

/-
  The tables of a search in the heap. Own work. No statement of the seat is proved here.
-/
namespace Pal
open Go Go.Proofs Go.Proofs.X
/-- A map of choices. -/
def ChP (kvs : KVs) (f : Int → Option Ch) : Prop := (kvs.map (·.1)).Nodup ∧ ∀ q, lookI kvs q = (f q).map chV
theorem ChP.nil : ChP [] (fun _ => none) := ⟨by simp, fun q => by simp [lookI, findI]⟩
theorem ChP.set {kvs : KVs} {f : Int → Option Ch} (h : ChP kvs f) (q : Int) (c : Ch) : ChP (setI kvs q (chV c)) (updF f q c) := by
  refine ⟨setI_keys q _ h.1, fun x => ?_⟩
  rw [lookI_setI h.1]
  unfold updF
  by_cases e : q = x
  · rw [if_pos e.symm, if_pos e]; rfl
  · rw [if_neg (fun h => e h.symm), if_neg e]; exact h.2 x
theorem ChP.val {kvs : KVs} {f : Int → Option Ch} (h : ChP kvs f) (q : Int) : (lookI kvs q).getD (chV ch0) = chV ((f q).getD ch0) := by
  rw [h.2 q]; cases f q <;> rfl
theorem ChP.keys {kvs : KVs} {f : Int → Option Ch} (h : ChP kvs f) (q : Int) : q ∈ kvs.map (·.1) ↔ (f q).isSome = true := by
  rw [← lookI_isSome, h.2 q]; cases f q <;> simp
inductive RepTb (H : View) : Tb → Nat → Prop
  | mk (f : Int → Option Ch) (R : List Int) (kids : List Tb) (b m : Nat) (kvs : KVs) (a : Option Addr) (cap : Nat) (ps : Nat → Nat) (hb : At H b 0 [.slice a kids.length cap, mp m]) (hm : H m = some (mapOb kvs)) (hf : ChP kvs f)
      (hA : ∀ i, i < kids.length → ∃ cb off, a = some ⟨cb, off, none⟩ ∧ At H cb (off + i * 1) [ptr (ps i)]) (hr : ∀ i (h : i < kids.length), RepTb H kids[i] (ps i)) : RepTb H (.mk f R kids) b
theorem RepTb.mono {H H' : View} {tb : Tb} {b : Nat} (h : RepTb H tb b) (hle : VLe H H') : RepTb H' tb b := by
  induction h with
  | mk f R kids b m kvs a cap ps hb hm hf hA hr ih =>
    refine .mk f R kids b m kvs a cap ps (hb.mono hle) (hle _ _ hm) hf (fun i hi => ?_) fun i hi => ih i hi
    obtain ⟨cb, off, e, h⟩ := hA i hi
    exact ⟨cb, off, e, h.mono hle⟩
end Pal
namespace Pal
open Go Go.Proofs Go.Proofs.X
theorem consF_none {f : Int → Option Ch} {c : Ch} {q : Int} (h : f q = none) : consF f (c, q) = updF f q c := by simp [consF, h]
theorem consF_lt {f : Int → Option Ch} {c o : Ch} {q : Int} (h : f q = some o) (hl : cmpL (keyC c) (keyC o) < 0) : consF f (c, q) = updF f q c := by simp [consF, h, hl]
theorem consF_ge {f : Int → Option Ch} {c o : Ch} {q : Int} (h : f q = some o) (hl : ¬ cmpL (keyC c) (keyC o) < 0) : consF f (c, q) = f := by simp [consF, h, hl]
theorem ChP.look {kvs : KVs} {f : Int → Option Ch} (h : ChP kvs f) (q : Int) : (Value.tuple #[(lookI kvs q).getD (chV ch0), .bool (lookI kvs q).isSome]) = .tuple #[chV ((f q).getD ch0), .bool (f q).isSome] := by
  rw [h.val q, h.2 q]; cases f q <;> rfl
end Pal

/-
  A search step by step: the tables asx they grow. Own work. No statement of the seat is proved here.
-/
namespace Pal
open Go Go.Proofs Go.Proofs.X
abbrev FC := Int → Option Ch
def f1 (d : Dt) (s : Int) (R : List Int) (F : FC) : Nat → FC
  | 0 => F
  | j + 1 => consF (f1 d s R F j) (⟨s, R.getD j 0, 0, (j : Int), 0⟩, atI d s (R.getD j 0))
def f2in (d : Dt) (s p : Int) (i : Nat) (T : List Int) (F : FC) : Nat → FC
  | 0 => F
  | k + 1 => consF (f2in d s p i T F k) (⟨s, p, T.getD k 0, (i : Int), (k : Int)⟩, atI d s (p * (d.acc.length : Int) + T.getD k 0))
def f2 (d : Dt) (s : Int) (R T : List Int) (F : FC) : Nat → FC
  | 0 => F
  | i + 1 => f2in d s (R.getD i 0) i T (f2 d s R T F i) T.length
def Bd (d : Dt) (f : FC) : Prop := ∀ q, (f q).isSome = true → 0 ≤ q ∧ q < (d.acc.length : Int)
theorem Bd.none (d : Dt) : Bd d (fun _ => none) := fun q h => by cases h
theorem Bd.cons {d : Dt} {f : FC} (h : Bd d f) (c : Ch) {q : Int} (hq : 0 ≤ q ∧ q < (d.acc.length : Int)) : Bd d (consF f (c, q)) := by
  have hu : Bd d (updF f q c) := fun x hx => by
    unfold updF at hx
    split at hx
    · rename_i e; rw [← e]; exact hq
    · exact h x hx
  cases ho : f q with
  | none => rw [consF_none ho]; exact hu
  | some o =>
    by_cases hl : cmpL (keyC c) (keyC o) < 0
    · rw [consF_lt ho hl]; exact hu
    · rw [consF_ge ho hl]; exact h
mutual
theorem valid_pre {d : Dt} {l rk : List Int} (hm : mapsM l d.ranks rk = true) : ∀ (x u : Tr), Tr.relabel l u = some x → Tr.nodesErr rk x = 0 → Tr.nodesErr d.ranks u = 0
  | .node y ts, .node s us, h, hv => by
    obtain ⟨ts', e, h0, h2⟩ := relabel_node h
    simp only [Tr.node.injEq] at e
    obtain ⟨rfl, rfl⟩ := e
    obtain ⟨g0, g1, g2⟩ := node_rank hv
    obtain ⟨h3, h4⟩ := mapsM_iff.1 hm
    have hlt : s.toNat < l.length := by omega
    have hlt2 : s.toNat < d.ranks.length := by omega
    have e1 : l.getD s.toNat 0 = l[s.toNat] := by simp [List.getD, hlt]
    have e2 : d.ranks.getD s.toNat 0 = d.ranks[s.toNat] := by simp [List.getD, hlt2]
    obtain ⟨k1, k2⟩ := valids_pre hm _ us h2 g2
    refine Tr.nodesErr_zero.2 ⟨by omega, ?_, k2⟩
    rw [e2, ← (h4 s.toNat hlt hlt2).2, ← e1, ← g1, k1]
theorem valids_pre {d : Dt} {l rk : List Int} (hm : mapsM l d.ranks rk = true) : ∀ (ts us : List Tr), Tr.relabels l us = some ts → (∀ t ∈ ts, Tr.nodesErr rk t = 0) → us.length = ts.length ∧ ∀ u ∈ us, Tr.nodesErr d.ranks u = 0
  | [], us, h, _ => by rw [relabels_nil h]; exact ⟨rfl, fun u hu => by cases hu⟩
  | t :: ts, us, h, hv => by
    obtain ⟨u, vs, rfl, h1, h2⟩ := relabels_cons h
    obtain ⟨k1, k2⟩ := valids_pre hm ts vs h2 fun x hx => hv x (List.mem_cons_of_mem _ hx)
    refine ⟨by simp [k1], fun x hx => ?_⟩
    rcases List.mem_cons.1 hx with rfl | hx
    · exact valid_pre hm t x h1 (hv t List.mem_cons_self)
    · exact k2 x hx
end
/-! ### Pointers in a row -/
def srcL (l rk : List Int) : List (List Int) := (List.range rk.length).map fun (y : Nat) => srcs l (y : Int)
def nilP : Rl × Value := (⟨0, [], 0⟩, nilS)
def headsP (ps : List (Rl × Value)) : Array Value := (ps.map (·.2)).toArray
section rules
variable {P : Program} {n : Nat} {c : Cx} {Q : Exit → Act → World → Prop} {l : KL} {hl : HL} {H : View}
end rules
/-- The symbols below k that go to s. -/
def srcTo (l : List Int) (s k : Nat) : List Int := ((List.range k).filter fun (i : Nat) => decide (l.getD i 0 = (s : Int))).map fun (i : Nat) => (i : Int)
theorem srcTo_succ (l : List Int) (s k : Nat) : srcTo l s (k + 1) = srcTo l s k ++ if l.getD k 0 = (s : Int) then [(k : Int)] else [] := by
  unfold srcTo
  rw [List.range_succ, List.filter_append, List.map_append]
  by_cases h : l.getD k 0 = (s : Int)
  · rw [if_pos h, List.filter_cons, decide_eq_true h]; rfl
  · rw [if_neg h, List.filter_cons, decide_eq_false h]; rfl
theorem srcTo_all (l : List Int) (s : Nat) : srcTo l s l.length = srcs l (s : Int) := rfl
/-- The rows of sources asx far asx k. -/
structure SrcOk (l : List Int) (n k : Nat) (ps : List (Rl × Value)) : Prop where
  len : ps.length = n
  row : ∀ s (h : s < ps.length), (ps[s]).1 = ⟨0, srcTo l s k, 0⟩
theorem SrcOk.nil (l : List Int) (n : Nat) : SrcOk l n 0 (List.replicate n nilP) := ⟨by simp, fun s h => by simp [nilP, srcTo]⟩
theorem SrcOk.step {l : List Int} {n k : Nat} {ps : List (Rl × Value)} (h : SrcOk l n k ps) {s : Nat} (hs : s < ps.length) (hk : l.getD k 0 = (s : Int)) (v : Value) : SrcOk l n (k + 1) (ps.take s ++ (⟨0, (ps[s]).1.args ++ [(k : Int)], 0⟩, v) :: ps.drop (s + 1)) := by
  refine ⟨by rw [mid_len hs]; exact h.len, fun t ht => ?_⟩
  rw [mid_len hs] at ht
  by_cases e : t = s
  · subst e
    rw [mid_get hs, srcTo_succ, if_pos hk, h.row t hs]
  · have e1 : (ps.take s ++ ((⟨0, (ps[s]).1.args ++ [(k : Int)], 0⟩ : Rl), v) :: ps.drop (s + 1))[t]'(by rw [mid_len hs]; exact ht) = ps[t] := by
      have := set_mid hs ((⟨0, (ps[s]).1.args ++ [(k : Int)], 0⟩ : Rl), v)
      simp only [this]
      rw [List.getElem_set_ne (fun h => e h.symm)]
    rw [e1, srcTo_succ, if_neg (by omega), List.append_nil]
    exact h.row t ht
theorem SrcOk.ssi {l rk : List Int} {ps : List (Rl × Value)} {H : View} {b cap : Nat} (h : SrcOk l rk.length l.length ps) (hb : At H b 0 (headsP ps).toList) (hv : ∀ p ∈ ps, RVok H p) : SSI H (.slice (some ⟨b, 0, none⟩) (srcL l rk).length cap) (srcL l rk) := by
  have hl : (srcL l rk).length = ps.length := by rw [h.len]; simp [srcL]
  refine ⟨ps.map (·.2), ?_, ?_⟩
  · exact ⟨_, _, rfl, .inr ⟨b, 0, rfl, by simpa [headsP] using hb⟩⟩
  · have e : srcL l rk = ps.map fun p => p.1.args := by
      refine List.ext_getElem (by rw [hl, List.length_map]) fun s h1 h2 => ?_
      have hs : s < ps.length := by rw [← hl]; exact h1
      rw [List.getElem_map, h.row s hs]
      simp [srcL, srcTo_all]
    rw [e]
    have key : ∀ qs : List (Rl × Value), (∀ p ∈ qs, RVok H p) → RepL (RSI H) 1 (qs.map fun p => p.1.args) (qs.map (·.2)) := by
      intro qs
      induction qs with
      | nil => intro _; exact .nil
      | cons q qs ih =>
        intro hq
        exact .cons (cs := [q.2]) ⟨q.2, rfl, (hq q List.mem_cons_self).1⟩ rfl (ih fun p hp => hq p (List.mem_cons_of_mem _ hp))
    exact key ps hv
def accU (d : Dt) (u : Tr) : Bool := d.acc.getD (u.run d).toNat false
section rules
variable {P : Program} {n : Nat} {c : Cx} {Q : Exit → Act → World → Prop} {l : KL} {hl : HL} {H : View}
end rules
end Pal

/-
  All preimages, asx the reference goes through them, and the least of a list. Own work. No statement of the seat is proved here.
-/
namespace Pal
open Go Go.Proofs Go.Proofs.X
def BestI (d : Dt) (L : List Tr) (i : Nat) : Option Nat → Prop
  | none => ∀ k (h : k < L.length), k < i → accU d L[k] = false
  | some b => ∃ hb : b < L.length, b < i ∧ accU d L[b] = true ∧ ∀ k (h : k < L.length), k < i → accU d L[k] = true → cmpL (L[b]).code (L[k]).code ≤ 0
theorem BestI.zero (d : Dt) (L : List Tr) : BestI d L 0 none := fun k _ h => absurd h (Nat.not_lt_zero _)
theorem BestI.skip {d : Dt} {L : List Tr} {i : Nat} (hi : i < L.length) (ha : accU d L[i] = false) : ∀ {o : Option Nat}, BestI d L i o → BestI d L (i + 1) o
  | none, h => fun k hk h2 => by
    by_cases e : k = i
    · subst e; exact ha
    · exact h k hk (by omega)
  | some b, ⟨hb, h1, h2, h3⟩ => ⟨hb, by omega, h2, fun k hk h4 h5 => by
    by_cases e : k = i
    · subst e; rw [ha] at h5; cases h5
    · exact h3 k hk (by omega) h5⟩
theorem BestI.first {d : Dt} {L : List Tr} {i : Nat} (hi : i < L.length) (ha : accU d L[i] = true) (h : BestI d L i none) : BestI d L (i + 1) (some i) :=
  ⟨hi, by omega, ha, fun k hk h4 h5 => by
    by_cases e : k = i
    · subst e; rw [cmpL_self]; exact Int.le_refl _
    · have := h k hk (by omega); rw [this] at h5; cases h5⟩
theorem BestI.less {d : Dt} {L : List Tr} {i b : Nat} (hi : i < L.length) (ha : accU d L[i] = true) (hb : b < L.length) (hl : cmpL (L[i]).code (L[b]).code < 0) (h : BestI d L i (some b)) : BestI d L (i + 1) (some i) := by
  obtain ⟨_, h1, h2, h3⟩ := h
  refine ⟨hi, by omega, ha, fun k hk h4 h5 => ?_⟩
  by_cases e : k = i
  · subst e; rw [cmpL_self]; exact Int.le_refl _
  · exact cmpL_le_trans (by omega) (h3 k hk (by omega) h5)
end Pal
namespace Pal
open Go Go.Proofs Go.Proofs.X
theorem At.flat {H : View} {b off n sz : Nat} {f : Nat → List Value} (hsz : ∀ i, (f i).length = sz) (hn : 0 < n) (hz : 0 < sz) (h : ∀ i, i < n → At H b (off + i * sz) (f i)) : At H b off ((List.range n).flatMap f) := by
  obtain ⟨c, T, fz, e, _⟩ := h 0 hn
  refine ⟨c, T, fz, e, fun j v hj => ?_⟩
  have hl : ((List.range n).flatMap f).length = n * sz := by rw [flat_lenN hsz, List.length_range]
  have hjl : j < n * sz := by rw [← hl]; exact (List.getElem?_eq_some_iff.1 hj).1
  have hi : j / sz < n := by rw [Nat.div_lt_iff_lt_mul hz]; exact hjl
  have hm : j % sz < (f (j / sz)).length := by rw [hsz]; exact Nat.mod_lt _ hz
  have hrl : j / sz < (List.range n).length := by simpa using hi
  have h1 := flat_cell hsz (qs := List.range n) (k := j / sz) (j := j % sz) (off := j / sz * sz + j % sz) (v := (f (j / sz))[j % sz]) hrl rfl [] (by rw [List.getElem_range]; exact List.getElem?_eq_getElem hm)
  rw [List.append_nil, List.getElem?_toArray, Nat.mul_comm, Nat.div_add_mod] at h1
  rw [h1] at hj
  cases hj
  obtain ⟨c', T', fz', e', h2⟩ := h (j / sz) hi
  rw [e] at e'
  cases e'
  have h3 := h2 (j % sz) _ (List.getElem?_eq_getElem hm)
  have e2 : off + j / sz * sz + j % sz = off + j := by
    have := Nat.div_add_mod j sz
    rw [Nat.mul_comm] at this
    omega
  rwa [e2] at h3
theorem RepL.fn {R : Tr → List Value → Prop} {sz : Nat} {ts : List Tr} {f : Nat → List Value} (h : ∀ i (hi : i < ts.length), R ts[i] (f i) ∧ (f i).length = sz) : RepL R sz ts ((List.range ts.length).flatMap f) := by
  have key : ∀ k, k ≤ ts.length → RepL R sz (ts.take k) ((List.range k).flatMap f) := by
    intro k
    induction k with
    | zero => intro _; exact .nil
    | succ k ih =>
      intro hk
      rw [List.take_succ_eq_append_getElem (by omega), List.range_succ, List.flatMap_append]
      have := (ih (by omega)).snoc (h k (by omega)).1 (h k (by omega)).2
      simpa using this
  have := key ts.length (Nat.le_refl _)
  rwa [List.take_length] at this
theorem _root_.Pal.RepT.inv {H : View} {s : Int} {ts : List Tr} {cs : List Value} (h : RepT H (.node s ts) cs) : ∃ a cap cells, cs = [.int .i64 s, .slice a ts.length cap] ∧ SlAt H (.slice a ts.length cap) ts.length cells ∧ RepL (RepT H) 2 ts cells ∧ i64ok s := by
  cases h with | mk _ _ a cap b off cs' hs ha hA hr =>
  let f : Nat → List Value := fun i => if i < ts.length then cs' i else [.int .i64 0, .int .i64 0]
  have hf : ∀ i, i < ts.length → f i = cs' i := fun i hi => if_pos hi
  have hsz : ∀ i, (f i).length = 2 := fun i => by
    by_cases hi : i < ts.length
    · rw [hf i hi]; exact (hA i hi).1
    · show (if i < ts.length then cs' i else _).length = 2
      rw [if_neg hi]; rfl
  refine ⟨a, cap, (List.range ts.length).flatMap f, rfl, ?_, RepL.fn fun i hi => ⟨by rw [hf i hi]; exact hr i hi, hsz i⟩, hs⟩
  by_cases hn : ts = []
  · subst hn
    exact ⟨_, _, rfl, .inl ⟨rfl, rfl⟩⟩
  · refine ⟨_, _, rfl, .inr ⟨b, off, ha hn, At.flat hsz (List.length_pos_iff.2 hn) (by decide) fun i hi => ?_⟩⟩
    rw [hf i hi]; exact (hA i hi).2
end Pal
namespace Pal
open Go Go.Proofs Go.Proofs.X
end Pal

/-
  Projection: which trees the determinized relabelled automaton accepts. Own work. No statement of the seat is proved here.
-/
namespace Pal
open Go Go.Proofs Go.Proofs.X
/-! ### The runs of a deterministic automaton asx a nondeterministic one -/
mutual
theorem cnt_det {d : Dt} (h : DtOk d) : ∀ (u : Tr) (q : Int), 0 < u.cnt (rulesD d) q ↔ Tr.nodesErr d.ranks u = 0 ∧ q = Tr.run d u
  | .node s ts, q => by
    rw [Tr.cnt_pos]
    constructor
    · rintro ⟨r, hr, h1, h2, h3⟩
      obtain ⟨k, hk, e1, e2, e3⟩ := mem_rulesD.1 hr
      obtain ⟨g1, g2⟩ := (cnts_det h ts r.args).1 h3
      have hx := (mem_tups.1 e2).1
      have hlen : r.args.length = ts.length := by rw [g2, Tr.runs_map, List.length_map]
      have hks : s = (k : Int) := h1.symm.trans e1
      subst hks
      have hrk : ∀ x ∈ d.ranks, 0 ≤ x := fun x hx => by
        obtain ⟨i, hi, rfl⟩ := List.getElem_of_mem hx
        exact ((ranksErr_ok h.rk).2 i hi).1
      have hge : d.ranks.getD k 0 = d.ranks[k] := by simp [List.getD, hk]
      have h0 := hrk _ (List.getElem_mem hk)
      refine ⟨Tr.nodesErr_zero.2 ⟨⟨by omega, by omega⟩, by rw [Int.toNat_natCast, hge]; rw [hge] at hx; omega, g1⟩, ?_⟩
      rw [← h2, e3, Tr.run, g2]
    · rintro ⟨h1, rfl⟩
      obtain ⟨g0, g1, g2⟩ := Tr.nodesErr_zero.1 h1
      refine ⟨⟨s, Tr.runs d ts, Tr.run d (.node s ts)⟩, mem_rulesD.2 ⟨s.toNat, by omega, by show s = _; omega, mem_tups.2 ⟨?_, ?_⟩, ?_⟩, rfl, rfl, (cnts_det h ts _).2 ⟨g2, rfl⟩⟩
      · show (Tr.runs d ts).length = _
        rw [Tr.runs_map, List.length_map]; omega
      · intro x hx
        rw [Tr.runs_map] at hx
        obtain ⟨t, ht, rfl⟩ := List.mem_map.1 hx
        exact Tr.run_ok h _ t (Nat.le_refl _) (g2 t ht)
      · show Tr.run d (.node s ts) = _
        rw [Tr.run, Int.toNat_of_nonneg g0.1]
theorem cnts_det {d : Dt} (h : DtOk d) : ∀ (us : List Tr) (qs : List Int), 0 < Tr.cnts (rulesD d) us qs ↔ (∀ u ∈ us, Tr.nodesErr d.ranks u = 0) ∧ qs = Tr.runs d us
  | [], [] => by simp [Tr.cnts, Tr.runs]
  | [], q :: qs => by simp [Tr.cnts, Tr.runs]
  | u :: us, [] => by simp [Tr.cnts, Tr.runs]
  | u :: us, q :: qs => by
    rw [Tr.cnts_pos, cnt_det h u q, cnts_det h us qs, Tr.runs, List.cons.injEq, List.forall_mem_cons]
    constructor
    · rintro ⟨⟨a, b⟩, c, e⟩; exact ⟨⟨a, c⟩, b, e⟩
    · rintro ⟨⟨a, c⟩, b, e⟩; exact ⟨⟨a, b⟩, c, e⟩
end
/-! ### The runs of a relabelled automaton -/
mutual
theorem cnt_imgE {l : List Int} {rs : List Rl} (hs : ∀ r ∈ rs, 0 ≤ r.sym ∧ r.sym < l.length) : ∀ (t : Tr) (q : Int), 0 < t.cnt (rs.map (imgR l)) q → ∃ u, Tr.relabel l u = some t ∧ 0 < u.cnt rs q
  | .node y ts, q => by
    intro h
    obtain ⟨r', hr', h1, h2, h3⟩ := Tr.cnt_pos.1 h
    obtain ⟨r, hr, rfl⟩ := List.mem_map.1 hr'
    obtain ⟨us, g1, g2⟩ := cnts_imgE hs ts r.args h3
    refine ⟨.node r.sym us, ?_, Tr.cnt_pos.2 ⟨r, hr, rfl, h2, g2⟩⟩
    rw [Tr.relabel, if_pos (hs r hr), g1]
    show some (Tr.node (l.getD r.sym.toNat 0) ts) = _
    rw [show l.getD r.sym.toNat 0 = y from h1]
theorem cnts_imgE {l : List Int} {rs : List Rl} (hs : ∀ r ∈ rs, 0 ≤ r.sym ∧ r.sym < l.length) : ∀ (ts : List Tr) (qs : List Int), 0 < Tr.cnts (rs.map (imgR l)) ts qs → ∃ us, Tr.relabels l us = some ts ∧ 0 < Tr.cnts rs us qs
  | [], [] => fun _ => ⟨[], rfl, by simp [Tr.cnts]⟩
  | [], q :: qs => fun h => by simp [Tr.cnts] at h
  | t :: ts, [] => fun h => by simp [Tr.cnts] at h
  | t :: ts, q :: qs => fun h => by
    obtain ⟨h1, h2⟩ := Tr.cnts_pos.1 h
    obtain ⟨u, g1, g2⟩ := cnt_imgE hs t q h1
    obtain ⟨us, g3, g4⟩ := cnts_imgE hs ts qs h2
    exact ⟨u :: us, relabels_mk g1 g3, Tr.cnts_pos.2 ⟨g2, g4⟩⟩
end
/-- The automaton of which the projection is the subset construction. -/
def projA (d : Dt) (l rk : List Int) : Au := normA (imgA (ntaM d) l rk)
def projD (d : Dt) (l rk : List Int) : Dt := refFrom (projA d l rk)
structure ProjOk (d : Dt) (l rk : List Int) : Prop where
  e : dtErr d = 0
  n : d.acc.length ≤ 5
  r : d.ranks.length ≤ 8
  k : ranksErr rk = 0
  k8 : rk.length ≤ 8
  m : mapsM l d.ranks rk = true
theorem projA_err {d : Dt} {l rk : List Int} (h : ProjOk d l rk) : auErr (projA d l rk) = 0 :=
  norm_err ((imgA_ok (ntaM_ok (DtOk.of h.e) h.n h.r) h.k h.m).err h.k)
theorem projA_st {d : Dt} {l rk : List Int} (h : ProjOk d l rk) : (projA d l rk).states ≤ 6 := by
  show (d.acc.length : Int) ≤ 6
  have := h.n; omega
theorem finalD_iff {d : Dt} {q : Int} : q ∈ finalD d ↔ (0 ≤ q ∧ q < d.acc.length) ∧ d.acc.getD q.toNat false = true := by
  unfold finalD subL
  simp only [List.mem_map, List.mem_filter, List.mem_range]
  constructor
  · rintro ⟨s, ⟨h1, h2⟩, rfl⟩
    exact ⟨⟨by omega, by omega⟩, by simpa using h2⟩
  · rintro ⟨⟨h1, h2⟩, h3⟩
    exact ⟨q.toNat, ⟨by omega, h3⟩, by omega⟩
/-- Exactly the relabelled trees. -/
theorem proj_accepts {d : Dt} {l rk : List Int} (h : ProjOk d l rk) {t : Tr} (hv : validErr rk t = 0) : acceptsM (projD d l rk) t = true ↔ ∃ u, Tr.relabel l u = some t ∧ accU d u = true := by
  have hok := DtOk.of h.e
  have hN := ntaM_ok hok h.n h.r
  have hI := (imgA_ok hN h.k h.m).err h.k
  unfold projD
  rw [from_accepts (projA_err h) (projA_st h)]
  unfold projA
  rw [acc_norm hI, accA_iff]
  have hm1 := (mapsM_iff.1 h.m).1
  have hs : ∀ r ∈ rulesD d, 0 ≤ r.sym ∧ r.sym < l.length := fun r hr => by
    have := hN.ru r hr
    exact ⟨this.1, by rw [hm1]; exact this.2.1⟩
  constructor
  · rintro ⟨_, q, hq, hc⟩
    obtain ⟨u, hu, hcu⟩ := cnt_imgE hs t q hc
    obtain ⟨_, rfl⟩ := (cnt_det hok u q).1 hcu
    exact ⟨u, hu, (finalD_iff.1 hq).2⟩
  · rintro ⟨u, hu, ha⟩
    have hn := valid_pre h.m t u hu (validErr_zero hv).2
    have hr := Tr.run_ok hok _ u (Nat.le_refl _) hn
    refine ⟨?_, Tr.run d u, finalD_iff.2 ⟨hr, ha⟩, Tr.cnt_img u t hu _ ((cnt_det hok u _).2 ⟨hn, rfl⟩)⟩
    unfold askErr
    rw [if_neg (not_not_intro hI)]
    exact hv
theorem proj_bad {d : Dt} {l rk : List Int} {t : Tr} (hv : validErr rk t ≠ 0) : acceptsM (projD d l rk) t = false := by
  unfold acceptsM
  split
  · rfl
  · rw [if_pos (show validErr (projD d l rk).ranks t ≠ 0 from hv)]
theorem projD_bounds {d : Dt} {l rk : List Int} (h : ProjOk d l rk) : (projD d l rk).acc.length ≤ 64 ∧ (projD d l rk).ranks.length ≤ 1048576 ∧ (projD d l rk).acc.length ≤ 1048576 ∧ (projD d l rk).to.length ≤ 1048576 ∧ ∀ x ∈ (projD d l rk).to, x.length ≤ 1048576 :=
  from_bounds (projA_err h) (projA_st h) h.k8
theorem proj_cons {d : Dt} {l rk : List Int} (h : ProjOk d l rk) : ∃ st, consM (projA d l rk) 64 = (0, some st) ∧ fromM (projA d l rk) st = projD d l rk := from_cons (projA_err h) (projA_st h)
end Pal

/-
  Projection by the identity, and of an inverse image. Own work. No statement of the seat is proved here.
-/
namespace Pal
open Go Go.Proofs Go.Proofs.X
theorem any_sortO (rs : List Rl) (p : Rl → Bool) : (sortO rs).any p = rs.any p := bool_iff (by
  rw [List.any_eq_true, List.any_eq_true]
  constructor
  · rintro ⟨r, h1, h2⟩; exact ⟨r, sortO_mem.1 h1, h2⟩
  · rintro ⟨r, h1, h2⟩; exact ⟨r, sortO_mem.2 h1, h2⟩)
theorem refNext_norm (a : Au) : refNext (normA a) = refNext a := by
  funext s l
  unfold refNext
  show ((List.range a.states.toNat).filter fun (q : Nat) => (sortO a.rules).any (fitR s (q : Int) l)).map _ = _
  congr 1
  congr 1
  funext q
  exact any_sortO _ _
theorem refStep_norm (a : Au) : refStep (normA a) = refStep a := by
  funext s out xs
  unfold refStep
  rw [refNext_norm]
theorem refSyms_norm (a : Au) : ∀ (rs : List Int) (was : Nat) (s : Int) (out : List (List Int)), refSyms (normA a) was rs s out = refSyms a was rs s out
  | [], _, _, _ => rfl
  | r :: rs, was, s, out => by
    unfold refSyms refSteps
    rw [refStep_norm, refSyms_norm a rs]
theorem refRounds_norm (a : Au) : ∀ (f : Nat) (was : Int) (out : List (List Int)), refRounds (normA a) f was out = refRounds a f was out
  | 0, _, _ => rfl
  | f + 1, was, out => by
    unfold refRounds
    rw [refSyms_norm, refRounds_norm a f]
    rfl
theorem refFrom_norm (a : Au) : refFrom (normA a) = refFrom a := by
  have h1 : refSubs (normA a) = refSubs a := refRounds_norm a _ _ _
  have h2 : ∀ out, refTo (normA a) out = refTo a out := fun out => by
    funext s
    unfold refTo
    rw [refNext_norm]
    rfl
  have h3 : ∀ out, refFinal (normA a) out = refFinal a out := fun out => by
    unfold refFinal
    congr 1
    funext l
    congr 1
    funext x
    exact decide_eq_decide.2 sortI_mem
  unfold refFrom
  rw [h1, h2, h3]
  rfl
/-- The identity. -/
def idL (n : Nat) : List Int := (List.range n).map fun (i : Nat) => (i : Int)
theorem idL_len (n : Nat) : (idL n).length = n := by simp [idL]
theorem idL_get {n k : Nat} (h : k < n) : (idL n).getD k 0 = (k : Int) := by simp [idL, List.getD, h]
theorem maps_id (rk : List Int) : mapsM (idL rk.length) rk rk = true := by
  rw [mapsM_iff]
  refine ⟨idL_len _, fun j hj hj2 => ?_⟩
  have e : (idL rk.length)[j] = (j : Int) := by simp [idL]
  rw [e]
  refine ⟨⟨by omega, by omega⟩, ?_⟩
  simp [List.getD, hj2]
theorem img_id {a : Au} (h : AuOk a) : imgA a (idL a.ranks.length) a.ranks = a := by
  have e : a.rules.map (imgR (idL a.ranks.length)) = a.rules := by
    refine (List.map_congr_left fun r hr => ?_).trans (List.map_id _)
    obtain ⟨h1, h2, _⟩ := h.ru r hr
    show (⟨(idL a.ranks.length).getD r.sym.toNat 0, r.args, r.to⟩ : Rl) = r
    rw [idL_get (by omega), Int.toNat_of_nonneg h1]
  unfold imgA
  rw [e]
theorem proj_id {d : Dt} (h : DtOk d) (hn : d.acc.length ≤ 5) (hr : d.ranks.length ≤ 8) : projD d (idL d.ranks.length) d.ranks = trimD d := by
  have hN := ntaM_ok h hn hr
  obtain ⟨st, h1, h2⟩ := cons_trim h hn hr
  obtain ⟨st', h3, h4⟩ := from_cons (ntaM_err h hn hr) (show (ntaM d).states ≤ 6 by show (d.acc.length : Int) ≤ 6; omega)
  rw [h1] at h3
  cases h3
  unfold projD projA
  rw [show imgA (ntaM d) (idL d.ranks.length) d.ranks = ntaM d from img_id hN, refFrom_norm]
  exact h4.symm.trans h2
/-- What the projection of an inverse image accepts, the automaton accepts. -/
theorem proj_back {d : Dt} {l rk : List Int} {t : Tr} (h : ProjOk (invD d l rk) l d.ranks) (hd : dtErr d = 0) (hm : mapsM l rk d.ranks = true) (ha : acceptsM (projD (invD d l rk) l d.ranks) t = true) : acceptsM d t = true := by
  by_cases hv : validErr d.ranks t = 0
  · obtain ⟨u, hu, hau⟩ := (proj_accepts h hv).1 ha
    have hn := valid_pre h.m t u hu (validErr_zero hv).2
    have hok := DtOk.of hd
    obtain ⟨u', hu', hrun⟩ := (Tr.relabel_run hm u hn)
    rw [hu] at hu'
    cases hu'
    unfold acceptsM
    rw [if_neg (not_not_intro hd), if_neg (not_not_intro hv), hrun.2]
    exact hau
  · rw [proj_bad hv] at ha; cases ha
end Pal
namespace Pal
open Go Go.Proofs Go.Proofs.X
theorem idL_succ (n : Nat) : idL (n + 1) = idL n ++ [(n : Int)] := by simp [idL, List.range_succ]
theorem invM_is {d : Dt} {l rk : List Int} (hd : dtErr d = 0) (hr : ranksErr rk = 0) (hm : mapsM l rk d.ranks = true) : invM d l rk = (0, invD d l rk) := by
  unfold invM
  rw [if_neg (not_not_intro hd), if_neg (not_not_intro hr), if_neg (by rw [hm]; decide)]
theorem invD_bounds {d : Dt} {l rk : List Int} (hok : DtOk d) (hb : d.ranks.length ≤ 1048576 ∧ d.acc.length ≤ 1048576 ∧ d.to.length ≤ 1048576 ∧ ∀ x ∈ d.to, x.length ≤ 1048576) (hl : l.length ≤ 1048576) (hr : rk.length ≤ 1048576) (hm : mapsM l rk d.ranks = true) :
    (invD d l rk).ranks.length ≤ 1048576 ∧ (invD d l rk).acc.length ≤ 1048576 ∧ (invD d l rk).to.length ≤ 1048576 ∧ ∀ x ∈ (invD d l rk).to, x.length ≤ 1048576 := by
  obtain ⟨hm1, hm2⟩ := mapsM_iff.1 hm
  refine ⟨hr, hb.2.1, by simp only [invD, List.length_map]; exact hl, ?_⟩
  intro x hx
  simp only [invD, List.mem_map] at hx
  obtain ⟨s, hs, rfl⟩ := hx
  obtain ⟨j, hj, rfl⟩ := List.getElem_of_mem hs
  have h3 := (hm2 j hj (by omega)).1
  have h4 := hok.tl
  have h5 : l[j].toNat < d.to.length := by omega
  have h6 : d.to.getD l[j].toNat [] = d.to[l[j].toNat] := by simp [List.getD, h5]
  rw [h6]
  exact hb.2.2.2 _ (List.getElem_mem h5)
theorem idL_si {H : View} {a : Option Addr} {c n : Nat} (h : SlAt H (.slice a n c) n (ints (idL n))) (hn : n ≤ 1048576) : SI H (.slice a n c) (idL n) := by
  refine ⟨by rw [idL_len]; exact h, fun x hx => ?_⟩
  obtain ⟨i, hi, rfl⟩ := List.mem_map.1 hx
  have := List.mem_range.1 hi
  simp only [i64ok]; omega
end Pal

/-
  DERIVED: THE SHELF's CONTRACTS AT THIS DUMP, IN PLAIN WORDS (tools/lay-plain.mjs out of 'LayEDs.lean', which tools/lay-shelf.mjs wrote): THE SAME DECLARATIONS UNDER THE SAME NAMES: 'import', 'namespace', 'open', 'def', 'theorem' AND NOTHING ELSE: no command of the shelf's: FOR A HAND-IN. Each laying: the table of numbers ('.._ren') and one theorem, a field a fact of the dump's own or the kernel's comparison; each contract: ONE APPLICATION.
-/
namespace Go.Proofs
open Go.Shelf
def Tryz.layR_ren : Go.Shelf.Ren := ⟨fun | 6 => 129 | 15 => 176 | 14 => 175 | 28 => 200 | 29 => 184 | 20 => 192 | 21 => 193 | 22 => 194 | 23 => 195 | 24 => 196 | 25 => 197 | 26 => 198 | 27 => 199 | 46 => 213 | 47 => 214 | 48 => 215 | 49 => 216 | 50 => 217 | 57 => 221 | n => n, fun | 22 => 69 | 24 => 68 | 25 => 198 | 3 => 3 | 39 => 170 | 0 => 0 | 53 => 168 | 55 => 106 | 4 => 4 | 46 => 245 | 45 => 244 | 50 => 228 | 5 => 5 | 9 => 9 | 66 => 258 | 70 => 262 | 76 => 267 | 77 => 268 | n => n, fun | n => n⟩
theorem Tryz.layR : Go.Proofs.SlLaysF0.n6 Tryz.prog Tryz.layR_ren := {
  mixed := by kernel_rfl
  f6 := ⟨Tryz.f129.name, by decide, Tryz.func129.trans (congrArg some (by kernel_rfl))⟩
  f14 := ⟨Tryz.f175.name, by decide, Tryz.func175.trans (congrArg some (by kernel_rfl))⟩
  f15 := Tryz.func176.trans (congrArg some (by kernel_rfl))
  f20 := ⟨Tryz.f192.name, by decide, Tryz.func192.trans (congrArg some (by kernel_rfl))⟩
  f21 := ⟨Tryz.f193.name, by decide, Tryz.func193.trans (congrArg some (by kernel_rfl))⟩
  f22 := ⟨Tryz.f194.name, by decide, Tryz.func194.trans (congrArg some (by kernel_rfl))⟩
  f23 := ⟨Tryz.f195.name, by decide, Tryz.func195.trans (congrArg some (by kernel_rfl))⟩
  f24 := ⟨Tryz.f196.name, by decide, Tryz.func196.trans (congrArg some (by kernel_rfl))⟩
  f25 := ⟨Tryz.f197.name, by decide, Tryz.func197.trans (congrArg some (by kernel_rfl))⟩
  f26 := ⟨Tryz.f198.name, by decide, Tryz.func198.trans (congrArg some (by kernel_rfl))⟩
  f27 := ⟨Tryz.f199.name, by decide, Tryz.func199.trans (congrArg some (by kernel_rfl))⟩
  f28 := Tryz.func200.trans (congrArg some (by kernel_rfl))
  f29 := Tryz.func184.trans (congrArg some (by kernel_rfl))
  f46 := ⟨Tryz.f213.name, by decide, Tryz.func213.trans (congrArg some (by kernel_rfl))⟩
  f47 := Tryz.func214.trans (congrArg some (by kernel_rfl))
  f48 := Tryz.func215.trans (congrArg some (by kernel_rfl))
  f49 := ⟨Tryz.f216.name, by decide, Tryz.func216.trans (congrArg some (by kernel_rfl))⟩
  f50 := ⟨Tryz.f217.name, by decide, Tryz.func217.trans (congrArg some (by kernel_rfl))⟩
  f57 := ⟨Tryz.f221.name, by decide, Tryz.func221.trans (congrArg some (by kernel_rfl))⟩
  t0 := Tryz.underlying0
  a0 := Tryz.isAgg0
  z0 := Tryz.sizeOf0
  v0 := Tryz.zeroValue0
  t3 := Tryz.underlying3
  a3 := Tryz.isAgg3
  z3 := Tryz.sizeOf3
  v3 := Tryz.zeroValue3
  t4 := Tryz.underlying4
  a4 := Tryz.isAgg4
  z4 := Tryz.sizeOf4
  v4 := Tryz.zeroValue4
  t5 := Tryz.underlying5
  a5 := Tryz.isAgg5
  z5 := Tryz.sizeOf5
  v5 := Tryz.zeroValue5
  t9 := Tryz.underlying9
  a9 := Tryz.isAgg9
  z9 := Tryz.sizeOf9
  v9 := Tryz.zeroValue9
  t22 := Tryz.underlying69
  a22 := Tryz.isAgg69
  z22 := Tryz.sizeOf69
  v22 := Tryz.zeroValue69
  t25 := Tryz.underlying198
  a25 := Tryz.isAgg198
  z25 := Tryz.sizeOf198
  v25 := Tryz.zeroValue198
  t39 := Tryz.underlying170
  a39 := Tryz.isAgg170
  z39 := Tryz.sizeOf170
  v39 := Tryz.zeroValue170
  t45 := Tryz.underlying244
  a45 := Tryz.isAgg244
  z45 := Tryz.sizeOf244
  v45 := Tryz.zeroValue244
  t46 := Tryz.underlying245
  a46 := Tryz.isAgg245
  z46 := Tryz.sizeOf245
  v46 := Tryz.zeroValue245
  t50 := Tryz.underlying228
  a50 := Tryz.isAgg228
  z50 := Tryz.sizeOf228
  v50 := Tryz.zeroValue228
  t53 := Tryz.underlying168
  a53 := Tryz.isAgg168
  z53 := Tryz.sizeOf168
  v53 := Tryz.zeroValue168
  t55 := Tryz.underlying106
  a55 := Tryz.isAgg106
  z55 := Tryz.sizeOf106
  v55 := Tryz.zeroValue106
  t66 := Tryz.underlying258
  a66 := Tryz.isAgg258
  z66 := Tryz.sizeOf258
  v66 := Tryz.zeroValue258
  t70 := Tryz.underlying262
  a70 := Tryz.isAgg262
  z70 := Tryz.sizeOf262
  v70 := Tryz.zeroValue262
  t76 := Tryz.underlying267
  a76 := Tryz.isAgg267
  z76 := Tryz.sizeOf267
  v76 := Tryz.zeroValue267
  t77 := Tryz.underlying268
  a77 := Tryz.isAgg268
  z77 := Tryz.sizeOf268
  v77 := Tryz.zeroValue268 }
def Tryz.layI_ren : Go.Shelf.Ren := ⟨fun | 53 => 133 | 64 => 176 | 63 => 180 | 78 => 200 | 79 => 184 | 70 => 202 | 71 => 203 | 72 => 204 | 73 => 205 | 74 => 206 | 75 => 207 | 59 => 208 | 76 => 209 | 77 => 210 | 88 => 218 | 89 => 214 | 90 => 215 | 91 => 219 | 92 => 220 | 68 => 201 | 96 => 222 | n => n, fun | 22 => 22 | 23 => 3 | 3 => 3 | 51 => 170 | 0 => 0 | 67 => 168 | 69 => 106 | 4 => 4 | 61 => 245 | 60 => 244 | 44 => 228 | 5 => 5 | 9 => 9 | 75 => 258 | 79 => 262 | 83 => 267 | 84 => 268 | n => n, fun | n => n⟩
theorem Tryz.layI : Go.Proofs.SlLaysN.n53 Tryz.prog Tryz.layI_ren := {
  mixed := by kernel_rfl
  f53 := ⟨Tryz.f133.name, by decide, Tryz.func133.trans (congrArg some (by kernel_rfl))⟩
  f59 := ⟨Tryz.f208.name, by decide, Tryz.func208.trans (congrArg some (by kernel_rfl))⟩
  f63 := ⟨Tryz.f180.name, by decide, Tryz.func180.trans (congrArg some (by kernel_rfl))⟩
  f64 := Tryz.func176.trans (congrArg some (by kernel_rfl))
  f68 := ⟨Tryz.f201.name, by decide, Tryz.func201.trans (congrArg some (by kernel_rfl))⟩
  f70 := ⟨Tryz.f202.name, by decide, Tryz.func202.trans (congrArg some (by kernel_rfl))⟩
  f71 := ⟨Tryz.f203.name, by decide, Tryz.func203.trans (congrArg some (by kernel_rfl))⟩
  f72 := ⟨Tryz.f204.name, by decide, Tryz.func204.trans (congrArg some (by kernel_rfl))⟩
  f73 := ⟨Tryz.f205.name, by decide, Tryz.func205.trans (congrArg some (by kernel_rfl))⟩
  f74 := ⟨Tryz.f206.name, by decide, Tryz.func206.trans (congrArg some (by kernel_rfl))⟩
  f75 := ⟨Tryz.f207.name, by decide, Tryz.func207.trans (congrArg some (by kernel_rfl))⟩
  f76 := ⟨Tryz.f209.name, by decide, Tryz.func209.trans (congrArg some (by kernel_rfl))⟩
  f77 := ⟨Tryz.f210.name, by decide, Tryz.func210.trans (congrArg some (by kernel_rfl))⟩
  f78 := Tryz.func200.trans (congrArg some (by kernel_rfl))
  f79 := Tryz.func184.trans (congrArg some (by kernel_rfl))
  f88 := ⟨Tryz.f218.name, by decide, Tryz.func218.trans (congrArg some (by kernel_rfl))⟩
  f89 := Tryz.func214.trans (congrArg some (by kernel_rfl))
  f90 := Tryz.func215.trans (congrArg some (by kernel_rfl))
  f91 := ⟨Tryz.f219.name, by decide, Tryz.func219.trans (congrArg some (by kernel_rfl))⟩
  f92 := ⟨Tryz.f220.name, by decide, Tryz.func220.trans (congrArg some (by kernel_rfl))⟩
  f96 := ⟨Tryz.f222.name, by decide, Tryz.func222.trans (congrArg some (by kernel_rfl))⟩
  t0 := Tryz.underlying0
  a0 := Tryz.isAgg0
  z0 := Tryz.sizeOf0
  v0 := Tryz.zeroValue0
  t3 := Tryz.underlying3
  a3 := Tryz.isAgg3
  z3 := Tryz.sizeOf3
  v3 := Tryz.zeroValue3
  t4 := Tryz.underlying4
  a4 := Tryz.isAgg4
  z4 := Tryz.sizeOf4
  v4 := Tryz.zeroValue4
  t5 := Tryz.underlying5
  a5 := Tryz.isAgg5
  z5 := Tryz.sizeOf5
  v5 := Tryz.zeroValue5
  t9 := Tryz.underlying9
  a9 := Tryz.isAgg9
  z9 := Tryz.sizeOf9
  v9 := Tryz.zeroValue9
  t22 := Tryz.underlying22
  a22 := Tryz.isAgg22
  z22 := Tryz.sizeOf22
  v22 := Tryz.zeroValue22
  t23 := Tryz.underlying3
  a23 := Tryz.isAgg3
  z23 := Tryz.sizeOf3
  v23 := Tryz.zeroValue3
  t44 := Tryz.underlying228
  a44 := Tryz.isAgg228
  z44 := Tryz.sizeOf228
  v44 := Tryz.zeroValue228
  t51 := Tryz.underlying170
  a51 := Tryz.isAgg170
  z51 := Tryz.sizeOf170
  v51 := Tryz.zeroValue170
  t60 := Tryz.underlying244
  a60 := Tryz.isAgg244
  z60 := Tryz.sizeOf244
  v60 := Tryz.zeroValue244
  t61 := Tryz.underlying245
  a61 := Tryz.isAgg245
  z61 := Tryz.sizeOf245
  v61 := Tryz.zeroValue245
  t67 := Tryz.underlying168
  a67 := Tryz.isAgg168
  z67 := Tryz.sizeOf168
  v67 := Tryz.zeroValue168
  t69 := Tryz.underlying106
  a69 := Tryz.isAgg106
  z69 := Tryz.sizeOf106
  v69 := Tryz.zeroValue106
  t75 := Tryz.underlying258
  a75 := Tryz.isAgg258
  z75 := Tryz.sizeOf258
  v75 := Tryz.zeroValue258
  t79 := Tryz.underlying262
  a79 := Tryz.isAgg262
  z79 := Tryz.sizeOf262
  v79 := Tryz.zeroValue262
  t83 := Tryz.underlying267
  a83 := Tryz.isAgg267
  z83 := Tryz.sizeOf267
  v83 := Tryz.zeroValue267
  t84 := Tryz.underlying268
  a84 := Tryz.isAgg268
  z84 := Tryz.sizeOf268
  v84 := Tryz.zeroValue268 }
end Go.Proofs

/-
  The numbers that functions and types have in this seat, under names that are the same in every seat. Own work.
-/
namespace Go.Proofs.X
open Go Pal
abbrev Tab : View → Prop := TabAt 2
abbrev F0 : FuncId := 0
abbrev F2 : FuncId := 2
abbrev F7 : FuncId := 5
abbrev F8 : FuncId := 31
abbrev F11 : FuncId := 17
abbrev F16 : FuncId := 27
abbrev F18 : FuncId := 28
abbrev F19 : FuncId := 13
abbrev F22 : FuncId := 29
abbrev F26 : FuncId := 6
abbrev F27 : FuncId := 32
abbrev F28 : FuncId := 10
abbrev F29 : FuncId := 7
abbrev F33 : FuncId := 12
abbrev F34 : FuncId := 9
abbrev F35 : FuncId := 15
abbrev F36 : FuncId := 8
abbrev F37 : FuncId := 14
abbrev F40 : FuncId := 16
abbrev F42 : FuncId := 65
abbrev F43 : FuncId := 66
abbrev F44 : FuncId := 67
abbrev F45 : FuncId := 43
abbrev F46 : FuncId := 68
abbrev F47 : FuncId := 69
abbrev F48 : FuncId := 70
abbrev F49 : FuncId := 71
abbrev F50 : FuncId := 72
abbrev F51 : FuncId := 37
abbrev F52 : FuncId := 38
abbrev F53 : FuncId := 39
abbrev F54 : FuncId := 40
abbrev F60 : FuncId := 73
abbrev F63 : FuncId := 34
abbrev F64 : FuncId := 74
abbrev F65 : FuncId := 45
abbrev F66 : FuncId := 30
abbrev F70 : FuncId := 35
abbrev F71 : FuncId := 36
abbrev F72 : FuncId := 41
abbrev F73 : FuncId := 42
abbrev F74 : FuncId := 44
abbrev F76 : FuncId := 46
abbrev F77 : FuncId := 94
abbrev F78 : FuncId := 122
abbrev F79 : FuncId := 123
abbrev F80 : FuncId := 124
abbrev F81 : FuncId := 125
abbrev F82 : FuncId := 126
abbrev F83 : FuncId := 127
abbrev F84 : FuncId := 128
abbrev F85 : FuncId := 79
abbrev F86 : FuncId := 80
abbrev F87 : FuncId := 81
abbrev F88 : FuncId := 82
abbrev F89 : FuncId := 83
abbrev F90 : FuncId := 84
abbrev F91 : FuncId := 85
abbrev F92 : FuncId := 86
abbrev F93 : FuncId := 87
abbrev F94 : FuncId := 88
abbrev F95 : FuncId := 89
abbrev F96 : FuncId := 90
abbrev F97 : FuncId := 91
abbrev F98 : FuncId := 92
abbrev F99 : FuncId := 93
abbrev F100 : FuncId := 141
abbrev F101 : FuncId := 142
abbrev F102 : FuncId := 167
abbrev F103 : FuncId := 168
abbrev F104 : FuncId := 169
abbrev F105 : FuncId := 170
abbrev F106 : FuncId := 171
abbrev F107 : FuncId := 172
abbrev F108 : FuncId := 173
abbrev F109 : FuncId := 174
abbrev F110 : FuncId := 135
abbrev F111 : FuncId := 136
abbrev F112 : FuncId := 137
abbrev F113 : FuncId := 138
abbrev F114 : FuncId := 139
abbrev F115 : FuncId := 140
abbrev F116 : FuncId := 190
abbrev F117 : FuncId := 191
abbrev F118 : FuncId := 146
abbrev F119 : FuncId := 181
abbrev F120 : FuncId := 212
abbrev F2023 : FuncId := 33
abbrev F2037 : FuncId := 77
abbrev F2039 : FuncId := 133
abbrev F2044 : FuncId := 179
abbrev F2045 : FuncId := 78
abbrev F2050 : FuncId := 130
abbrev F2051 : FuncId := 75
abbrev F2052 : FuncId := 76
abbrev F2071 : FuncId := 178
abbrev F2072 : FuncId := 129
abbrev F2073 : FuncId := 131
abbrev F2074 : FuncId := 132
abbrev F2075 : FuncId := 134
abbrev F2076 : FuncId := 177
abbrev F2089 : FuncId := 201
abbrev F2118 : FuncId := 11
abbrev F2143 : FuncId := 3
abbrev T0 : TypeId := 0
abbrev T1 : TypeId := 1
abbrev T2 : TypeId := 2
abbrev T3 : TypeId := 3
abbrev T4 : TypeId := 4
abbrev T5 : TypeId := 5
abbrev T22 : TypeId := 27
abbrev T24 : TypeId := 29
abbrev T25 : TypeId := 22
abbrev T28 : TypeId := 47
abbrev T30 : TypeId := 49
abbrev T44 : TypeId := 24
abbrev T47 : TypeId := 35
abbrev T48 : TypeId := 69
abbrev T50 : TypeId := 71
abbrev T52 : TypeId := 23
abbrev T54 : TypeId := 37
abbrev T63 : TypeId := 26
abbrev T85 : TypeId := 68
abbrev T87 : TypeId := 123
abbrev T90 : TypeId := 126
abbrev T91 : TypeId := 127
abbrev T92 : TypeId := 128
abbrev T93 : TypeId := 129
abbrev T95 : TypeId := 131
abbrev T96 : TypeId := 106
abbrev T98 : TypeId := 133
abbrev T106 : TypeId := 138
abbrev T108 : TypeId := 140
abbrev T139 : TypeId := 150
abbrev T155 : TypeId := 257
end Go.Proofs.X

namespace Go.Proofs.X
open Go Pal Go.Proofs
attribute [local irreducible] Pal.KO Pal.KC Pal.KQ Pal.KD
theorem mixed : Tryz.prog.follows .mixedOrders = true := by kernel_rfl
theorem ty3 : Ty Tryz.prog T3 false 1 := .of (by kernel_rfl)
theorem ty5 : Ty Tryz.prog T5 false 1 := .of (by kernel_rfl)
theorem ty25 : Ty Tryz.prog T25 false 1 := .of (by kernel_rfl)
theorem ty96 : Ty Tryz.prog T96 false 1 := .of (by kernel_rfl)
theorem ty98 : Ty Tryz.prog T98 true 16 := .of (by kernel_rfl)
theorem sl25 : slcOk Tryz.prog T25 T3 := by unfold slcOk; kernel_rfl
theorem z3 : zeroOk Tryz.prog T3 (.int .i64 0) := .of (by kernel_rfl)
theorem z98 : zeroOk Tryz.prog T98 (setV 0) := .of (by kernel_rfl)
theorem ar98 : Tryz.prog.underlying T98 = some (.array 16 T96) := by kernel_rfl
theorem ar155 : Tryz.prog.underlying T155 = some (.array 64 T5) := by kernel_rfl
theorem c80 : callable Tryz.prog F80 = true := by kernel_rfl
theorem c81 : callable Tryz.prog F81 = true := by kernel_rfl
theorem c82 : callable Tryz.prog F82 = true := by kernel_rfl
theorem c104 : callable Tryz.prog F104 = true := by kernel_rfl
theorem c105 : callable Tryz.prog F105 = true := by kernel_rfl
theorem c106 : callable Tryz.prog F106 = true := by kernel_rfl
theorem c107 : callable Tryz.prog F107 = true := by kernel_rfl
theorem c108 : callable Tryz.prog F108 = true := by kernel_rfl
theorem c109 : callable Tryz.prog F109 = true := by kernel_rfl
theorem c117 : callable Tryz.prog F117 = true := by kernel_rfl
theorem ap25 : App Tryz.prog T25 T3 1 8 := .of sl25 (by kernel_rfl)
theorem kl98 : WideMaps.KeyLaw Tryz.prog T98 := deep_law_laid (m := 2) (by kernel_rfl) (by decide) (Nat.le_of_ble_eq_true (by kernel_rfl)) (by kernel_rfl) (by kernel_rfl)
theorem set98 : SetT Tryz.prog T98 T96 := ⟨by unfold arrOk; kernel_rfl, by kernel_rfl, by kernel_rfl, by kernel_rfl, by kernel_rfl, by kernel_rfl, kl98, by kernel_rfl, ⟨282, by kernel_rfl⟩⟩
theorem fits_spec (i : Int) (H : View) : Sat Tryz.prog F108 #[.int .i64 i] H (fun v _ => v = .bool (decide (0 ≤ i ∧ i < 1024))) := by
  refine enterO (n := 9) (args := [.int .i64 i]) Tryz.func173 rfl rfl rfl fun w0 => ?_
  refine K_seq ?_
  refine K_region ?_
  refine KV (R_assign rfl) rfl ?_
  refine K_nil ?_
  refine Q_then ?_
  refine K_seq ?_
  refine K_region ?_
  refine KV (R_move rfl) rfl ?_
  refine KV (R_cmp rfl rfl rfl) rfl ?_
  refine KV (R_move rfl) rfl ?_
  refine K_split ?_ ?_
  ·
    intro h5
    refine K_gyes rfl rfl ?_
    refine KV (R_move rfl) rfl ?_
    refine K_gyes rfl rfl ?_
    refine KV (R_cmp rfl rfl rfl) rfl ?_
    refine KV (R_pickT rfl rfl) rfl ?_
    refine KV (R_assign rfl) rfl ?_
    refine K_nil ?_
    refine Q_then ?_
    refine K_ret ?_
    refine results_gen (rs := [.tmp 2]) (vs := [_]) rfl ⟨rfl, trivial⟩ ?_
    simp [tupV, h5]
  ·
    intro h5
    refine K_gno rfl rfl rfl rfl ?_
    refine K_gno rfl rfl rfl rfl ?_
    refine KV (R_pickF rfl rfl) rfl ?_
    refine KV (R_assign rfl) rfl ?_
    refine K_nil ?_
    refine Q_then ?_
    refine K_ret ?_
    refine results_gen (rs := [.tmp 2]) (vs := [_]) rfl ⟨rfl, trivial⟩ ?_
    simp [tupV, h5]

theorem bit_spec (k : Nat) (H : View) : Sat Tryz.prog F109 #[.int .i64 (k : Int)] H (fun v _ => v = .int .u64 ((2 ^ (k % 64) : Nat) : Int)) := by
  refine enterO (n := 6) (args := [.int .i64 (k : Int)]) Tryz.func174 rfl rfl rfl fun w0 => ?_
  refine K_seq ?_
  refine K_region ?_
  refine KV (R_assign rfl) rfl ?_
  refine K_nil ?_
  refine Q_then ?_
  refine K_seq ?_
  refine K_region ?_
  refine KV (R_move rfl) rfl ?_
  refine KV (R_rem rfl rfl (by decide)) rfl ?_
  refine KV (R_shl1U (k := k % 64) rfl rfl (by rw [Int.tmod_eq_emod_of_nonneg (by omega)]; omega) (Nat.mod_lt _ (by decide))) rfl ?_
  refine KV (R_assign rfl) rfl ?_
  refine K_nil ?_
  refine Q_then ?_
  refine K_ret ?_
  refine results_gen (rs := [.tmp 2]) (vs := [_]) rfl ⟨rfl, trivial⟩ ?_
  rfl

theorem with_spec (s : Nat) (i : Int) (H : View) : Sat Tryz.prog F82 #[setV s, .int .i64 i] H (fun v _ => v = setV (if 0 ≤ i ∧ i < 1024 then s ||| 2 ^ i.toNat else s)) := by
  refine enterO (n := 16) (args := [setV s, .int .i64 i]) Tryz.func126 rfl rfl rfl fun w0 => ?_
  refine K_seq ?_
  refine K_region ?_
  refine KA (A_box rfl) rfl fun b2 => ?_
  refine KA (A_alloc z98) rfl fun b4 => ?_
  refine K_nil ?_
  refine Q_then ?_
  refine K_seq ?_
  refine K_seq ?_
  refine K_region ?_
  refine KV (R_move rfl) rfl ?_
  refine K_call c108 rfl rfl (fits_spec i H) ?_
  rintro _ V' hle1 rfl
  refine K_nil ?_
  refine Q_then ?_
  refine K_if rfl (fun h6 => ?_) (fun h6 => ?_)
  ·
    obtain ⟨k, rfl⟩ : ∃ k : Nat, i = k := ⟨i.toNat, by omega⟩
    rw [if_pos h6]
    have hk : k / 64 < 16 := by omega
    have hk64 : (2 : Nat) ^ (k % 64) < 18446744073709551616 := by rw [two64]; exact Nat.pow_lt_pow_right (by decide) (Nat.mod_lt _ (by decide))
    simp only [Int.toNat_natCast]
    refine K_regionD (fin := true) (R := [0, 1, 2, 3, 4, 5, 6, 7, 8]) (by kernel_rfl) mixed (.cons _ (.cons_cons _ (List.nil_sublist _))) ?_
    refine D_val rfl rfl rfl (R_move rfl) ?_
    refine D_val rfl rfl rfl (R_quo (r := ((k / 64 : Nat) : Int)) rfl rfl (by decide) (by rw [wrap64 (by rw [Int.tdiv_eq_ediv_of_nonneg (by omega)]; omega), Int.tdiv_eq_ediv_of_nonneg (by omega)]; omega)) ?_
    refine D_val rfl rfl rfl (R_indexArr ar98 ty96 rfl rfl ⟨by omega, by omega⟩) ?_
    refine D_val rfl rfl rfl (R_loadC ty96 0 rfl rfl (cells_get s (k / 64) (by omega) hk)) ?_
    refine D_val rfl rfl rfl (R_move rfl) ?_
    refine D_call rfl rfl c109 rfl ⟨⟨1, rfl⟩, trivial⟩ (bit_spec k V') ?_
    rintro _ V'' hle2 rfl
    refine D_val rfl rfl rfl (R_bitsU rfl rfl (wd_lt _ _) hk64 (.inr (.inl ⟨rfl, rfl⟩))) ?_
    refine D_val rfl rfl rfl (R_indexArr ar98 ty96 rfl rfl ⟨by omega, by omega⟩) ?_
    refine D_lastStoreE ty96 1 rfl rfl rfl rfl rfl rfl (cells_fit s (k / 64) (by omega) hk) rfl (cells_put (s := s) (t := s ||| 2 ^ k) (k := k / 64) (by omega) hk (fun i _ => by rw [wd_or]; split <;> simp_all)) ?_
    refine Q_then ?_
    refine K_seq ?_
    refine K_region ?_
    refine KV (R_loadW ty98 1 rfl rfl rfl rfl) rfl ?_
    refine K_storeW ty98 0 rfl rfl rfl rfl rfl rfl rfl ?_
    refine K_nil ?_
    refine Q_then ?_
    refine K_ret ?_
    refine results_gen (rs := [.cell 4 133]) (vs := [_]) rfl ⟨⟨_, _, _, _, _, _, 0, rfl, rfl, ty98, (fun e => by cases e), rfl, rfl⟩, trivial⟩ ?_
    rfl
  ·
    rw [if_neg h6]
    refine K_skip ?_
    refine Q_then ?_
    refine K_seq ?_
    refine K_region ?_
    refine KV (R_loadW ty98 1 rfl rfl rfl rfl) rfl ?_
    refine K_storeW ty98 0 rfl rfl rfl rfl rfl rfl rfl ?_
    refine K_nil ?_
    refine Q_then ?_
    refine K_ret ?_
    refine results_gen (rs := [.cell 4 133]) (vs := [_]) rfl ⟨⟨_, _, _, _, _, _, 0, rfl, rfl, ty98, (fun e => by cases e), rfl, rfl⟩, trivial⟩ ?_
    rfl

theorem without_spec (s : Nat) (i : Int) (H : View) : Sat Tryz.prog F107 #[setV s, .int .i64 i] H (fun v _ => v = setV (if 0 ≤ i ∧ i < 1024 then clr s i.toNat else s)) := by
  refine enterO (n := 16) (args := [setV s, .int .i64 i]) Tryz.func172 rfl rfl rfl fun w0 => ?_
  refine K_seq ?_
  refine K_region ?_
  refine KA (A_box rfl) rfl fun b2 => ?_
  refine KA (A_alloc z98) rfl fun b4 => ?_
  refine K_nil ?_
  refine Q_then ?_
  refine K_seq ?_
  refine K_seq ?_
  refine K_region ?_
  refine KV (R_move rfl) rfl ?_
  refine K_call c108 rfl rfl (fits_spec i H) ?_
  rintro _ V' hle1 rfl
  refine K_nil ?_
  refine Q_then ?_
  refine K_if rfl (fun h6 => ?_) (fun h6 => ?_)
  ·
    obtain ⟨k, rfl⟩ : ∃ k : Nat, i = k := ⟨i.toNat, by omega⟩
    rw [if_pos h6]
    have hk : k / 64 < 16 := by omega
    have hk64 : (2 : Nat) ^ (k % 64) < 18446744073709551616 := by rw [two64]; exact Nat.pow_lt_pow_right (by decide) (Nat.mod_lt _ (by decide))
    simp only [Int.toNat_natCast]
    refine K_regionD (fin := true) (R := [0, 1, 2, 3, 4, 5, 6, 7, 8]) (by kernel_rfl) mixed (.cons _ (.cons_cons _ (List.nil_sublist _))) ?_
    refine D_val rfl rfl rfl (R_move rfl) ?_
    refine D_val rfl rfl rfl (R_quo (r := ((k / 64 : Nat) : Int)) rfl rfl (by decide) (by rw [wrap64 (by rw [Int.tdiv_eq_ediv_of_nonneg (by omega)]; omega), Int.tdiv_eq_ediv_of_nonneg (by omega)]; omega)) ?_
    refine D_val rfl rfl rfl (R_indexArr ar98 ty96 rfl rfl ⟨by omega, by omega⟩) ?_
    refine D_val rfl rfl rfl (R_loadC ty96 0 rfl rfl (cells_get s (k / 64) (by omega) hk)) ?_
    refine D_val rfl rfl rfl (R_move rfl) ?_
    refine D_call rfl rfl c109 rfl ⟨⟨1, rfl⟩, trivial⟩ (bit_spec k V') ?_
    rintro _ V'' hle2 rfl
    refine D_val rfl rfl rfl (R_bitsU rfl rfl (wd_lt _ _) hk64 (.inr (.inr ⟨rfl, rfl⟩))) ?_
    refine D_val rfl rfl rfl (R_indexArr ar98 ty96 rfl rfl ⟨by omega, by omega⟩) ?_
    refine D_lastStoreE ty96 1 rfl rfl rfl rfl rfl rfl (cells_fit s (k / 64) (by omega) hk) rfl (cells_put (s := s) (t := clr s k) (k := k / 64) (by omega) hk (fun i _ => by rw [wd_clr]; split <;> simp_all)) ?_
    refine Q_then ?_
    refine K_seq ?_
    refine K_region ?_
    refine KV (R_loadW ty98 1 rfl rfl rfl rfl) rfl ?_
    refine K_storeW ty98 0 rfl rfl rfl rfl rfl rfl rfl ?_
    refine K_nil ?_
    refine Q_then ?_
    refine K_ret ?_
    refine results_gen (rs := [.cell 4 133]) (vs := [_]) rfl ⟨⟨_, _, _, _, _, _, 0, rfl, rfl, ty98, (fun e => by cases e), rfl, rfl⟩, trivial⟩ ?_
    rfl
  ·
    rw [if_neg h6]
    refine K_skip ?_
    refine Q_then ?_
    refine K_seq ?_
    refine K_region ?_
    refine KV (R_loadW ty98 1 rfl rfl rfl rfl) rfl ?_
    refine K_storeW ty98 0 rfl rfl rfl rfl rfl rfl rfl ?_
    refine K_nil ?_
    refine Q_then ?_
    refine K_ret ?_
    refine results_gen (rs := [.cell 4 133]) (vs := [_]) rfl ⟨⟨_, _, _, _, _, _, 0, rfl, rfl, ty98, (fun e => by cases e), rfl, rfl⟩, trivial⟩ ?_
    rfl

theorem has_spec (s : Nat) (i : Int) (H : View) : Sat Tryz.prog F120 #[setV s, .int .i64 i] H (fun v _ => v = .bool (decide (0 ≤ i ∧ i < 1024) && s.testBit i.toNat)) := by
  refine enterO (n := 17) (args := [setV s, .int .i64 i]) Tryz.func212 rfl rfl rfl fun w0 => ?_
  refine K_seq ?_
  refine K_region ?_
  refine KA (A_box rfl) rfl fun b2 => ?_
  refine KV (R_assign rfl) rfl ?_
  refine K_nil ?_
  refine Q_then ?_
  refine K_seq ?_
  refine K_regionD (fin := false) (R := [0, 1, 2, 3, 4, 5, 6, 7, 8, 9, 10, 11, 12]) (by kernel_rfl) mixed (.cons_cons _ (List.nil_sublist _)) ?_
  refine D_val rfl rfl rfl (R_move rfl) ?_
  refine D_call rfl rfl c108 rfl ⟨⟨0, rfl⟩, trivial⟩ (fits_spec i H) ?_
  rintro _ V' hle1 rfl
  refine D_val rfl rfl rfl (R_move rfl) ?_
  refine D_split ?_ ?_
  ·
    intro h6
    obtain ⟨k, rfl⟩ : ∃ k : Nat, i = k := ⟨i.toNat, by omega⟩
    have hk : k / 64 < 16 := by omega
    have hk64 : (2 : Nat) ^ (k % 64) < 18446744073709551616 := by rw [two64]; exact Nat.pow_lt_pow_right (by decide) (Nat.mod_lt _ (by decide))
    refine D_val rfl rfl rfl (R_move rfl) ?_
    refine D_val rfl rfl rfl (R_quo (r := ((k / 64 : Nat) : Int)) rfl rfl (by decide) (by rw [wrap64 (by rw [Int.tdiv_eq_ediv_of_nonneg (by omega)]; omega), Int.tdiv_eq_ediv_of_nonneg (by omega)]; omega)) ?_
    refine D_val rfl rfl rfl (R_indexArr ar98 ty96 rfl rfl ⟨by omega, by omega⟩) ?_
    refine D_val rfl rfl rfl (R_loadC ty96 0 rfl rfl (cells_get s (k / 64) (by omega) hk)) ?_
    refine D_val rfl rfl rfl (R_move rfl) ?_
    refine D_call rfl rfl c109 rfl ⟨⟨0, rfl⟩, trivial⟩ (bit_spec k V') ?_
    rintro _ V'' hle2 rfl
    refine D_val rfl rfl rfl (R_bitsU rfl rfl (wd_lt _ _) hk64 (.inl ⟨rfl, rfl⟩)) ?_
    refine D_val rfl rfl rfl (R_cmp rfl rfl rfl) ?_
    refine D_val rfl rfl rfl (R_pickT rfl rfl) ?_
    refine D_val rfl rfl rfl (R_assign rfl) ?_
    refine D_done ?_
    refine Q_then ?_
    refine K_ret ?_
    refine results_gen (rs := [.tmp 4]) (vs := [_]) rfl ⟨rfl, trivial⟩ ?_
    have h1 := has_word s k
    simp only [tupV]
    refine congrArg Value.bool ?_
    rw [decide_eq_true h6]
    simp only [Int.toNat_natCast, Bool.true_and]
    cases hb : s.testBit k
    · rw [hb] at h1; simp at h1 ⊢; omega
    · rw [hb] at h1; simp at h1 ⊢; omega
  ·
    intro h6
    refine D_skip rfl rfl ?_
    refine D_skip rfl rfl ?_
    refine D_skip rfl rfl ?_
    refine D_skip rfl rfl ?_
    refine D_skip rfl rfl ?_
    refine D_skip rfl rfl ?_
    refine D_skip rfl rfl ?_
    refine D_skip rfl rfl ?_
    refine D_val rfl rfl rfl (R_pickF rfl rfl) ?_
    refine D_val rfl rfl rfl (R_assign rfl) ?_
    refine D_done ?_
    refine Q_then ?_
    refine K_ret ?_
    refine results_gen (rs := [.tmp 4]) (vs := [_]) rfl ⟨rfl, trivial⟩ ?_
    simp [tupV, h6]

theorem isEmpty_spec (s : Nat) (hs : s < big) (H : View) : Sat Tryz.prog F47 #[setV s] H (fun v _ => v = .bool (decide (s = 0))) := by
  refine enterO (n := 6) (args := [setV s]) Tryz.func69 rfl rfl rfl fun w0 => ?_
  refine K_seq ?_
  refine K_region ?_
  refine KA (A_box rfl) rfl fun b1 => ?_
  refine KV (R_assign rfl) rfl ?_
  refine K_nil ?_
  refine Q_then ?_
  refine K_seq ?_
  refine K_region ?_
  refine KV (R_loadW ty98 0 rfl rfl rfl rfl) rfl ?_
  refine KV (R_buildArr z98 ar98 ty96 rfl rfl) rfl ?_
  refine KV (R_eqSet (s := s) (u := 0) set98 hs zero_big rfl rfl) rfl ?_
  refine KV (R_assign rfl) rfl ?_
  refine K_nil ?_
  refine Q_then ?_
  refine K_ret ?_
  refine results_gen (rs := [.tmp 2]) (vs := [_]) rfl ⟨rfl, trivial⟩ ?_
  rfl

theorem inter_spec (s t : Nat) (hs : s < big) (H : View) : Sat Tryz.prog F46 #[setV s, setV t] H (fun v _ => v = setV (s &&& t)) := by
  refine enterO (n := 19) (args := [setV s, setV t]) Tryz.func68 rfl rfl rfl fun w0 => ?_
  refine K_seq ?_
  refine K_region ?_
  refine KA (A_box rfl) rfl fun b2 => ?_
  refine KA (A_box rfl) rfl fun b3 => ?_
  refine KA (A_alloc z98) rfl fun b4 => ?_
  refine K_nil ?_
  refine Q_then ?_
  refine K_seq ?_
  refine K_seq ?_
  refine K_region ?_
  refine KV (R_move rfl) rfl ?_
  refine K_nil ?_
  refine Q_then ?_
  refine K_block ?_
  refine K_loop (G := Nat) ⟨fun g => [(2, ptr b2), (3, ptr b3), (4, ptr b4), (6, .int .i64 (g : Int))], fun g => [blk b4 (.cells (setV 0).cells T98 (0, 0)), blk b3 (.cells (setV t).cells T98 (0, 0)), blk b2 (.cells (setV (upto s t g)).cells T98 (0, 0))], fun g => H, fun g => g ≤ 16, fun g => 16 - g⟩ 0 (Nat.zero_le _) ⟨rfl, rfl, rfl, rfl, trivial⟩ (by dsimp only; rw [upto_zero]) rfl ?_
  rintro k hk
  dsimp only at hk ⊢
  refine K_seq ?_
  refine K_region ?_
  refine KV (R_cmp rfl rfl rfl) rfl ?_
  refine K_nil ?_
  refine Q_then ?_
  refine K_seq ?_
  refine K_if rfl (fun h7 => ?_) (fun h7 => ?_)
  ·
    have hk16 : k < 16 := by omega
    refine K_skip ?_
    refine Q_then ?_
    refine K_seq ?_
    refine K_block ?_
    refine K_seq ?_
    refine K_region ?_
    refine KV (R_move rfl) rfl ?_
    refine KV (R_assign rfl) rfl ?_
    refine K_nil ?_
    refine Q_then ?_
    refine K_regionD (fin := true) (R := [0, 1, 2, 3, 4, 5, 6, 7, 8]) (by kernel_rfl) mixed (.cons_cons _ (.cons_cons _ (.cons_cons _ (List.nil_sublist _)))) ?_
    refine D_val rfl rfl rfl (R_move rfl) ?_
    refine D_val rfl rfl rfl (R_indexArr ar98 ty96 rfl rfl ⟨by omega, by omega⟩) ?_
    refine D_val rfl rfl rfl (R_loadC ty96 2 rfl rfl (cells_get (upto s t k) k (by omega) hk16)) ?_
    refine D_val rfl rfl rfl (R_move rfl) ?_
    refine D_val rfl rfl rfl (R_indexArr ar98 ty96 rfl rfl ⟨by omega, by omega⟩) ?_
    refine D_val rfl rfl rfl (R_loadC ty96 1 rfl rfl (cells_get t k (by omega) hk16)) ?_
    refine D_val rfl rfl rfl (R_bitsU rfl rfl (wd_lt _ _) (wd_lt _ _) (.inl ⟨rfl, rfl⟩)) ?_
    refine D_val rfl rfl rfl (R_indexArr ar98 ty96 rfl rfl ⟨by omega, by omega⟩) ?_
    refine D_lastStoreE ty96 2 rfl rfl rfl rfl rfl rfl (cells_fit (upto s t k) k (by omega) hk16) rfl (cells_put (s := upto s t k) (t := upto s t (k + 1)) (k := k) (by omega) hk16 (fun i _ => wd_upto_succ s t k i)) ?_
    refine Q_block ?_
    refine Q_then ?_
    refine K_region ?_
    refine KV (R_add rfl rfl (by omega)) rfl ?_
    refine KV (R_move rfl) rfl ?_
    refine K_nil ?_
    exact Q_next (k + 1) hk16 (by dsimp only; omega) ⟨rfl, rfl, rfl, rfl, trivial⟩ rfl rfl
  ·
    have hk16 : k = 16 := by omega
    subst hk16
    rw [upto_all hs]
    refine K_exit ?_
    refine Q_then_exit ?_
    refine Q_then_exit ?_
    refine Q_block_exit ?_
    refine Q_then ?_
    refine K_seq ?_
    refine K_region ?_
    refine KV (R_loadW ty98 2 rfl rfl rfl rfl) rfl ?_
    refine K_storeW ty98 0 rfl rfl rfl rfl rfl rfl rfl ?_
    refine K_nil ?_
    refine Q_then ?_
    refine K_ret ?_
    refine results_gen (rs := [.cell 4 133]) (vs := [_]) rfl ⟨⟨_, _, _, _, _, _, 0, rfl, rfl, ty98, (fun e => by cases e), rfl, rfl⟩, trivial⟩ ?_
    rfl

theorem of_spec (xs : List Int) (v : Value) (H : View) (hv : SI H v xs) (hb : xs.length ≤ 1099511627776) : Sat Tryz.prog F44 #[v] H (fun v _ => v = setV (ofL xs)) := by
  obtain ⟨a, cap, rfl⟩ := hv.shape
  refine enterO (n := 17) (args := [.slice a xs.length cap]) Tryz.func67 rfl rfl rfl fun w0 => ?_
  refine K_seq ?_
  refine K_region ?_
  refine KA (A_alloc z98) rfl fun b2 => ?_
  refine K_nil ?_
  refine Q_then ?_
  refine K_seq ?_
  refine K_region ?_
  refine KA (A_alloc z98) rfl fun b3 => ?_
  refine K_nil ?_
  refine Q_then ?_
  refine K_seq ?_
  refine K_seq ?_
  refine K_region ?_
  refine KV (R_move rfl) rfl ?_
  refine KV (R_len sl25 rfl) rfl ?_
  refine KV (R_move rfl) rfl ?_
  refine K_nil ?_
  refine Q_then ?_
  refine K_block ?_
  refine K_loop (G := Nat × View) ⟨fun g => [(2, ptr b2), (3, ptr b3), (6, .slice a xs.length cap), (7, .int .i64 xs.length), (8, .int .i64 (g.1 : Int))], fun g => [blk b3 (.cells (setV (ofL (xs.take g.1))).cells T98 (0, 0)), blk b2 (.cells (setV 0).cells T98 (0, 0))], fun g => g.2, fun g => g.1 ≤ xs.length ∧ VLe H g.2, fun g => xs.length - g.1⟩ (0, H) ⟨Nat.zero_le _, VLe.refl H⟩ ⟨rfl, rfl, rfl, rfl, rfl, trivial⟩ rfl rfl ?_
  rintro ⟨k, V⟩ ⟨hk, hV⟩
  dsimp only at hk hV ⊢
  refine K_seq ?_
  refine K_region ?_
  refine KV (R_cmp rfl rfl rfl) rfl ?_
  refine K_nil ?_
  refine Q_then ?_
  refine K_seq ?_
  refine K_if rfl (fun h9 => ?_) (fun h9 => ?_)
  ·
    have hk' : k < xs.length := by omega
    obtain ⟨tb, to_, rfl, hta⟩ := (hv.mono hV).get hk'
    refine K_skip ?_
    refine Q_then ?_
    refine K_seq ?_
    refine K_block ?_
    refine K_seq ?_
    refine K_region ?_
    refine KV (R_indexN sl25 ty3 rfl rfl (by omega)) rfl ?_
    refine KV (R_loadH ty3 rfl (hta) rfl (fun _ => rfl) rfl) rfl ?_
    refine KV (R_assign rfl) rfl ?_
    refine K_nil ?_
    refine Q_then ?_
    refine K_region ?_
    refine KV (R_loadW ty98 0 rfl rfl rfl rfl) rfl ?_
    refine KV (R_move rfl) rfl ?_
    refine K_call c82 rfl rfl (with_spec _ _ V) ?_
    rintro _ V' hle rfl
    refine K_storeW ty98 0 rfl rfl rfl rfl rfl rfl rfl ?_
    refine K_nil ?_
    refine Q_block ?_
    refine Q_then ?_
    refine K_region ?_
    refine KV (R_add rfl rfl (by omega)) rfl ?_
    refine KV (R_move rfl) rfl ?_
    refine K_nil ?_
    exact Q_next (k + 1, V') ⟨hk', hV.trans hle⟩ (by dsimp only; omega) ⟨rfl, rfl, rfl, rfl, rfl, trivial⟩ (by dsimp only; rw [ofL_take xs k hk']; rfl) rfl
  ·
    have hk' : k = xs.length := by omega
    subst hk'
    rw [List.take_length]
    refine K_exit ?_
    refine Q_then_exit ?_
    refine Q_then_exit ?_
    refine Q_block_exit ?_
    refine Q_then ?_
    refine K_seq ?_
    refine K_region ?_
    refine KV (R_loadW ty98 0 rfl rfl rfl rfl) rfl ?_
    refine K_storeW ty98 1 rfl rfl rfl rfl rfl rfl rfl ?_
    refine K_nil ?_
    refine Q_then ?_
    refine K_ret ?_
    refine results_gen (rs := [.cell 2 133]) (vs := [_]) rfl ⟨⟨_, _, _, _, _, _, 1, rfl, rfl, ty98, (fun e => by cases e), rfl, rfl⟩, trivial⟩ ?_
    rfl

theorem tz_spec (x : Nat) (h0 : x ≠ 0) (hx : x < 18446744073709551616) (H : View) (hT : Tab H) : Sat Tryz.prog F117 #[.int .u64 (x : Int)] H (fun v _ => v = .int .i64 ((low x 64 0 : Nat) : Int)) := by
  obtain ⟨g1, _, g3, g4⟩ := low_spec x 64 0 (by obtain ⟨j, h1, h2⟩ := exists_bit h0 (show x < 2 ^ 64 from two64 ▸ hx); exact ⟨j, Nat.zero_le _, by omega, h2⟩)
  generalize low x 64 0 = k at g1 g3 g4 ⊢
  have hk : k < 64 := by omega
  have hlow := lowbit hx g1 (fun j hj => g4 j (Nat.zero_le _) hj)
  have hil := bruijn_lt k
  refine enterO (n := 14) (args := [.int .u64 (x : Int)]) Tryz.func191 rfl rfl rfl fun w0 => ?_
  refine K_seq ?_
  refine K_region ?_
  refine KV (R_assign rfl) rfl ?_
  refine K_nil ?_
  refine Q_then ?_
  refine K_seq ?_
  refine K_seq ?_
  refine K_region ?_
  refine KV (R_move rfl) rfl ?_
  refine KV (R_cmp rfl rfl rfl) rfl ?_
  refine K_nil ?_
  refine Q_then ?_
  refine K_if rfl (fun h4 => ?_) (fun h4 => ?_)
  ·
    exact absurd h4 (by omega)
  ·
    refine K_skip ?_
    refine Q_then ?_
    refine K_seq ?_
    refine K_region ?_
    refine KV (R_move rfl) rfl ?_
    refine KV (R_move rfl) rfl ?_
    refine KV (R_negU rfl (by omega) hx) rfl ?_
    refine KV (R_bitsU rfl rfl hx (by omega) (.inl ⟨rfl, hlow⟩)) rfl ?_
    refine KV (R_mulU (b := 285870213051353865) rfl rfl) rfl ?_
    refine KV (R_shrU (k := 58) rfl rfl (by decide)) rfl ?_
    refine KV (R_indexG (sz := 1) ar155 ty5 rfl ⟨by omega, by omega⟩) rfl ?_
    refine KV (R_loadH ty5 rfl (hT.get hil (bruijn_ok k hk) (by omega)) rfl (fun _ => rfl) rfl) rfl ?_
    refine KV (R_convII (by kernel_rfl) ⟨_, Tryz.underlying5⟩ rfl (wrap64 (by omega))) rfl ?_
    refine KV (R_assign rfl) rfl ?_
    refine K_nil ?_
    refine Q_then ?_
    refine K_ret ?_
    refine results_gen (rs := [.tmp 2]) (vs := [_]) rfl ⟨rfl, trivial⟩ ?_
    rfl

theorem min_spec (s : Nat) (hs : s < big) (H : View) (hT : Tab H) : Sat Tryz.prog F106 #[setV s] H (fun v _ => v = .tuple #[.int .i64 (minS s), .bool (decide (s ≠ 0))]) := by
  refine enterO (n := 19) (args := [setV s]) Tryz.func171 rfl rfl rfl fun w0 => ?_
  refine K_seq ?_
  refine K_region ?_
  refine KA (A_box rfl) rfl fun b1 => ?_
  refine KV (R_assign rfl) rfl ?_
  refine KV (R_assign rfl) rfl ?_
  refine K_nil ?_
  refine Q_then ?_
  refine K_seq ?_
  refine K_seq ?_
  refine K_region ?_
  refine KV (R_loadW ty98 0 rfl rfl rfl rfl) rfl ?_
  refine KV (R_move rfl) rfl ?_
  refine K_nil ?_
  refine Q_then ?_
  refine K_block ?_
  refine K_loop (G := Nat) ⟨fun g => [(1, ptr b1), (6, setV s), (7, .int .i64 (g : Int)), (2, .int .i64 0), (3, .bool false)], fun g => [blk b1 (.cells (setV s).cells T98 (0, 0))], fun g => H, fun g => g ≤ 16 ∧ ∀ i, i < g → wd s i = 0, fun g => 16 - g⟩ 0 ⟨Nat.zero_le _, fun i hi => by omega⟩ ⟨rfl, rfl, rfl, rfl, rfl, trivial⟩ rfl rfl ?_
  rintro k ⟨hk, hz⟩
  dsimp only at hk hz ⊢
  refine K_seq ?_
  refine K_region ?_
  refine KV (R_cmp rfl rfl rfl) rfl ?_
  refine K_nil ?_
  refine Q_then ?_
  refine K_seq ?_
  refine K_if rfl (fun h8 => ?_) (fun h8 => ?_)
  ·
    have hk16 : k < 16 := by omega
    refine K_skip ?_
    refine Q_then ?_
    refine K_seq ?_
    refine K_block ?_
    refine K_seq ?_
    refine K_region ?_
    refine KV (R_move rfl) rfl ?_
    refine KV (R_indexV (i := k) ar98 ty96 rfl rfl hk16 (cells_get s k rfl hk16)) rfl ?_
    refine KV (R_assign rfl) rfl ?_
    refine KV (R_assign rfl) rfl ?_
    refine K_nil ?_
    refine Q_then ?_
    refine K_seq ?_
    refine K_region ?_
    refine KV (R_move rfl) rfl ?_
    refine KV (R_cmp rfl rfl rfl) rfl ?_
    refine K_nil ?_
    refine Q_then ?_
    refine K_if rfl (fun h12 => ?_) (fun h12 => ?_)
    ·
      have hne : wd s k ≠ 0 := by omega
      have hmin := minS_word hk16 hz hne
      have hmin2 := hmin.2.2
      refine K_seq ?_
      refine K_region ?_
      refine KV (R_move rfl) rfl ?_
      refine KV (R_mul rfl rfl (by omega)) rfl ?_
      refine KV (R_move rfl) rfl ?_
      refine K_call c117 rfl rfl (tz_spec _ (by omega) (wd_lt _ _) H hT) ?_
      rintro _ V' hle rfl
      refine KV (R_add rfl rfl (by omega)) rfl ?_
      refine KV (R_assign rfl) rfl ?_
      refine KV (R_assign rfl) rfl ?_
      refine K_nil ?_
      refine Q_then ?_
      refine K_ret ?_
      refine Q_block_ret ?_
      refine Q_then_ret ?_
      refine Q_then_ret ?_
      refine Q_block_ret ?_
      refine Q_then_ret ?_
      refine results_gen (rs := [.tmp 2, .tmp 3]) (vs := [_, _]) rfl ⟨rfl, ⟨rfl, trivial⟩⟩ ?_
      simp only [tupV, hmin.1, decide_eq_true hmin.2.1]
    ·
      have hz2 : ∀ i, i < k + 1 → wd s i = 0 := by
        intro i hi
        by_cases e : i = k
        · subst e; omega
        · exact hz i (by omega)
      refine K_skip ?_
      refine Q_block ?_
      refine Q_then ?_
      refine K_region ?_
      refine KV (R_add rfl rfl (by omega)) rfl ?_
      refine KV (R_move rfl) rfl ?_
      refine K_nil ?_
      exact Q_next (k + 1) ⟨hk16, hz2⟩ (by dsimp only; omega) ⟨rfl, rfl, rfl, rfl, rfl, trivial⟩ rfl rfl
  ·
    have hk16 : k = 16 := by omega
    subst hk16
    refine K_exit ?_
    refine Q_then_exit ?_
    refine Q_then_exit ?_
    refine Q_block_exit ?_
    refine Q_then ?_
    refine K_seq ?_
    refine K_region ?_
    refine KV (R_assign rfl) rfl ?_
    refine KV (R_assign rfl) rfl ?_
    refine K_nil ?_
    refine Q_then ?_
    refine K_ret ?_
    refine results_gen (rs := [.tmp 2, .tmp 3]) (vs := [_, _]) rfl ⟨rfl, ⟨rfl, trivial⟩⟩ ?_
    rw [zero_of_words hs hz]
    rfl

theorem all_spec (s : Nat) (H : View) : Sat Tryz.prog F81 #[setV s] H (fun v H' => ∃ b, v = .func (.func F105) #[] #[ptr b] ∧ At H' b 0 (setL s)) := by
  refine enterO (n := 4) (args := [setV s]) Tryz.func125 rfl rfl rfl fun w0 => ?_
  refine K_seq ?_
  refine K_region ?_
  refine KA (A_box rfl) rfl fun b1 => ?_
  refine KV (R_assign rfl) rfl ?_
  refine K_nil ?_
  refine Q_then ?_
  refine K_seq ?_
  refine K_region ?_
  refine KV (R_makeFunc rfl rfl) rfl ?_
  refine KV (R_assign rfl) rfl ?_
  refine K_nil ?_
  refine Q_then ?_
  refine K_ret ?_
  refine KQ_publish (by simp [feet]) ?_
  refine results_gen (rs := [.tmp 2]) (vs := [_]) rfl ⟨rfl, trivial⟩ ?_
  exact ⟨b1, rfl, _, T98, (0, 0), vadd_self _ _ _, fun j v h => by simpa [setV, Value.cells] using h⟩

theorem alliter_spec (s b L : Nat) (hs : s < big) (E : List Value → HL → Prop) (p0 : HL) (hp0 : E [] p0) (hY : Pal.Yields Tryz.prog L ((els s).map (.int .i64)) E) (H : View) (hT : Tab H) (hb : At H b 0 (setL s)) :
    SatO Tryz.prog F105 #[.func (.yield L) #[] #[], ptr b] H p0 (fun _ _ q => E ((els s).map (.int .i64)) q) := by
  refine enterO (n := 25) (args := [.func (.yield L) #[] #[], ptr b]) Tryz.func170 rfl rfl rfl fun w0 => ?_
  refine K_seq ?_
  refine K_region ?_
  refine KV (R_loadH ty98 rfl (hb) rfl (fun e => by cases e) rfl) rfl ?_
  refine KA (A_alloc z98) rfl fun b3 => ?_
  refine K_storeW ty98 0 rfl rfl rfl rfl rfl rfl rfl ?_
  refine K_nil ?_
  refine Q_then ?_
  refine K_seq ?_
  refine K_region ?_
  refine KV (R_loadW ty98 0 rfl rfl rfl rfl) rfl ?_
  refine K_call c106 rfl rfl (min_spec s hs H hT) ?_
  rintro _ V' hle rfl
  refine KV (R_move rfl) rfl ?_
  refine KV (R_extract rfl rfl) rfl ?_
  refine KV (R_extract rfl rfl) rfl ?_
  refine KV (R_assign rfl) rfl ?_
  refine KV (R_assign rfl) rfl ?_
  refine K_nil ?_
  refine Q_then ?_
  refine K_block ?_
  refine K_loop (G := List Value × Nat × View × HL) ⟨fun g => [(0, .func (.yield L) #[] #[]), (3, ptr b3), (4, .int .i64 (minS g.2.1)), (5, .bool (decide (g.2.1 ≠ 0)))], fun g => blk b3 (.cells (setV g.2.1).cells T98 (0, 0)) :: g.2.2.2, fun g => g.2.2.1, fun g => g.2.1 < big ∧ g.1 ++ (els g.2.1).map (.int .i64) = (els s).map (.int .i64) ∧ VLe H g.2.2.1 ∧ E g.1 g.2.2.2, fun g => (els g.2.1).length⟩ ([], s, V', p0) ⟨hs, (by dsimp only; rw [List.nil_append]), hle, hp0⟩ ⟨rfl, rfl, rfl, rfl, trivial⟩ rfl rfl ?_
  rintro ⟨pre, u, V, p⟩ ⟨hu, hpre, hV, hE⟩
  dsimp only at hu hpre hV hE ⊢
  refine K_seq ?_
  refine K_seq ?_
  refine K_region ?_
  refine KV (R_move rfl) rfl ?_
  refine K_nil ?_
  refine Q_then ?_
  refine K_if rfl (fun h12 => ?_) (fun h12 => ?_)
  ·
    have hst := els_step hu h12
    have hpf : pre ++ [Value.int .i64 (minS u)] <+: (els s).map (.int .i64) := ⟨(els (clr u (low u 1024 0))).map (.int .i64), by rw [← hpre, hst]; simp⟩
    obtain ⟨_, hlw, _⟩ := zero_or_bit hu h12
    have hcl : (if 0 ≤ minS u ∧ minS u < 1024 then clr u (minS u).toNat else u) = clr u (low u 1024 0) := by
      have hm : minS u = ((low u 1024 0 : Nat) : Int) := by rw [minS, if_neg h12]
      rw [hm, if_pos ⟨by omega, by omega⟩, Int.toNat_natCast]
    refine K_skip ?_
    refine Q_then ?_
    refine K_seq ?_
    refine K_block ?_
    refine K_seq ?_
    refine K_seq ?_
    refine K_regionX ?_
    refine X_val (R_move rfl) rfl ?_
    refine X_val (R_move rfl) rfl ?_
    refine X_yield rfl rfl (List.perm_append_comm (l₁ := [_])) (hY pre _ _ hE hpf) rfl fun V1 q1 hle1 hZ1 => ?_
    refine X_perm (_ :: q1) (List.perm_append_comm (l₂ := [_])) ?_
    refine X_val (R_not rfl) rfl ?_
    refine X_nil ?_
    refine Q_then ?_
    refine K_ifF rfl ?_
    refine K_skip ?_
    refine Q_then ?_
    refine K_region ?_
    refine KV (R_loadW ty98 0 rfl rfl rfl rfl) rfl ?_
    refine KV (R_move rfl) rfl ?_
    refine K_call c107 rfl rfl (without_spec _ _ V1) ?_
    rintro _ V2 hle2 rfl
    rw [hcl]
    refine K_storeW ty98 0 rfl rfl rfl rfl rfl rfl rfl ?_
    refine K_nil ?_
    refine Q_block ?_
    refine Q_then ?_
    refine K_region ?_
    refine KV (R_loadW ty98 0 rfl rfl rfl rfl) rfl ?_
    refine K_call c106 rfl rfl (min_spec _ (clr_big _ hu) V2 (hT.mono ((hV.trans hle1).trans hle2))) ?_
    rintro _ V'' hle3 rfl
    refine KV (R_move rfl) rfl ?_
    refine KV (R_extract rfl rfl) rfl ?_
    refine KV (R_extract rfl rfl) rfl ?_
    refine KV (R_assign rfl) rfl ?_
    refine KV (R_assign rfl) rfl ?_
    refine K_nil ?_
    exact Q_next (pre ++ [.int .i64 (minS u)], clr u (low u 1024 0), V'', q1) ⟨clr_big _ hu, by rw [← hpre, hst]; simp, (hV.trans hle1).trans (hle2.trans hle3), hZ1⟩ (by dsimp only; rw [hst]; simp) ⟨rfl, rfl, rfl, rfl, trivial⟩ rfl rfl
  ·
    have hu0 : u = 0 := by omega
    subst hu0
    rw [els_zero] at hpre
    simp only [List.map_nil, List.append_nil] at hpre
    refine K_exit ?_
    refine Q_then_exit ?_
    refine Q_then_exit ?_
    refine Q_block_exit ?_
    refine Q_fall ?_
    refine KQ_own _ (List.Sublist.cons _ (List.Sublist.refl _)) ?_
    refine results_gen (rs := []) (vs := []) rfl trivial ?_
    rw [← hpre]; exact hE

theorem collect_spec (gf : Nat) (cap : List Value) (ys : List Int) (hys : ∀ y ∈ ys, i64ok y) (hyl : ys.length ≤ 1099511627776) (H : View) (hcal : callable Tryz.prog gf = true)
    (hit : ∀ L E p, E [] p → Pal.Yields Tryz.prog L (ys.map (.int .i64)) E → SatO Tryz.prog gf ([] ++ [Value.func (.yield L) #[] #[]] ++ cap).toArray H p (fun _ _ q => E (ys.map (.int .i64)) q)) :
    Sat Tryz.prog F104 #[.slice none 0 0, .func (.func gf) #[] cap.toArray] H (fun v H' => SI H' v ys) := by
  refine enterM (n := 13) (args := [.slice none 0 0, .func (.func gf) #[] cap.toArray]) Tryz.func169 rfl rfl rfl fun w0 => ?_
  refine K_seq ?_
  refine K_region ?_
  refine KA (A_box rfl) rfl fun b2 => ?_
  refine KV (R_assign rfl) rfl ?_
  refine K_nil ?_
  refine Q_then ?_
  refine K_seq ?_
  refine K_seq ?_
  refine K_region ?_
  refine KV (R_move rfl) rfl ?_
  refine K_nil ?_
  refine Q_then ?_
  refine K_nilrow T3 1 ?_
  refine K_rangeFunc (p := [row nilS T3 1 0 [], blk b2 (.cells #[.slice none 0 0] T25 (0, 0))]) (r := []) (first := []) (cap := cap)
    (R := fun _ q' => ∃ sv, q' = [row sv T3 1 ys.length (ys.map (.int .i64)), blk b2 (.cells #[sv] T25 (0, 0))]) hcal rfl (List.Perm.refl _) ?_ ?_
  · intro fn D L ρ hm
    refine SatO.mono' (hit L (fun pre q => ∃ sv, q = [blk L (.loop (rec0 fn (fr 13 ρ).tmps #[7] _ _ D)), row sv T3 1 pre.length pre, blk b2 (.cells #[sv] T25 (0, 0))]) _ ⟨nilS, rfl⟩ ?_) ?_
    · rintro pre x p ⟨sv, rfl⟩ hpf
      have hlen : pre.length + 1 ≤ ys.length := by have := hpf.length_le; simpa using this
      obtain ⟨i, rfl⟩ : ∃ i, x = .int .i64 i := by
        have : x ∈ ys.map (Value.int .i64) := hpf.subset (by simp)
        obtain ⟨i, _, rfl⟩ := List.mem_map.1 this
        exact ⟨i, rfl⟩
      refine yok (n := 13) (pt := 7) (ρ0 := ρ) (L1 := [(2, ptr b2), (5, .int .i64 i)]) rfl rfl rfl rfl rfl hm rfl rfl rfl rfl ?_ ?_
      · intro c H
        refine KV (R_assign rfl) rfl ?_
        refine K_nil ?_
        exact Q_out ⟨rfl, rfl, rfl, rfl, trivial⟩
      · intro c H
        refine KV (R_loadO ty25 2 rfl rfl rfl rfl (fun _ => rfl) rfl) rfl ?_
        refine KV (R_move rfl) rfl ?_
        refine KA (A_buildSlice (vs := [_]) sl25 ty3 z3 rfl rfl (by simp [Value.cells]) (by simp) rfl (by decide)) rfl fun b10 => ?_
        refine K_append1 1 ap25 rfl rfl rfl rfl rfl rfl ⟨by omega, by omega⟩ rfl fun a11 k11 hn11 => ?_
        refine K_store ty25 2 rfl rfl rfl rfl rfl rfl ?_
        refine K_nil ?_
        refine KQ_sel [1, 0, 0] rfl ?_
        exact Q_out ⟨_, rfl, .slice a11 (pre.length + 1) k11, by rw [List.length_append]; rfl⟩
    · rintro v H' q ⟨sv, rfl⟩
      exact ⟨_, rfl, sv, by rw [List.length_map]⟩
  · rintro D H' q' hle ⟨sv, rfl⟩ ρ w hm ho
    refine wp_endM (hl := [row sv T3 1 ys.length (ys.map (.int .i64)), blk b2 (.cells #[sv] T25 (0, 0))]) (rs := [.tmp 4]) (vs := [sv])
      (S := fun l hl1 H1 => Pal.look l 4 = some sv ∧ hl1 = [blk D (.deferred (some [])), row sv T3 1 ys.length (ys.map (.int .i64)), blk b2 (.cells #[sv] T25 (0, 0))] ∧ H1 = H') rfl hm ho ?_ ?_
    · refine KV (R_loadO ty25 2 rfl rfl rfl rfl (fun _ => rfl) rfl) rfl ?_
      refine KV (R_assign rfl) rfl ?_
      refine K_nil ?_
      exact Q_out ⟨rfl, rfl, rfl⟩
    · rintro l' hl' H1 ⟨h1, rfl, rfl⟩
      refine ⟨_, [sv], rfl, rfl, ⟨h1, trivial⟩, fun w' ho' => ?_⟩
      obtain ⟨H2, hle2, hrow, ho2⟩ := Ok.pubrow ho' (by simp [feet])
      exact ⟨H2, _, ho2, hrow.sl, hys⟩

theorem collect80_spec (gf : Nat) (cap : List Value) (ys : List Int) (hys : ∀ y ∈ ys, i64ok y) (hyl : ys.length ≤ 1099511627776) (H : View) (hcal : callable Tryz.prog gf = true)
    (hit : ∀ L E p, E [] p → Pal.Yields Tryz.prog L (ys.map (.int .i64)) E → SatO Tryz.prog gf ([] ++ [Value.func (.yield L) #[] #[]] ++ cap).toArray H p (fun _ _ q => E (ys.map (.int .i64)) q)) :
    Sat Tryz.prog F80 #[.func (.func gf) #[] cap.toArray] H (fun v H' => SI H' v ys) := by
  refine enterO (n := 5) (args := [.func (.func gf) #[] cap.toArray]) Tryz.func124 rfl rfl rfl fun w0 => ?_
  refine K_seq ?_
  refine K_region ?_
  refine KV (R_assign rfl) rfl ?_
  refine K_nil ?_
  refine Q_then ?_
  refine K_seq ?_
  refine K_region ?_
  refine KV (R_move rfl) rfl ?_
  refine K_call c104 rfl rfl (collect_spec gf cap ys hys hyl H hcal hit) ?_
  rintro u V' hle hu
  refine KV (R_assign rfl) rfl ?_
  refine K_nil ?_
  refine Q_then ?_
  refine K_ret ?_
  refine results_gen (rs := [.tmp 2]) (vs := [_]) rfl ⟨rfl, trivial⟩ ?_
  exact hu

theorem elements_spec (s : Nat) (hs : s < big) (H : View) (hT : Tab H) : Sat Tryz.prog F43 #[setV s] H (fun v H' => SI H' v (els s)) := by
  refine enterO (n := 6) (args := [setV s]) Tryz.func66 rfl rfl rfl fun w0 => ?_
  refine K_seq ?_
  refine K_region ?_
  refine KA (A_box rfl) rfl fun b1 => ?_
  refine KV (R_assign rfl) rfl ?_
  refine K_nil ?_
  refine Q_then ?_
  refine K_seq ?_
  refine K_region ?_
  refine KV (R_loadW ty98 0 rfl rfl rfl rfl) rfl ?_
  refine K_call c81 rfl rfl (all_spec s H) ?_
  rintro _ V' hle ⟨b, rfl, hb⟩
  refine K_call c80 rfl rfl (collect80_spec F105 [ptr b] (els s) (els_ok s) (els_len s) V' c105 (fun L E p hE hY => alliter_spec s b L hs E p hE hY V' (hT.mono hle) hb)) ?_
  rintro u V'' hle2 hu
  refine KV (R_assign rfl) rfl ?_
  refine K_nil ?_
  refine Q_then ?_
  refine K_ret ?_
  refine results_gen (rs := [.tmp 2]) (vs := [_]) rfl ⟨rfl, trivial⟩ ?_
  exact hu
end Go.Proofs.X
