/-
  Building a deterministic automaton by two functions: digits of a place in a made block, calls of function values. Own work. No statement of the seat is proved here.
-/
import Derived.Test.YtdclodapkhgabaaGreatDoorPalFo
namespace Pal
open Go
/-- The digits written so far, from the last to the first. -/
def digC (n nn p r : Nat) : Array Value := ((List.range nn).map fun i => Value.int .i64 (if nn - r ≤ i then (digs n nn p).getD i 0 else 0)).toArray
theorem digC_size (n nn p r : Nat) : (digC n nn p r).size = nn := by simp [digC]
theorem digC_made (n nn p : Nat) : madeCells #[.int .i64 0] (nn * 1) = digC n nn p 0 := by
  rw [made_one]
  unfold digC
  congr 1
  refine List.ext_getElem (by simp) fun i h1 h2 => ?_
  have : i < nn := by simpa using h1
  simp
  omega
theorem digC_all (n nn p : Nat) : (digC n nn p nn) = (ints (digs n nn p)).toArray := by
  unfold digC ints
  congr 1
  refine List.ext_getElem (by simp [digs_len]) fun i h1 h2 => ?_
  have h3 : i < (digs n nn p).length := by rw [digs_len]; simpa using h1
  simp [List.getD, h3]
theorem digC_put {n nn p r off : Nat} (h : r < nn) (ho : off = nn - 1 - r) : putCells (digC n nn p r) off (Value.int .i64 (((p / n ^ r : Nat) : Int).tmod (n : Int))).cells.toList = digC n nn p (r + 1) := by
  subst ho
  have e : putCells (digC n nn p r) (nn - 1 - r) (Value.int .i64 (((p / n ^ r : Nat) : Int).tmod (n : Int))).cells.toList = (digC n nn p r).setIfInBounds (nn - 1 - r) (.int .i64 (((p / n ^ r : Nat) : Int).tmod (n : Int))) := putCells_one (by rw [digC_size]; omega)
  rw [e]
  apply Array.ext
  · simp [digC]
  · intro i h1 h2
    have hi : i < nn := by rw [digC_size] at h2; exact h2
    have h3 : i < (digs n nn p).length := by rw [digs_len]; exact hi
    rw [Array.getElem_setIfInBounds (by rw [digC_size]; exact hi)]
    by_cases e : nn - 1 - r = i
    · subst e
      rw [if_pos rfl]
      have hd := digs_get (n := n) (k := nn) (p := p) (j := r) h
      have e1 : ((p / n ^ r : Nat) : Int).tmod (n : Int) = ((p / n ^ r % n : Nat) : Int) := (Int.ofNat_tmod _ _).symm
      simp only [digC, List.getElem_toArray, List.getElem_map, List.getElem_range]
      rw [if_pos (by omega), e1, ← hd]
      simp [List.getD, h3]
    · rw [if_neg e]
      simp only [digC, List.getElem_toArray, List.getElem_map, List.getElem_range]
      by_cases e2 : nn - r ≤ i
      · rw [if_pos e2, if_pos (by omega)]
      · rw [if_neg e2, if_neg (by omega)]
theorem digs_tups2 {n k p : Nat} (h : p < (tups n k).length) : (tups n k)[p] = digs n k p := by
  rcases Nat.eq_zero_or_pos n with rfl | hn
  · cases k with
    | zero =>
      have h0 : p = 0 := by rw [tups_len] at h; simpa using h
      subst h0; rfl
    | succ k => exfalso; rw [tups_len] at h; simp at h
  · exact digs_tups hn h
theorem pickD_take {out xs : List Int} {i : Nat} (hi : i < xs.length) (h : 0 ≤ xs[i] ∧ xs[i] < (out.length : Int)) : pickD out (xs.take (i + 1)) = pickD out (xs.take i) ++ [out[xs[i].toNat]'(by omega)] := by
  rw [List.take_succ_eq_append_getElem hi]
  have e : xs[i] = ((xs[i].toNat : Nat) : Int) := by omega
  have h2 : xs[i].toNat < out.length := by omega
  unfold pickD
  rw [List.map_append]
  congr 1
  simp [List.getD, h2]
theorem asArr_step {n off j : Nat} {out : List Int} (hnd : out.Nodup) (hj : j < out.length) (h : 0 ≤ out[j] ∧ out[j] < (n : Int)) (ho : off = out[j].toNat) : putCells (asArr n (out.take j)) off (Value.int .i64 (j : Int)).cells.toList = asArr n (out.take (j + 1)) := by
  have hnm : ¬ out[j] ∈ out.take j := by
    intro hm
    obtain ⟨k, hk, he⟩ := List.getElem_of_mem hm
    have hk2 : k < j := by rw [List.length_take] at hk; omega
    rw [List.getElem_take] at he
    have := (List.getElem_inj hnd).1 he
    omega
  rw [List.take_succ_eq_append_getElem hj]
  have hp := asArr_put (n := n) (off := off) (old := out.take j) hnm h ho
  rw [List.length_take, Nat.min_eq_left (by omega)] at hp
  exact hp
theorem trim_eq (d : Dt) : trimD d = ⟨d.ranks, (List.range (foundD d).length).map fun q => d.acc.getD ((foundD d).getD q 0).toNat false, (List.range d.ranks.length).map fun s => (tups (foundD d).length (d.ranks.getD s 0).toNat).map fun xs => asD (foundD d) (atM d (s : Int) (pickD (foundD d) xs))⟩ := by
  unfold trimD
  congr 1
  refine List.ext_getElem (by simp) fun i h1 h2 => ?_
  have h3 : i < (foundD d).length := by simpa using h1
  simp [List.getD, h3]
theorem asD_ok {out : List Int} {q : Int} (h : out.length ≤ 1048576) : i64ok (asD out q) := by
  unfold asD
  split
  · rename_i hm
    have := List.idxOf_lt_length_of_mem hm
    simp only [i64ok]; omega
  · simp [i64ok]
theorem quo_step {n p r : Nat} (h : p / n ^ r < 9223372036854775808) : IntKind.i64.wrap (((p / n ^ r : Nat) : Int).tdiv (n : Int)) = ((p / n ^ (r + 1) : Nat) : Int) := by
  have e1 : ((p / n ^ r : Nat) : Int).tdiv (n : Int) = ((p / n ^ r / n : Nat) : Int) := (Int.ofNat_tdiv _ _).symm
  have e2 : p / n ^ r / n = p / n ^ (r + 1) := by rw [Nat.div_div_eq_div_mul, Nat.pow_succ]
  rw [e1, e2]
  have h3 : p / n ^ (r + 1) ≤ p / n ^ r := by rw [← e2]; exact Nat.div_le_self _ _
  have h4 : (0 : Int) ≤ ((p / n ^ (r + 1) : Nat) : Int) := Int.natCast_nonneg _
  have h5 : ((p / n ^ (r + 1) : Nat) : Int) < 9223372036854775808 := Int.ofNat_lt.2 (Nat.lt_of_le_of_lt h3 h)
  exact wrap64 ⟨by generalize ((p / n ^ (r + 1) : Nat) : Int) = z at *; omega, by generalize ((p / n ^ (r + 1) : Nat) : Int) = z at *; omega⟩
section
variable {P : Program} {n : Nat} {c : Cx} {Q : Exit → Act → World → Prop} {l : KL} {hl : HL} {H : View} {ops : Array Oper} {rest : List Oper} {ty : TypeId}
theorem E_callV {g : Operand} {xs : List Operand} {ats : Array TypeId} {f : FuncId} {captured vs : List Value} {post : Value → View → Prop}
    (hcal : callable P f = true) (hg : ev l g = some (.func (.func f) #[] captured.toArray)) (hxs : evs l xs = some vs) (hS : Sat P f ([] ++ vs ++ captured).toArray H post) :
    Eff P l H [] (.call ⟨.value g, xs.toArray, ats⟩) ty fun v H' q => q = [] ∧ post v H' := by
  intro e w hk ho
  refine Upon.mono (E_call (first := []) (captured := captured) (post := fun v H' _ => post v H') hcal hg hxs (by simpa [Sat] using hS) e w hk ho) ?_
  rintro v w' ⟨H', q, ho', hp⟩
  exact ⟨H', [], ho'.sublist (List.nil_sublist q), rfl, hp⟩
theorem K_callV {d : Nat} {pos : String} {aft : Array Edge} {g : Operand} {xs : List Operand} {ats : Array TypeId} {f : FuncId} {captured vs : List Value} {post : Value → View → Prop}
    (hcal : callable P f = true) (hg : ev l g = some (.func (.func f) #[] captured.toArray)) (hxs : evs l xs = some vs) (hdn : Nat.blt d n = true) (hS : Sat P f ([] ++ vs ++ captured).toArray H post)
    (h : ∀ u H', VLe H H' → post u H' → KO P n c ops Q rest ((d, u) :: l) hl H') :
    KO P n c ops Q (⟨some d, .call ⟨.value g, xs.toArray, ats⟩, ty, pos, aft, none⟩ :: rest) l hl H :=
  KE [] hl (List.Perm.refl _) (E_callV hcal hg hxs hS) hdn (by rintro v H' q hle ⟨rfl, hp⟩; exact h v H' hle hp)
end
section
variable {P : Program} {n : Nat} {l : KL} {hl : HL} {H : View} {ol : List Oper} {i : Nat} {ty : TypeId} {keep : HL} {fin : Bool} {R : List Nat} {T : ST} {d : Nat} {pos : String} {aft : Array Edge} {g : Option (Nat × Bool)}
theorem D_callV {gx : Operand} {xs : List Operand} {ats : Array TypeId} {f : FuncId} {captured vs : List Value} {post : Value → View → Prop} (hi : nthO ol i = some ⟨some d, .call ⟨.value gx, xs.toArray, ats⟩, ty, pos, aft, g⟩)
    (hw : wlO ol l g = some true) (hcal : callable P f = true) (hg : ev l gx = some (.func (.func f) #[] captured.toArray)) (hxs : evs l xs = some vs) (hkp : memAll keep hl) (hS : Sat P f ([] ++ vs ++ captured).toArray H post)
    (h : ∀ u H', VLe H H' → post u H' → KD P n ol.toArray keep fin T R ((d, u) :: l) hl H') : KD P n ol.toArray keep fin T (i :: R) l hl H :=
  D_eff [] hl hi hw rfl (List.Perm.refl _) hkp.mem (E_callV hcal hg hxs hS) (by rintro v H' q hle ⟨rfl, hp⟩; exact h v H' hle hp)
end
/-! ### The automaton with rules -/
def rlD (d : Dt) (s : Nat) (xs : List Int) : Rl := ⟨(s : Int), xs, atM d (s : Int) xs⟩
def rulesTo (d : Dt) (s : Nat) : List Rl := (List.range s).flatMap (rulesD1 d)
theorem rulesTo_succ {d : Dt} {s : Nat} : rulesTo d (s + 1) = rulesTo d s ++ (tups d.acc.length (d.ranks.getD s 0).toNat).map (rlD d s) := by
  simp only [rulesTo, List.range_succ, List.flatMap_append, List.flatMap_singleton]
  rfl
def finTo (d : Dt) (q : Nat) : List Int := subL q fun s => d.acc.getD s false
theorem prefix_at {α : Type} {pre T : List α} {x : α} (h : (pre ++ [x]) <+: T) : ∃ hi : pre.length < T.length, T[pre.length] = x := by
  obtain ⟨t, rfl⟩ := h
  exact ⟨by simp, by simp⟩
theorem rulesTo_len {d : Dt} (h : DtOk d) (hn : d.acc.length ≤ 5) : ∀ {s : Nat}, s ≤ d.ranks.length → (rulesTo d s).length ≤ s * 25
  | 0, _ => by simp [rulesTo]
  | s + 1, hs => by
    have ih := rulesTo_len h hn (s := s) (by omega)
    rw [rulesTo_succ, List.length_append, List.length_map, tups_len]
    have h3 : (d.ranks.getD s 0).toNat ≤ 2 := by
      have := (ranksErr_ok h.rk).2 s (by omega)
      have e : d.ranks.getD s 0 = d.ranks[s] := by simp [List.getD, show s < d.ranks.length by omega]
      rw [e]; omega
    have h4 : d.acc.length ^ (d.ranks.getD s 0).toNat ≤ 5 ^ (d.ranks.getD s 0).toNat := Nat.pow_le_pow_left hn _
    have h5 : 5 ^ (d.ranks.getD s 0).toNat ≤ 5 ^ 2 := Nat.pow_le_pow_right (by decide) h3
    omega
theorem to_len25 {d : Dt} (h : DtOk d) (hn : d.acc.length ≤ 5) {k : Nat} (hk : k < d.to.length) : d.to[k].length ≤ 25 := by
  have hkr : k < d.ranks.length := by rw [← h.tl]; exact hk
  have h1 := h.w k hkr
  have e : d.to.getD k [] = d.to[k] := by simp [List.getD, hk]
  have h3 : (d.ranks.getD k 0).toNat ≤ 2 := by
    have := (ranksErr_ok h.rk).2 k hkr
    have e : d.ranks.getD k 0 = d.ranks[k] := by simp [List.getD, hkr]
    rw [e]; omega
  have h4 : d.acc.length ^ (d.ranks.getD k 0).toNat ≤ 5 ^ (d.ranks.getD k 0).toNat := Nat.pow_le_pow_left hn _
  have h5 : 5 ^ (d.ranks.getD k 0).toNat ≤ 5 ^ 2 := Nat.pow_le_pow_right (by decide) h3
  rw [e] at h1
  omega
theorem at_place {d : Dt} (h : DtOk d) {s i : Nat} {xs : List Int} (hs : s < d.ranks.length) (hi : i < (tups d.acc.length (d.ranks.getD s 0).toNat).length) (hx : (tups d.acc.length (d.ranks.getD s 0).toNat)[i] = xs) :
    ∃ (h1 : s < d.to.length) (h2 : i < d.to[s].length), atM d (s : Int) xs = d.to[s][i] := by
  have h1 : s < d.to.length := by rw [h.tl]; exact hs
  have e : d.to.getD s [] = d.to[s] := by simp [List.getD, h1]
  have h2 : i < d.to[s].length := by rw [← e, h.w s hs, ← tups_len]; exact hi
  refine ⟨h1, h2, ?_⟩
  have hp := tups_at hi
  rw [hx] at hp
  unfold atM
  rw [Int.toNat_natCast, e, hp, Int.toNat_natCast]
  simp [List.getD, h2]
theorem RepAu.nil (H : View) : RepAu H ⟨[], 0, [], []⟩ nilS nilS nilS :=
  ⟨⟨⟨none, 0, rfl, .inl ⟨rfl, rfl⟩⟩, by simp⟩, ⟨[], ⟨none, 0, rfl, .inl ⟨rfl, rfl⟩⟩, .nil⟩, ⟨⟨none, 0, rfl, .inl ⟨rfl, rfl⟩⟩, by simp⟩, by simp [i64ok], by simp, by simp, by simp⟩
theorem SatO.monoL {P : Program} {f : FuncId} {args : Array Value} {H : View} {p : HL} {post post' : Value → View → HL → Prop} (h : SatO P f args H p post) (hp : ∀ v H' q, VLe H H' → post v H' q → post' v H' q) : SatO P f args H p post' :=
  fun w hw => Calls.mono (h w hw) fun _ _ ⟨v, H', q, h1, h2, h3⟩ => ⟨v, H', q, h1, h2, hp _ _ _ h2.le h3⟩
theorem cons_trim {d : Dt} (h : DtOk d) (hn : d.acc.length ≤ 5) (hr : d.ranks.length ≤ 8) : ∃ st, consM (ntaM d) 64 = (0, some st) ∧ fromM (ntaM d) st = trimD d := by
  have h6 : (ntaM d).states ≤ 6 := by simp only [ntaM]; omega
  have he := ntaM_err h hn hr
  obtain ⟨E, o, hc, hall⟩ := cons_ways (ntaM d) 64 h6
  have hl := (refSubs_closed he h6).1.len h6
  rcases hall with ⟨h1, _⟩ | ⟨_, h1, _⟩ | ⟨_, _, h1, _⟩ | ⟨_, _, _, rfl, st, rfl, _, h2⟩
  · exact absurd he h1
  · omega
  · omega
  · exact ⟨st, hc, by rw [h2, from_trim h hn hr]⟩
theorem trim_small {d : Dt} (h : DtOk d) (hn : d.acc.length ≤ 5) (hr : d.ranks.length ≤ 8) : DtSmall (trimD d) := by
  rw [← from_trim h hn hr]
  exact refFrom_small (ntaM_err h hn hr) (by simp only [ntaM]; omega)
theorem ntaM_small {d : Dt} (h : DtOk d) (hn : d.acc.length ≤ 5) (hr : d.ranks.length ≤ 8) : (ntaM d).rules.length ≤ 1048576 ∧ (ntaM d).states ≤ 1048576 ∧ (∀ r ∈ (ntaM d).rules, r.args.length ≤ 1048576) ∧ (ntaM d).ranks.length ≤ 1048576 := by
  have h1 := rulesD_len h hn
  refine ⟨by simp only [ntaM]; omega, by simp only [ntaM]; omega, ?_, by simp only [ntaM]; omega⟩
  intro r hr2
  obtain ⟨s, hs, _, g2, _⟩ := mem_rulesD.1 hr2
  have h3 := (tups_item g2).1
  have h4 := (ranksErr_ok h.rk).2 s hs
  have e : d.ranks.getD s 0 = d.ranks[s] := by simp [List.getD, hs]
  rw [e] at h3
  omega
end Pal
