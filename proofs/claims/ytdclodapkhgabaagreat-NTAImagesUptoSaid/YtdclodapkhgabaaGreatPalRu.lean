/-
  The reference's enumeration of runs: lists of pairs, their number. Own work. No statement of the seat is proved here.
-/
import Derived.Test.YtdclodapkhgabaaGreatPalLr
namespace Pal
open Go
def pairF (p : List Int × List Int) (r : List Int) : List Int × List Int := (p.1 ++ r, p.2 ++ [lastI r])
theorem combP_snoc {ps : List (List Int × List Int)} {l : List (List Int)} {k : Nat} (hk : k < ps.length) : combP (ps.take (k + 1)) l = combP (ps.take k) l ++ l.map (pairF ps[k]) := by
  unfold combP
  rw [List.take_succ_eq_append_getElem hk, List.flatMap_append]
  simp [pairF]
theorem combP_nil (l : List (List Int)) : combP [] l = [] := rfl
def foldP (rs : List Rl) (ts : List Tr) (i : Nat) : List (List Int × List Int) := (ts.take i).foldl (fun ps t => combP ps (t.ways rs)) [([], [])]
theorem foldP_pairs (rs : List Rl) (ts : List Tr) (i : Nat) : foldP rs ts i = Tr.pairs rs (ts.take i) := Tr.pairs_left rs (ts.take i)
theorem foldP_succ {rs : List Rl} {ts : List Tr} {i : Nat} (hi : i < ts.length) : foldP rs ts (i + 1) = combP (foldP rs ts i) (ts[i].ways rs) := by
  unfold foldP
  rw [List.take_succ_eq_append_getElem hi, List.foldl_append]
  rfl
theorem flatMap_bound {α β : Type} {f : α → List β} {B : Nat} : ∀ {l : List α}, (∀ x ∈ l, (f x).length ≤ B) → (l.flatMap f).length ≤ l.length * B
  | [], _ => by simp
  | x :: l, h => by
    have ih := flatMap_bound (f := f) (B := B) (l := l) fun y hy => h y (List.mem_cons_of_mem _ hy)
    have h0 := h x List.mem_cons_self
    simp only [List.flatMap_cons, List.length_append, List.length_cons, Nat.succ_mul]
    omega
mutual
theorem Tr.ways_count (rs : List Rl) : ∀ t : Tr, (t.ways rs).length ≤ rs.length ^ t.size
  | .node s ts => by
    rw [Tr.ways, Tr.size, Nat.add_comm, Nat.pow_succ]
    refine Nat.le_trans (flatMap_bound (B := rs.length) fun p _ => ?_) (Nat.mul_le_mul_right _ (Tr.pairs_count rs ts))
    rw [List.length_map]
    exact List.length_filter_le _ _
theorem Tr.pairs_count (rs : List Rl) : ∀ ts : List Tr, (Tr.pairs rs ts).length ≤ rs.length ^ Tr.sizes ts
  | [] => by simp [Tr.pairs, Tr.sizes]
  | t :: ts => by
    rw [Tr.pairs, Tr.sizes, Nat.pow_add]
    refine Nat.le_trans (flatMap_bound (B := rs.length ^ Tr.sizes ts) fun r _ => ?_) (Nat.mul_le_mul_right _ (Tr.ways_count rs t))
    rw [List.length_map]
    exact Tr.pairs_count rs ts
end
theorem pow14 {n k : Nat} (hn : n ≤ 14) (hk : k ≤ 7) : n ^ k ≤ 105413504 := by
  have h1 : n ^ k ≤ 14 ^ k := Nat.pow_le_pow_left hn k
  have h2 : 14 ^ k ≤ 14 ^ 7 := Nat.pow_le_pow_right (by decide) hk
  exact Nat.le_trans h1 h2
theorem ways_small {rs : List Rl} {t : Tr} (hn : rs.length ≤ 14) (ht : t.size ≤ 7) : (t.ways rs).length ≤ 105413504 := Nat.le_trans (Tr.ways_count rs t) (pow14 hn ht)
theorem foldP_small {rs : List Rl} {ts : List Tr} (hn : rs.length ≤ 14) (ht : Tr.sizes ts ≤ 7) (i : Nat) : (foldP rs ts i).length ≤ 105413504 := by
  rw [foldP_pairs]
  exact Nat.le_trans (Tr.pairs_count rs _) (pow14 hn (Nat.le_trans (Tr.sizes_take_le ts i) ht))
theorem foldP_item {rs : List Rl} {ts : List Tr} {i : Nat} {p : List Int × List Int} (h : p ∈ foldP rs ts i) : p.1.length ≤ Tr.sizes ts ∧ p.2.length ≤ ts.length := by
  rw [foldP_pairs] at h
  obtain ⟨h1, h2⟩ := Tr.pairs_len rs _ p h
  exact ⟨by rw [h1]; exact Tr.sizes_take_le ts i, by rw [h2, List.length_take]; omega⟩
theorem combP_le {ps : List (List Int × List Int)} {l : List (List Int)} {k : Nat} : (combP (ps.take k) l).length ≤ (combP ps l).length := by
  have h := List.take_append_drop k ps
  unfold combP
  conv => rhs; rw [← h]
  rw [List.flatMap_append, List.length_append]
  omega
def outF (rs : List Rl) (s : Int) (p : List Int × List Int) : List (List Int) := (rs.filter fun r => decide (r.sym = s ∧ r.args = p.2)).map fun r => p.1 ++ [r.to]
theorem outF_snoc {rs : List Rl} {s : Int} {p : List Int × List Int} {i : Nat} (hi : i < rs.length) : outF (rs.take (i + 1)) s p = outF (rs.take i) s p ++ if rs[i].sym = s ∧ rs[i].args = p.2 then [p.1 ++ [rs[i].to]] else [] := by
  unfold outF
  rw [List.take_succ_eq_append_getElem hi, List.filter_append, List.map_append]
  by_cases h : rs[i].sym = s ∧ rs[i].args = p.2 <;> simp [h]
theorem outF_len (rs : List Rl) (s : Int) (p : List Int × List Int) : (outF rs s p).length ≤ rs.length := by
  unfold outF; rw [List.length_map]; exact List.length_filter_le _ _
def outK (rs : List Rl) (s : Int) (ps : List (List Int × List Int)) (k : Nat) : List (List Int) := (ps.take k).flatMap (outF rs s)
theorem outK_succ {rs : List Rl} {s : Int} {ps : List (List Int × List Int)} {k : Nat} (hk : k < ps.length) : outK rs s ps (k + 1) = outK rs s ps k ++ outF rs s ps[k] := by
  unfold outK
  rw [List.take_succ_eq_append_getElem hk, List.flatMap_append]
  simp
theorem outK_le {rs : List Rl} {s : Int} {ps : List (List Int × List Int)} {k : Nat} : (outK rs s ps k).length ≤ ps.length * rs.length := by
  unfold outK
  refine Nat.le_trans (flatMap_bound (B := rs.length) fun p _ => outF_len rs s p) (Nat.mul_le_mul_right _ ?_)
  rw [List.length_take]; omega
theorem lastI_at {r : List Int} (h : 0 < r.length) : lastI r = r[r.length - 1] := by
  unfold lastI
  rw [List.getLast?_eq_getElem?, List.getElem?_eq_getElem (by omega)]
  rfl
theorem RepL.snocR {H H' : View} {xss : List (List Int)} {x : List Int} {cells : List Value} {w : Value} (h : RepL (RSI H) 1 xss cells) (hle : VLe H H') (hx : SI H' w x) : RepL (RSI H') 1 (xss ++ [x]) (cells ++ [w]) :=
  (h.impSI hle).snoc ⟨w, rfl, hx⟩ rfl
/-! ### Least and number of accepted runs -/
def bestF (rs : List Rl) (t : Tr) (F : List Int) : Option (List Int) := F.foldl (fun o q => match Tr.least rs t q with | some x => bestO o x | none => o) none
theorem bestF_snoc {rs : List Rl} {t : Tr} {F : List Int} {k : Nat} (hk : k < F.length) : bestF rs t (F.take (k + 1)) = match Tr.least rs t F[k] with | some x => bestO (bestF rs t (F.take k)) x | none => bestF rs t (F.take k) := by
  unfold bestF
  rw [List.take_succ_eq_append_getElem hk, List.foldl_append]
  rfl
def accR (rs : List Rl) (t : Tr) (F : List Int) : List (List Int) := (t.ways rs).filter fun r => decide (lastI r ∈ F)
theorem bestF_least (rs : List Rl) (t : Tr) : ∀ F : List Int, LeastO (bestF rs t F) (accR rs t F) := by
  have key : ∀ (F G : List Int) (o : Option (List Int)), LeastO o (accR rs t G) → LeastO (F.foldl (fun o q => match Tr.least rs t q with | some x => bestO o x | none => o) o) (accR rs t (G ++ F)) := by
    intro F
    induction F with
    | nil => intro G o h; simpa using h
    | cons q F ih =>
      intro G o h
      have hq := Tr.least_ways rs t q
      have hmem : ∀ x, x ∈ accR rs t (G ++ [q]) ↔ x ∈ accR rs t G ∨ x ∈ (t.ways rs).filter fun r => decide (lastI r = q) := by
        intro x
        simp only [accR, List.mem_filter, List.mem_append, List.mem_singleton, decide_eq_true_eq]
        constructor
        · rintro ⟨h1, h2 | h2⟩
          · exact .inl ⟨h1, h2⟩
          · exact .inr ⟨h1, h2⟩
        · rintro (⟨h1, h2⟩ | ⟨h1, h2⟩)
          · exact ⟨h1, .inl h2⟩
          · exact ⟨h1, .inr h2⟩
      have hstep : LeastO (match Tr.least rs t q with | some x => bestO o x | none => o) (accR rs t (G ++ [q])) := by
        rcases hq with ⟨hq1, hq2⟩ | ⟨m, hq1, hq2⟩
        · rw [hq2]
          refine h.congr fun x => ?_
          rw [hmem x, hq1]; simp
        · rw [hq1]
          rcases h with ⟨h1, rfl⟩ | ⟨b, rfl, h2⟩
          · refine .inr ⟨m, rfl, (hmem m).2 (.inr hq2.1), fun x hx => ?_⟩
            rcases (hmem x).1 hx with h | h
            · rw [h1] at h; cases h
            · exact hq2.2 x h
          · simp only [bestO]
            by_cases hlt : cmpL m b < 0
            · rw [if_pos hlt]
              refine .inr ⟨m, rfl, (hmem m).2 (.inr hq2.1), fun x hx => ?_⟩
              rcases (hmem x).1 hx with h | h
              · exact cmpL_le_trans (by omega) (h2.2 x h)
              · exact hq2.2 x h
            · rw [if_neg hlt]
              refine .inr ⟨b, rfl, (hmem b).2 (.inl h2.1), fun x hx => ?_⟩
              rcases (hmem x).1 hx with h | h
              · exact h2.2 x h
              · have := cmpL_swap m b
                exact cmpL_le_trans (by omega) (hq2.2 x h)
      have := ih (G ++ [q]) _ hstep
      simpa using this
  intro F
  have := key F [] none (.inl ⟨by simp [accR], rfl⟩)
  simpa [bestF] using this
theorem bestF_eq (rs : List Rl) (t : Tr) (F : List Int) : bestF rs t F = (accR rs t F).foldl bestO none := (bestF_least rs t F).uniq LeastO.of_best
theorem cnt_acc (rs : List Rl) (t : Tr) (F : List Int) : ((sortI F).map fun q => t.cnt rs q).sum = (accR rs t F).length := by
  have h := count_states (l := t.ways rs) (sortI_nodup F)
  have e : ((sortI F).map fun q => t.cnt rs q) = (sortI F).map fun s => (t.ways rs).countP fun r => decide (lastI r = s) := List.map_congr_left fun q _ => (Tr.cnt_ways rs t q).symm
  rw [e, h, List.countP_eq_length_filter]
  unfold accR
  congr 1
  apply List.filter_congr
  intro r _
  exact decide_eq_decide.2 sortI_mem
theorem accR_pos (rs : List Rl) (t : Tr) (F : List Int) : (0 < (accR rs t F).length) ↔ F.any (fun q => decide (0 < t.cnt rs q)) = true := by
  rw [List.length_pos_iff_exists_mem, List.any_eq_true]
  constructor
  · rintro ⟨r, hr⟩
    have h := List.mem_filter.1 hr
    refine ⟨lastI r, of_decide_eq_true h.2, decide_eq_true ?_⟩
    rw [← Tr.cnt_ways, List.countP_pos_iff]
    exact ⟨r, h.1, decide_eq_true rfl⟩
  · rintro ⟨q, hq, hc⟩
    have hc := of_decide_eq_true hc
    rw [← Tr.cnt_ways, List.countP_pos_iff] at hc
    obtain ⟨r, hr, h⟩ := hc
    have h := of_decide_eq_true h
    exact ⟨r, List.mem_filter.2 ⟨hr, decide_eq_true (by rw [h]; exact hq)⟩⟩
section
variable {P : Program} {l : KL} {hl : HL} {H : View} {ty : TypeId}
theorem R_sliceNotNil {t e yt : TypeId} {x y : Operand} {a : Option Addr} {k cap : Nat} (hS : slcOk P t e) (hx : ev l x = some (.slice a k cap)) (hy : ev l y = some (.slice none 0 0)) : ValOk P l H hl (.binOp .neq t x y yt) ty (.bool a.isSome) := by
  intro e w hk _
  have hS' : P.underlying t = some (.slice _) := hS
  have key : ∀ d, (Op.equalIn (d + 1) t (.slice a k cap) (.slice none 0 0)).run P w = .ok a.isNone w := by
    intro d
    cases a <;> simp [Op.equalIn, run_underlying hS']
  have hg : (eqGuard .neq t x y (.slice a k cap) (.slice none 0 0)).run P w = .ok () w := by
    unfold eqGuard; simp
  simp only [ex, execOp, hk x _ hx, hk y _ hy, Sem.run_bind, hg, Result.andThen_ok, binOp]
  cases a <;> simp [Op.equal, Op.maxDepth, key 9999]
end
theorem acc_len {ps : List (List Int × List Int)} {l : List (List Int)} {k j : Nat} (hk : k < ps.length) : (combP (ps.take k) l ++ (l.take j).map (pairF ps[k])).length ≤ (combP ps l).length := by
  have h1 := combP_le (ps := ps) (l := l) (k := k + 1)
  rw [combP_snoc hk] at h1
  rw [List.length_append, List.length_map] at h1 ⊢
  have : (l.take j).length ≤ l.length := by rw [List.length_take]; omega
  omega
theorem acc_snoc {ps : List (List Int × List Int)} {l : List (List Int)} {k j : Nat} (hk : k < ps.length) (hj : j < l.length) : combP (ps.take k) l ++ (l.take (j + 1)).map (pairF ps[k]) = (combP (ps.take k) l ++ (l.take j).map (pairF ps[k])) ++ [pairF ps[k] l[j]] := by
  rw [List.take_succ_eq_append_getElem hj, List.map_append, List.append_assoc]; rfl
theorem ways_out (rs : List Rl) (s : Int) (ts : List Tr) : Tr.ways rs (.node s ts) = outK rs s (foldP rs ts ts.length) (foldP rs ts ts.length).length := by
  unfold outK
  rw [List.take_length, foldP_pairs, List.take_length, Tr.ways]
  rfl
theorem ssi_get1 {H : View} {a : Option Addr} {k cap : Nat} {ps : List (List Int × List Int)} (f : List Int × List Int → List Int) (h : SSI H (.slice a k cap) (ps.map f)) {i : Nat} (hi : i < ps.length) : ∃ b off xa xcp, a = some ⟨b, off, none⟩ ∧ At H b (off + i * 1) [.slice xa (f ps[i]).length xcp] ∧ SI H (.slice xa (f ps[i]).length xcp) (f ps[i]) := by
  have := h.get (i := i) (by simpa using hi)
  simpa using this
theorem acc_len_snoc {ps : List (List Int × List Int)} {l : List (List Int)} {k j : Nat} (hk : k < ps.length) (hj : j < l.length) : (combP (ps.take k) l ++ (l.take (j + 1)).map (pairF ps[k])).length = (combP (ps.take k) l ++ (l.take j).map (pairF ps[k])).length + 1 :=
  (congrArg List.length (acc_snoc hk hj)).trans List.length_append
theorem Sat.nil {P : Program} {f : FuncId} {args : Array Value} {H : View} {post : Value → View → Prop} (h : Sat P f args H post) : SatO P f args H [] (fun v H' q => q = [] ∧ post v H') := by
  intro w hw
  refine Calls.mono (h w hw) ?_
  rintro e w' ⟨v, H', q, rfl, hok, hp⟩
  exact ⟨v, H', [], rfl, hok.sublist (List.nil_sublist _), rfl, hp⟩
/-- A call that reads something owned. -/
theorem Sat.lend {P : Program} {f : FuncId} {args : Array Value} {H : View} (en : Own) {post : Value → Prop} (h : ∀ H2, VLe H H2 → en.holds H2 → Sat P f args H2 (fun v _ => post v)) : SatO P f args H [en] (fun v H' q => H' = H ∧ q = [en] ∧ post v) := by
  have h2 := SatO.lend (P := P) (f := f) (args := args) (H := H) (hl := []) [en] (post := fun v q => q = [] ∧ post v) (fun H2 hle hh => (h H2 hle (hh en List.mem_cons_self)).nil)
  refine SatO.mono' h2 ?_
  rintro v H' q ⟨rfl, q', rfl, rfl, hp⟩
  exact ⟨rfl, rfl, hp⟩
def outR (s : Nat) (p : Nat → Bool) (fl : Bool) : List Int := subL s p ++ if fl = true then [(s : Int)] else []
theorem outR_mem {s : Nat} {p : Nat → Bool} {fl : Bool} : (s : Int) ∈ outR s p fl ↔ fl = true := by
  unfold outR
  rw [List.mem_append, mem_subL]
  cases fl <;> simp
theorem subL_rise (m : Nat) (p : Nat → Bool) : (subL m p).Pairwise (· < ·) := by
  unfold subL
  rw [List.pairwise_map]
  exact (List.pairwise_lt_range.filter _).imp fun {a b} h => by omega
theorem subL_step (s : Nat) (p : Nat → Bool) : subL (s + 1) p = outR s p (p s) := by
  unfold outR
  cases h : p s with
  | true => rw [subL_yes h, if_pos rfl]
  | false => rw [subL_no h]; simp
def hasEnd (W : List (List Int)) (q : Nat) : Bool := W.any fun r => decide (lastI r = (q : Int))
theorem hasEnd_snoc {W : List (List Int)} {i : Nat} (hi : i < W.length) (q : Nat) : hasEnd (W.take (i + 1)) q = (hasEnd (W.take i) q || decide (lastI W[i] = (q : Int))) := by
  unfold hasEnd
  rw [List.take_succ_eq_append_getElem hi, List.any_append]
  simp
theorem ways_to {a : Au} (ha : AuOk a) {t : Tr} {r : List Int} (h : r ∈ t.ways (sortO a.rules)) : 0 ≤ lastI r ∧ lastI r < a.states := by
  cases t with
  | node s ts =>
    rw [Tr.ways, List.mem_flatMap] at h
    obtain ⟨p, _, hr⟩ := h
    obtain ⟨x, hx, rfl⟩ := List.mem_map.1 hr
    rw [lastI_snoc]
    exact (ha.ru x (sortO_mem.1 (List.mem_filter.1 hx).1)).2.2.2.2
theorem reach_is {a : Au} (ha : AuOk a) (t : Tr) : IsReach (sortO a.rules) t (subL a.states.toNat (hasEnd (t.ways (sortO a.rules)))) := by
  refine ⟨subL_rise _ _, fun q => ?_⟩
  have hany : 0 < t.cnt (sortO a.rules) q ↔ ∃ r ∈ t.ways (sortO a.rules), lastI r = q := by
    rw [← Tr.cnt_ways, List.countP_pos_iff]
    simp
  rw [hany]
  constructor
  · intro h
    simp only [subL, List.mem_map, List.mem_filter, List.mem_range] at h
    obtain ⟨s, ⟨_, h2⟩, rfl⟩ := h
    unfold hasEnd at h2
    rw [List.any_eq_true] at h2
    obtain ⟨r, hr, e⟩ := h2
    exact ⟨r, hr, of_decide_eq_true e⟩
  · rintro ⟨r, hr, rfl⟩
    obtain ⟨h1, h2⟩ := ways_to ha hr
    have e : lastI r = ((lastI r).toNat : Int) := by omega
    rw [e, mem_subL]
    refine ⟨by omega, ?_⟩
    unfold hasEnd
    rw [List.any_eq_true]
    exact ⟨r, hr, decide_eq_true e⟩
theorem IsReach.uniq {rs : List Rl} {t : Tr} {L L' : List Int} (h : IsReach rs t L) (h' : IsReach rs t L') : L = L' :=
  rise_uniq (fun x => by omega) (fun x y z => by omega) h.1 h'.1 fun q => (h.2 q).trans (h'.2 q).symm
theorem accR_snoc {W : List (List Int)} {F : List Int} {k : Nat} (hk : k < W.length) : (W.take (k + 1)).filter (fun r => decide (lastI r ∈ F)) = (W.take k).filter (fun r => decide (lastI r ∈ F)) ++ if lastI W[k] ∈ F then [W[k]] else [] := by
  rw [List.take_succ_eq_append_getElem hk, List.filter_append]
  by_cases h : lastI W[k] ∈ F <;> simp [h]
theorem best_snoc {l : List (List Int)} {k : Nat} (hk : k < l.length) : (l.take (k + 1)).foldl bestO none = bestO ((l.take k).foldl bestO none) l[k] := by
  rw [List.take_succ_eq_append_getElem hk, List.foldl_append]; rfl
end Pal
