/-
  Publishing what was handed over; a new element and the row published at once. Own work. No statement of the seat is proved here.
-/
import Derived.Test.YtdclodapkhgabaaGreatDoorPalNt
namespace Pal
open Go
theorem Ok.pubrowF {c : Cx} {H : View} {hl : HL} {w : World} {v : Value} {e : TypeId} {sz k : Nat} {xs : List Value} (h : Ok c w H (row v e sz k xs :: hl)) :
    ∃ H', VLe H H' ∧ rowAt H' v k xs ∧ (∃ a cap, v = .slice a k cap ∧ k ≤ cap) ∧ Ok c w H' hl := by
  have hh : (row v e sz k xs).holds (heapOf w) := h.own _ List.mem_cons_self
  obtain ⟨hlen, hh⟩ := hh
  rcases hh with ⟨rfl, rfl⟩ | ⟨g, cap, cur, rfl, hg, hk, hcap, hsz, htake⟩
  · exact ⟨H, VLe.refl H, .inl ⟨rfl, rfl, List.eq_nil_of_length_eq_zero (by simpa using hlen)⟩, ⟨none, 0, rfl, Nat.le_refl _⟩, h.sublist (List.sublist_cons_self _ _)⟩
  · have h2 : Ok c w H (blk g (.cells cur e (0, 0)) :: hl) := by
      refine ⟨h.os, h.tape, h.output, h.drawn, h.size, h.old, h.vold, h.le, h.has, ?_, ?_, ?_⟩
      · intro en hen
        rcases List.mem_cons.1 hen with rfl | hen
        · exact hg
        · exact h.own en (List.mem_cons_of_mem _ hen)
      · intro b hb; exact h.foot b (by simpa [feet, row, rowFoot, blk] using hb)
      · simpa [feet, row, rowFoot, blk] using h.nd
    have hH : H g = none := (h.foot g (by simp [feet, row, rowFoot])).1
    refine ⟨vadd H g (.cells cur e (0, 0)), ?_, .inr ⟨g, cap, rfl, ⟨cur, e, (0, 0), by simp [vadd], ?_⟩⟩, ⟨_, cap, rfl, hk⟩, h2.publishF⟩
    · intro b o hb
      have : b ≠ g := fun e => by subst e; rw [hH] at hb; cases hb
      simp [vadd, this, hb]
    · intro j u hj
      rw [← htake, List.getElem?_take] at hj
      split at hj
      · simpa using hj
      · cases hj
section
variable {P : Program} {n : Nat} {c : Cx} {Q : Exit → Act → World → Prop} {l : KL} {hl : HL} {H : View} {ops : Array Oper} {rest : List Oper} {ty : TypeId}
theorem KQ_pubrowF {v : Value} {e : TypeId} {sz k : Nat} {xs : List Value} {x : Exit} (h : ∀ H', VLe H H' → rowAt H' v k xs → (∃ a cap, v = .slice a k cap ∧ k ≤ cap) → KQ n c Q x l hl H') : KQ n c Q x l (row v e sz k xs :: hl) H := by
  intro ρ w hm ho
  obtain ⟨H', h1, h2, h3, h4⟩ := ho.pubrowF
  exact h H' h1 h2 h3 ρ w hm h4
theorem KO_pubrowF {v : Value} {e : TypeId} {sz k : Nat} {xs : List Value} (h : ∀ H', VLe H H' → rowAt H' v k xs → (∃ a cap, v = .slice a k cap ∧ k ≤ cap) → KO P n c ops Q rest l hl H') : KO P n c ops Q rest l (row v e sz k xs :: hl) H := by
  intro ρ w hm ho
  obtain ⟨H', h1, h2, h3, h4⟩ := ho.pubrowF
  exact h H' h1 h2 h3 ρ w hm h4
theorem KC_pubrowF {v : Value} {e : TypeId} {sz k : Nat} {xs : List Value} {code : Code} (h : ∀ H', VLe H H' → rowAt H' v k xs → (∃ a cap, v = .slice a k cap ∧ k ≤ cap) → KC P n c code Q l hl H') : KC P n c code Q l (row v e sz k xs :: hl) H := by
  intro ρ w hm ho
  obtain ⟨H', h1, h2, h3, h4⟩ := ho.pubrowF
  exact h H' h1 h2 h3 ρ w hm h4
theorem Ok.publishLe {w : World} {b : Nat} {o : Obj} (h : Ok c w H (blk b o :: hl)) : VLe H (vadd H b o) := by
  have hb : H b = none := (h.foot b (by simp [feet, blk])).1
  intro k o' hk
  have : k ≠ b := fun e => by subst e; rw [hb] at hk; cases hk
  simp [vadd, this, hk]
theorem KQ_pubF {x : Exit} {b : Nat} {o : Obj} (h : ∀ H', VLe H H' → H' b = some o → KQ n c Q x l hl H') : KQ n c Q x l (blk b o :: hl) H :=
  fun ρ w hm ho => h (vadd H b o) ho.publishLe (vadd_self _ _ _) ρ w hm ho.publishF
theorem KO_pubF {b : Nat} {o : Obj} (h : ∀ H', VLe H H' → H' b = some o → KO P n c ops Q rest l hl H') : KO P n c ops Q rest l (blk b o :: hl) H :=
  fun ρ w hm ho => h (vadd H b o) ho.publishLe (vadd_self _ _ _) ρ w hm ho.publishF
theorem KC_pubF {code : Code} {b : Nat} {o : Obj} (h : ∀ H', VLe H H' → H' b = some o → KC P n c code Q l hl H') : KC P n c code Q l (blk b o :: hl) H :=
  fun ρ w hm ho => h (vadd H b o) ho.publishLe (vadd_self _ _ _) ρ w hm ho.publishF
/-- append(x, one element): the row is published. -/
theorem E_append1Pub {v : Value} {x y : Operand} {t e : TypeId} {sz bytes k m : Nat} {xs : List Value} {b : Nat} {cs : Array Value} {fz : Nat × Nat} (hA : App P t e sz bytes) (hx : ev l x = some v) (hy : ev l y = some (slc m b))
    (hl' : cs.toList.length = m * sz) (h1 : cs.toList.all Value.oneCell' = true) (hb : (k + m) * bytes ≤ 140737488355328 ∧ k + m ≤ 140737488355328) :
    Eff P l H [row v e sz k xs, blk b (.cells cs e fz)] (.call ⟨.builtin .append, #[x, y], #[t, t]⟩) ty fun v' H' q => q = [] ∧ ∃ a cap, v' = .slice a (k + m) cap ∧ k + m ≤ cap ∧ SlAt H' v' (k + m) (xs ++ cs.toList) := by
  intro ev' w hk ho
  refine (E_append1 (P := P) (ty := ty) hA hx hy hl' h1 hb ev' w hk ho).mono ?_
  rintro v' w' ⟨H', q, hok, a, cap, rfl, rfl, rfl, _⟩
  obtain ⟨H2, g1, g2, g3, g4⟩ := hok.pubrowF
  obtain ⟨a2, cap2, he, hle⟩ := g3
  cases he
  exact ⟨H2, [], g4, rfl, a, cap, rfl, hle, g2.sl⟩
section
variable {keep : HL} {fin : Bool} {ol : List Oper} {R : List Nat} {T : ST} {d : Nat} {pos : String} {aft : Array Edge} {g : Option (Nat × Bool)}
theorem D_append1Pub {v : Value} {x y : Operand} {t e : TypeId} {sz bytes k m i : Nat} {xs : List Value} {b : Nat} {cs : Array Value} {fz : Nat × Nat} {tl : HL} (j : Nat) (hA : App P t e sz bytes)
    (ho : nthO ol i = some ⟨some d, .call ⟨.builtin .append, #[x, y], #[t, t]⟩, ty, pos, aft, g⟩) (hw : wlO ol l g = some true) (hx : ev l x = some v) (hy : ev l y = some (slc m b))
    (hhl : hl = blk b (.cells cs e fz) :: tl) (hi : tl[j]? = some (row v e sz k xs)) (hkp : memAll keep (tl.eraseIdx j)) (hcs : cs.toList.length = m * sz) (h1 : cs.toList.all Value.oneCell' = true) (hb : (k + m) * bytes ≤ 140737488355328 ∧ k + m ≤ 140737488355328)
    (h : ∀ a cap H', VLe H H' → k + m ≤ cap → SlAt H' (.slice a (k + m) cap) (k + m) (xs ++ cs.toList) → KD P n ol.toArray keep fin T R ((d, .slice a (k + m) cap) :: l) (tl.eraseIdx j) H') : KD P n ol.toArray keep fin T (i :: R) l hl H := by
  subst hhl
  refine D_eff _ (tl.eraseIdx j) ho hw rfl (perm_two hi) hkp.mem (E_append1Pub hA hx hy hcs h1 hb) ?_
  rintro v' H' q hle ⟨rfl, a, cap, rfl, hc, hs⟩
  exact h a cap H' hle hc hs
end
end
/-- Tuples of elements of a list, by their places. -/
def VisitL (P : Program) (gf : Nat) (cap : List Value) (H0 : View) (src : List Int) (T : List (List Int)) (E : List (List Int) → View → HL → Prop) : Prop :=
  (∀ pre V V' q, VLe V V' → E pre V q → E pre V' q) ∧ ∀ H pre is a len cp p, is.length = len → VLe H0 H → E pre H p → (pre ++ [is]) <+: T → SI H (.slice a len cp) (pickD src is) →
    SatO P gf ([] ++ [Value.slice a len cp] ++ cap).toArray H p (fun v V' q => v = .tuple #[] ∧ E (pre ++ [is]) V' q)
theorem pickD_snoc (src is : List Int) (j : Nat) (hj : j < src.length) : pickD src (is ++ [(j : Int)]) = pickD src is ++ [src[j]] := by
  simp [pickD, List.getD, hj]
theorem pickD_len (src is : List Int) : (pickD src is).length = is.length := by simp [pickD]
section
variable {P : Program} {n : Nat} {c : Cx} {Q : Exit → Act → World → Prop} {l : KL} {hl : HL} {H : View} {ops : Array Oper} {rest : List Oper} {ty : TypeId}
/-- append(x, y...), y readable by whoever holds p. -/
theorem E_appendRd {x y : Operand} {t t' e : TypeId} {sz bytes k m : Nat} {xs news : List Value} {v u : Value} {p : HL} (hA : App P t e sz bytes) (ht' : slcOk P t' e) (hx : ev l x = some v) (hy : ev l y = some u)
    (hrd : Rd H p u m news) (hl' : news.length = m * sz) (h1 : news.all Value.oneCell' = true) (hb : (k + m) * bytes ≤ 140737488355328 ∧ k + m ≤ 140737488355328) :
    Eff P l H (row v e sz k xs :: p) (.call ⟨.builtin .append, #[x, y], #[t, t']⟩) ty fun v' H' q => ∃ a cap, v' = .slice a (k + m) cap ∧ H' = H ∧ q = row v' e sz (k + m) (xs ++ news) :: p := by
  refine Eff.append_ty hA.s ht' ⟨_, hx⟩ ⟨_, hy⟩ ?_
  intro e2 w hk ho
  obtain ⟨i, z, hi, hz, hs, hzs, hby⟩ := hA.i
  have hown := ho.own _ List.mem_cons_self
  obtain ⟨a', cap', rfl⟩ := row_shape hown
  obtain ⟨a, cap, rfl, h2⟩ := hrd.sh
  have hp : Has w H p := ho.sub (permCons (permSelf p))
  have ho1 : Has w H [row (.slice a' k cap') e sz k xs] := Has.left (r := p) ho
  have hown' := row_owns.1 hown
  by_cases hm : m = 0
  · subst hm
    have hn : news = [] := by simpa using hl'
    subst hn
    have hf : (Builtin.firstCells i.size 0 (.slice a 0 cap)).run P w = .ok #[] w := by
      cases a <;> simp [Builtin.firstCells, loadCells, loadCellsFrom]
    have hcap : k ≤ cap' := by
      rcases hown.2 with ⟨h3, h4⟩ | ⟨g, cp, cur, h3, _, h4, _⟩
      · cases h3; omega
      · cases h3; exact h4
    have hr : (Builtin.append_ #[t, t] ty #[.slice a' k cap', .slice a 0 cap]).run P w = .ok (.slice a' k cap') w := by
      cases a' <;> simp [Builtin.append_, run_underlying hA.s, Go.sizeOf, typeInfo, hi, Builtin.lenOf, hf, storeCells, hcap]
    have hrun : (ex e2 (.call ⟨.builtin .append, #[x, y], #[t, t]⟩) ty).run P w = .ok (.value (.slice a' k cap')) w := by
      simp [ex, execOp, resolve, invoke, builtin, hk x _ hx, hk y _ hy]
      rw [hr]; rfl
    rw [hrun]
    exact ⟨H, row (.slice a' k cap') e sz k xs :: p, Has.ok ho, a', cap', rfl, rfl, by simp⟩
  · obtain ⟨b, off, rfl⟩ := h2.resolve_left hm
    obtain ⟨v', w', hr, hown2, hg, hblk, hnil⟩ := run_append_own2 (P := P) w t ty e i z sz hA.s hi hz hs hzs hA.pos _ k xs hown' _ m news (.inr ⟨_, cap, rfl, hrd.rd _ _ _ rfl w hp⟩) hl' (List.all_eq_true.1 h1) (by simp only [maxLen]; omega) (by rw [hby]; exact hb.1)
    have hrun : (ex e2 (.call ⟨.builtin .append, #[x, y], #[t, t]⟩) ty).run P w = .ok (.value v') w' := by
      simp [ex, execOp, resolve, invoke, builtin, hk x _ hx, hk y _ hy]
      rw [hr]; rfl
    rw [hrun]
    have hf := rowFoot_eq hown'
    have hf' := rowFoot_eq hown2
    have k1 : Ok ⟨w, H, feet [row (.slice a' k cap') e sz k xs]⟩ w' H [row v' e sz (k + m) (xs ++ news)] := by
      refine ok1 ho1 hg.1.os hg.1.tape hg.1.output hg.2 hg.1.size (fun q hq hn => hg.1.block q hq (fun e => hn ((hf.1 q).2 e.symm))) (row_owns.2 hown2) (fun b hb => ?_) hf'.2
      have hb' := (hf'.1 b).1 hb
      rcases hblk with h | h
      · exact .inl ((hf.1 b).2 (h ▸ hb'))
      · rw [h] at hb'; cases hb'; exact .inr (Nat.le_refl _)
    have k2 := Ok.call (c := ⟨w, H, feet (row (.slice a' k cap') e sz k xs :: p)⟩) (p := [row (.slice a' k cap') e sz k xs]) (r := p) (Has.ok (hl := row (.slice a' k cap') e sz k xs :: p) ho) k1
    obtain ⟨a2, c2, rfl⟩ := row_shape (row_owns.2 hown2)
    exact ⟨H, _, k2, a2, c2, rfl, rfl, rfl⟩
theorem K_appendRd0 {x y : Operand} {t t' e : TypeId} {sz bytes m b : Nat} {news : List Value} {u : Value} {p r : HL} {d : Nat} {pos : String} {aft : Array Edge} (hA : App P t e sz bytes) (ht' : slcOk P t' e) (hx : ev l x = some (slc 0 b)) (hy : ev l y = some u)
    (hp : hl.Perm (blk b (.cells #[] e (0, 0)) :: (p ++ r))) (hrd : Rd H p u m news) (hl' : news.length = m * sz) (h1 : news.all Value.oneCell' = true) (hb : m * bytes ≤ 140737488355328 ∧ m ≤ 140737488355328) (hdn : Nat.blt d n = true)
    (h : ∀ a cap, KO P n c ops Q rest ((d, .slice a m cap) :: l) (row (.slice a m cap) e sz m news :: (p ++ r)) H) :
    KO P n c ops Q (⟨some d, .call ⟨.builtin .append, #[x, y], #[t, t']⟩, ty, pos, aft, none⟩ :: rest) l hl H := by
  refine KO_perm _ hp ?_
  refine KO_row0 sz ?_
  refine KE (row (slc 0 b) e sz 0 [] :: p) r (by simp) (E_appendRd hA ht' hx hy hrd hl' h1 (by simpa using hb)) hdn ?_
  rintro v' H' q _ ⟨a, cap, rfl, rfl, rfl⟩
  simp only [Nat.zero_add, List.nil_append, List.cons_append]
  exact h a cap
end
/-! ### Places as tuples -/
def digs (n : Nat) : Nat → Nat → List Int
  | 0, _ => []
  | k + 1, p => digs n k (p / n) ++ [((p % n : Nat) : Int)]
theorem digs_len (n : Nat) : ∀ k p, (digs n k p).length = k
  | 0, _ => rfl
  | k + 1, p => by simp [digs, digs_len n k]
theorem digs_get {n : Nat} : ∀ {k p j : Nat} (h : j < k), (digs n k p)[k - 1 - j]'(by rw [digs_len]; omega) = ((p / n ^ j % n : Nat) : Int)
  | k + 1, p, 0, _ => by simp [digs, digs_len]
  | k + 1, p, j + 1, h => by
    have h1 : k + 1 - 1 - (j + 1) = k - 1 - j := by omega
    have ih := digs_get (n := n) (k := k) (p := p / n) (j := j) (by omega)
    simp only [digs, h1]
    rw [List.getElem_append_left (by rw [digs_len]; omega), ih, Nat.div_div_eq_div_mul, Nat.pow_succ, Nat.mul_comm n]
theorem digs_mem {n : Nat} (hn : 0 < n) : ∀ k p, ∀ x ∈ digs n k p, 0 ≤ x ∧ x < (n : Int)
  | 0, _, x, hx => by cases hx
  | k + 1, p, x, hx => by
    simp only [digs, List.mem_append, List.mem_singleton] at hx
    rcases hx with hx | rfl
    · exact digs_mem hn k _ x hx
    · have := Nat.mod_lt p hn; omega
theorem digs_place (n : Nat) : ∀ k p, p < n ^ k → placeM n (digs n k p) = (p : Int)
  | 0, p, h => by simp at h; subst h; rfl
  | k + 1, p, h => by
    have hd : p / n < n ^ k := by
      rw [Nat.div_lt_iff_lt_mul (by rcases Nat.eq_zero_or_pos n with e | e; (subst e; simp [Nat.pow_succ] at h); exact e)]
      rw [Nat.pow_succ] at h; exact h
    rw [digs, placeM_snoc, digs_place n k (p / n) hd]
    have := Nat.div_add_mod p n
    rw [Nat.mul_comm] at this
    rw [← Int.natCast_mul, ← Int.natCast_add, this]
theorem digs_tups {n k p : Nat} (hn : 0 < n) (h : p < (tups n k).length) : (tups n k)[p] = digs n k p := by
  have hp : p < n ^ k := by rw [tups_len] at h; exact h
  have hm : digs n k p ∈ tups n k := mem_tups.2 ⟨digs_len n k p, digs_mem hn k p⟩
  obtain ⟨i, hi, he⟩ := List.getElem_of_mem hm
  have h1 := tups_at hi
  rw [he, digs_place n k p hp] at h1
  have : p = i := by omega
  subst this
  exact he
end Pal
