/-
  Parts of slices; the reference's normal form of an automaton. Own work. No statement of the seat is proved here.
-/
import Derived.Test.YtdclodapkhgabaaGreatDoorPalDa
namespace Pal
open Go
section
variable {P : Program} {n : Nat} {c : Cx} {Q : Exit → Act → World → Prop} {l : KL} {hl : HL} {H : View} {ops : Array Oper} {rest : List Oper} {ty : TypeId}
def hiV (a : Option Addr) (cap m : Nat) : Value := .slice (if cap = 0 then a else a.map (·.add 0)) m cap
def loV (a : Option Addr) (k cap m sz : Nat) : Value := .slice (if cap = m then a else a.map (·.add (m * sz))) (k - m) (cap - m)
theorem R_sliceHi {t e : TypeId} {x y : Operand} {a : Option Addr} {k cap m : Nat} {agg : Bool} {sz : Nat} (hS : slcOk P t e) (hT : Ty P e agg sz) (hx : ev l x = some (.slice a k cap)) (hy : ev l y = some (.int .i64 (m : Int))) (hc : m ≤ cap) :
    ValOk P l H hl (.slice t x none (some y) none) ty (hiV a cap m) := by
  intro e w hk _
  have hS' : P.underlying t = some (.slice _) := hS
  simp only [ex, execOp, Instr.sliceAt, Option.map_none, Option.map_some, hk x _ hx, hk y _ hy, Sem.run_bind, run_underlying hS', Result.andThen_ok]
  simp [Instr.slice, Instr.sliceBounds, run_underlying hS', Instr.sliceBound, asIntOf, hc, hT.run_sizeOf, hiV]
theorem R_sliceLo {t e : TypeId} {x y : Operand} {a : Option Addr} {k cap m : Nat} {agg : Bool} {sz : Nat} (hS : slcOk P t e) (hT : Ty P e agg sz) (hx : ev l x = some (.slice a k cap)) (hy : ev l y = some (.int .i64 (m : Int))) (hc : m ≤ k) :
    ValOk P l H hl (.slice t x (some y) none none) ty (loV a k cap m sz) := by
  intro e w hk _
  have hS' : P.underlying t = some (.slice _) := hS
  simp only [ex, execOp, Instr.sliceAt, Option.map_none, Option.map_some, hk x _ hx, hk y _ hy, Sem.run_bind, run_underlying hS', Result.andThen_ok]
  simp [Instr.slice, Instr.sliceBounds, run_underlying hS', Instr.sliceBound, asIntOf, hc, hT.run_sizeOf, loV]
theorem SlAt.hi {a : Option Addr} {k cap m sz : Nat} {cells : List Value} (h : SlAt H (.slice a k cap) k cells) (hm : m ≤ k) (hc : k ≤ cap) : SlAt H (hiV a cap m) m (cells.take (m * sz)) := by
  obtain ⟨a', cap', he, h2⟩ := h
  cases he
  refine ⟨_, _, rfl, ?_⟩
  rcases Nat.eq_zero_or_pos m with h0 | h0
  · subst h0; exact .inl ⟨rfl, by simp⟩
  · rcases h2 with ⟨h2, _⟩ | ⟨b, off, rfl, cs, T, fz, hb, hA⟩
    · omega
    · refine .inr ⟨b, off, ?_, cs, T, fz, hb, ?_⟩
      · rw [if_neg (by omega)]; simp [Addr.add]
      · intro j v hj
        rw [List.getElem?_take] at hj
        split at hj
        · exact hA j v hj
        · cases hj
theorem SlAt.lo {a : Option Addr} {k cap m sz : Nat} {cells : List Value} (h : SlAt H (.slice a k cap) k cells) (hl : cells.length = k * sz) (hm : m ≤ k) (hc : k ≤ cap) : SlAt H (loV a k cap m sz) (k - m) (cells.drop (m * sz)) := by
  obtain ⟨a', cap', he, h2⟩ := h
  cases he
  refine ⟨_, _, rfl, ?_⟩
  rcases Nat.eq_zero_or_pos (k - m) with h0 | h0
  · refine .inl ⟨h0, ?_⟩
    rw [List.drop_eq_nil_iff, hl]
    exact Nat.mul_le_mul_right _ (by omega)
  · rcases h2 with ⟨h2, _⟩ | ⟨b, off, rfl, hA⟩
    · omega
    · refine .inr ⟨b, off + m * sz, ?_, hA.sub ?_⟩
      · rw [if_neg (by omega)]; simp [addr_add]
      · intro j v hj
        rw [List.getElem?_drop] at hj
        exact hj
/-- A published row knows its capacity. -/
theorem KQ_pubrowC {v : Value} {e : TypeId} {sz k : Nat} {xs : List Value} {x : Exit} (hnew : c.pass = []) (h : ∀ H', VLe H H' → rowAt H' v k xs → (∃ a cap, v = .slice a k cap ∧ k ≤ cap) → KQ n c Q x l hl H') : KQ n c Q x l (row v e sz k xs :: hl) H := by
  intro ρ w hm ho
  have hh : (row v e sz k xs).holds (heapOf w) := ho.own _ List.mem_cons_self
  obtain ⟨H', h1, h2, h3⟩ := ho.pubrow (fun b _ hb => by rw [hnew] at hb; cases hb)
  refine h H' h1 h2 ?_ ρ w hm h3
  rcases hh.2 with ⟨rfl, rfl⟩ | ⟨g, cap, cur, rfl, _, hk, _⟩
  · exact ⟨none, 0, rfl, Nat.le_refl _⟩
  · exact ⟨_, cap, rfl, hk⟩
/-- A literal's block is a row. -/
theorem Has.rowL {w : World} {b k : Nat} {e : TypeId} {sz : Nat} {cs : Array Value} {r : HL} (hk : cs.size = k * sz) (hm : k ≤ maxLen) (h : Has w H (blk b (.cells cs e (0, 0)) :: r)) : Has w H (row (slc k b) e sz k cs.toList :: r) := by
  have hb : w.heap[b]? = some (.cells cs e (0, 0)) := h.own _ List.mem_cons_self
  refine ⟨h.has, ?_, fun k hk => h.foot k (by simpa [feet, row, rowFoot, blk, slc] using hk), by simpa [feet, row, rowFoot, blk, slc] using h.nd⟩
  intro en hen
  rcases List.mem_cons.1 hen with rfl | hen
  · exact ⟨by simpa using hk, .inr ⟨b, k, cs, rfl, hb, Nat.le_refl _, hm, hk, by rw [← hk, ← Array.length_toList, List.take_length]⟩⟩
  · exact h.own en (List.mem_cons_of_mem _ hen)
/-- append(x, y...), y any slice read through the view. -/
theorem E_appendS {x y : Operand} {t t' e : TypeId} {sz bytes k m : Nat} {xs news : List Value} {v u : Value} (hA : App P t e sz bytes) (ht' : slcOk P t' e) (hx : ev l x = some v) (hy : ev l y = some u)
    (hu : SlAt H u m news) (hl' : news.length = m * sz) (h1 : news.all Value.oneCell' = true) (hb : (k + m) * bytes ≤ 140737488355328 ∧ k + m ≤ 140737488355328) :
    Eff P l H [row v e sz k xs] (.call ⟨.builtin .append, #[x, y], #[t, t']⟩) ty fun v' H' q => ∃ a cap, v' = .slice a (k + m) cap ∧ H' = H ∧ q = [row v' e sz (k + m) (xs ++ news)] := by
  refine Eff.append_ty hA.s ht' ⟨_, hx⟩ ⟨_, hy⟩ ?_
  obtain ⟨a, cap, rfl, h2⟩ := hu
  rcases h2 with ⟨rfl, rfl⟩ | ⟨b', off, rfl, hAt⟩
  · intro e2 w hk ho
    obtain ⟨i, z, hi, hz, hs, hzs, hby⟩ := hA.i
    have hown := ho.own _ List.mem_cons_self
    obtain ⟨a', cap', rfl⟩ := row_shape hown
    have hf : (Builtin.firstCells i.size 0 (.slice a 0 cap)).run P w = .ok #[] w := by
      cases a <;> simp [Builtin.firstCells, loadCells, loadCellsFrom]
    have hcap : k ≤ cap' := by
      rcases hown.2 with ⟨h3, h4⟩ | ⟨g, cp, cur, h3, _, h4, _⟩
      · cases h3; omega
      · cases h3; exact h4
    have hr : (Builtin.append_ #[t, t] ty #[.slice a' k cap', .slice a 0 cap]).run P w = .ok (.slice a' k cap') w := by
      cases a' <;> simp [Builtin.append_, run_underlying hA.s, Go.sizeOf, typeInfo, hi, Builtin.lenOf, hf, storeCells, hcap]
    have hrun : (ex e2 (.call ⟨.builtin .append, #[x, y], #[t, t]⟩) ty).run P w = .ok (.value (.slice a' k cap')) w := by
      simp [ex, execOp, resolve, invoke, builtin, hk x _ hx, hk y _ hy]
      rw [hr]; rfl
    rw [hrun]
    refine ⟨H, [row (.slice a' k cap') e sz k xs], Has.ok ho, a', cap', rfl, rfl, by simp⟩
  · intro e2 w hk ho
    refine (E_appendH (P := P) (ty := ty) hA hx hy (.inr ⟨b', off, cap, rfl, hAt⟩) hl' h1 hb e2 w hk ho).mono ?_
    rintro v w' ⟨H', q, hok, a, cap, rfl, rfl, rfl, _⟩
    exact ⟨H', _, hok, a, cap, rfl, rfl, rfl⟩
theorem E_appendLit {x y : Operand} {t t' e : TypeId} {sz bytes k m b : Nat} {cs : Array Value} {news : List Value} {u : Value} (hA : App P t e sz bytes) (ht' : slcOk P t' e) (hx : ev l x = some (slc k b)) (hy : ev l y = some u)
    (hu : SlAt H u m news) (hl' : news.length = m * sz) (hcs : cs.size = k * sz) (h1 : news.all Value.oneCell' = true) (hb : (k + m) * bytes ≤ 140737488355328 ∧ k + m ≤ 140737488355328) :
    Eff P l H [blk b (.cells cs e (0, 0))] (.call ⟨.builtin .append, #[x, y], #[t, t']⟩) ty fun v' H' q => ∃ a cap, v' = .slice a (k + m) cap ∧ H' = H ∧ q = [row v' e sz (k + m) (cs.toList ++ news)] := by
  intro e2 w hk ho
  have ho' := Has.rowL hcs (by simp only [maxLen]; omega) ho
  refine (E_appendS (P := P) (ty := ty) hA ht' hx hy hu hl' h1 hb e2 w hk ho').mono ?_
  rintro v w' ⟨H', q, hok, a, cap, rfl, rfl, rfl⟩
  refine ⟨H', _, ?_, a, cap, rfl, rfl, rfl⟩
  simpa [feet, row, rowFoot, blk, slc] using hok
section
variable {keep : HL} {fin : Bool} {ol : List Oper} {R : List Nat} {T : ST} {d : Nat} {pos : String} {aft : Array Edge} {g : Option (Nat × Bool)}
theorem D_appendS {x y : Operand} {t t' e : TypeId} {sz bytes k m i : Nat} {xs news : List Value} {v u : Value} (j : Nat) (hA : App P t e sz bytes) (ht' : slcOk P t' e)
    (ho : nthO ol i = some ⟨some d, .call ⟨.builtin .append, #[x, y], #[t, t']⟩, ty, pos, aft, g⟩) (hw : wlO ol l g = some true) (hx : ev l x = some v) (hy : ev l y = some u)
    (hi : hl[j]? = some (row v e sz k xs)) (hkp : memAll keep (hl.eraseIdx j)) (hu : SlAt H u m news) (hl' : news.length = m * sz) (h1 : news.all Value.oneCell' = true) (hb : (k + m) * bytes ≤ 140737488355328 ∧ k + m ≤ 140737488355328)
    (h : ∀ a cap, KD P n ol.toArray keep fin T R ((d, .slice a (k + m) cap) :: l) (row (.slice a (k + m) cap) e sz (k + m) (xs ++ news) :: hl.eraseIdx j) H) : KD P n ol.toArray keep fin T (i :: R) l hl H := by
  refine D_eff _ (hl.eraseIdx j) ho hw rfl (perm_erase hi) hkp.mem (E_appendS hA ht' hx hy hu hl' h1 hb) ?_
  rintro v' H' q _ ⟨a, cap, rfl, rfl, rfl⟩
  exact h a cap
theorem K_appendS {x y : Operand} {t t' e : TypeId} {sz bytes k m : Nat} {xs news : List Value} {v u : Value} (j : Nat) (hA : App P t e sz bytes) (ht' : slcOk P t' e) (hx : ev l x = some v) (hy : ev l y = some u)
    (hi : hl[j]? = some (row v e sz k xs)) (hu : SlAt H u m news) (hl' : news.length = m * sz) (h1 : news.all Value.oneCell' = true) (hb : (k + m) * bytes ≤ 140737488355328 ∧ k + m ≤ 140737488355328) (hdn : Nat.blt d n = true)
    (h : ∀ a cap, KO P n c ops Q rest ((d, .slice a (k + m) cap) :: l) (row (.slice a (k + m) cap) e sz (k + m) (xs ++ news) :: hl.eraseIdx j) H) :
    KO P n c ops Q (⟨some d, .call ⟨.builtin .append, #[x, y], #[t, t']⟩, ty, pos, aft, none⟩ :: rest) l hl H := by
  refine KE _ (hl.eraseIdx j) (perm_erase hi) (E_appendS hA ht' hx hy hu hl' h1 hb) hdn ?_
  rintro v' H' q _ ⟨a, cap, rfl, rfl, rfl⟩
  exact h a cap
theorem D_appendLit {x y : Operand} {t t' e : TypeId} {sz bytes k m b i : Nat} {cs : Array Value} {news : List Value} {u : Value} (j : Nat) (hA : App P t e sz bytes) (ht' : slcOk P t' e)
    (ho : nthO ol i = some ⟨some d, .call ⟨.builtin .append, #[x, y], #[t, t']⟩, ty, pos, aft, g⟩) (hw : wlO ol l g = some true) (hx : ev l x = some (slc k b)) (hy : ev l y = some u)
    (hi : hl[j]? = some (blk b (.cells cs e (0, 0)))) (hkp : memAll keep (hl.eraseIdx j)) (hu : SlAt H u m news) (hl' : news.length = m * sz) (hcs : cs.size = k * sz) (h1 : news.all Value.oneCell' = true) (hb : (k + m) * bytes ≤ 140737488355328 ∧ k + m ≤ 140737488355328)
    (h : ∀ a cap, KD P n ol.toArray keep fin T R ((d, .slice a (k + m) cap) :: l) (row (.slice a (k + m) cap) e sz (k + m) (cs.toList ++ news) :: hl.eraseIdx j) H) : KD P n ol.toArray keep fin T (i :: R) l hl H := by
  refine D_eff _ (hl.eraseIdx j) ho hw rfl (perm_erase hi) hkp.mem (E_appendLit hA ht' hx hy hu hl' hcs h1 hb) ?_
  rintro v' H' q _ ⟨a, cap, rfl, rfl, rfl⟩
  exact h a cap
end
end
theorem RepL.take {α : Type} {R : α → List Value → Prop} {sz : Nat} {xs : List α} {cells : List Value} (h : RepL R sz xs cells) (m : Nat) : RepL R sz (xs.take m) (cells.take (m * sz)) := by
  induction h generalizing m with
  | nil => simpa using RepL.nil
  | @cons x cs xs ys hx hl ht ih =>
    cases m with
    | zero => simpa using RepL.nil
    | succ m =>
      have e1 : cs.take ((m + 1) * sz) = cs := List.take_of_length_le (by rw [hl, Nat.add_mul]; omega)
      rw [List.take_succ_cons, List.take_append, e1, hl, show (m + 1) * sz - sz = m * sz by rw [Nat.add_mul]; omega]
      exact .cons hx hl (ih m)
theorem RepL.drop {α : Type} {R : α → List Value → Prop} {sz : Nat} {xs : List α} {cells : List Value} (h : RepL R sz xs cells) (m : Nat) : RepL R sz (xs.drop m) (cells.drop (m * sz)) := by
  induction h generalizing m with
  | nil => simpa using RepL.nil
  | @cons x cs xs ys hx hl ht ih =>
    cases m with
    | zero => simpa using RepL.cons hx hl ht
    | succ m =>
      have e1 : cs.drop ((m + 1) * sz) = [] := List.drop_of_length_le (by rw [hl, Nat.add_mul]; omega)
      rw [List.drop_succ_cons, List.drop_append, e1, List.nil_append, hl, show (m + 1) * sz - sz = m * sz by rw [Nat.add_mul]; omega]
      exact ih m
theorem RepR.one {H : View} {r : Rl} {cs : List Value} (h : RepR H r cs) : cs.all Value.oneCell' = true := by
  obtain ⟨a, cp, rfl, _⟩ := h; rfl
/-! ### Normal form -/
def keyL (r : Rl) : List Int := r.sym :: (r.args ++ [r.to])
theorem keyL_inj {r s : Rl} (h : keyL r = keyL s) : r = s := by
  simp only [keyL, List.cons.injEq] at h
  obtain ⟨h1, h2⟩ := h
  have h3 : r.args.length = s.args.length := by have := congrArg List.length h2; simpa using this
  obtain ⟨h4, h5⟩ := List.append_inj h2 h3
  cases r; cases s; simp_all
def insR (r : Rl) : List Rl → List Rl
  | [] => [r]
  | x :: xs => if cmpL (keyL x) (keyL r) < 0 then x :: insR r xs else if cmpL (keyL x) (keyL r) = 0 then x :: xs else r :: x :: xs
def sortR (rs : List Rl) : List Rl := rs.foldl (fun out r => insR r out) []
def sortedM (a : Au) : Au := ⟨a.ranks, a.states, sortR a.rules, ((List.range a.states.toNat).filter fun (s : Nat) => decide ((s : Int) ∈ a.final)).map fun (s : Nat) => (s : Int)⟩
theorem insR_at {r : Rl} : ∀ {out : List Rl} {k : Nat}, k ≤ out.length → (∀ j (h : j < out.length), j < k → cmpL (keyL out[j]) (keyL r) < 0) → (∀ h : k < out.length, ¬ cmpL (keyL out[k]) (keyL r) < 0) →
    insR r out = if ∃ h : k < out.length, cmpL (keyL out[k]) (keyL r) = 0 then out else out.take k ++ r :: out.drop k
  | [], k, hk, _, _ => by
    have : k = 0 := by simpa using hk
    subst this
    simp [insR]
  | x :: xs, 0, _, _, h2 => by
    have h3 := h2 (by simp)
    simp only [List.getElem_cons_zero] at h3
    simp only [insR, if_neg h3, List.getElem_cons_zero, List.length_cons, Nat.zero_lt_succ, exists_true_left, List.take_zero, List.drop_zero, List.nil_append]
  | x :: xs, k + 1, hk, h1, h2 => by
    have h3 := h1 0 (by simp) (by omega)
    simp only [List.getElem_cons_zero] at h3
    have ih := insR_at (r := r) (out := xs) (k := k) (by simpa using hk) (fun j h hj => by
      have := h1 (j + 1) (by simpa using h) (by omega)
      simpa using this) (fun h => by
      have := h2 (by simpa using h)
      simpa using this)
    simp only [insR, if_pos h3, ih, List.getElem_cons_succ, List.length_cons, Nat.add_lt_add_iff_right, List.take_succ_cons, List.drop_succ_cons, List.cons_append]
    split <;> rfl
theorem insR_len (r : Rl) : ∀ out : List Rl, (insR r out).length ≤ out.length + 1
  | [] => by simp [insR]
  | x :: xs => by
    simp only [insR]
    split
    · simp only [List.length_cons]; have := insR_len r xs; omega
    · split <;> simp
theorem sortR_take {rs : List Rl} {k : Nat} (hk : k < rs.length) : sortR (rs.take (k + 1)) = insR rs[k] (sortR (rs.take k)) := by
  unfold sortR
  rw [List.take_succ_eq_append_getElem hk, List.foldl_append]; rfl
theorem sortR_len (rs : List Rl) : (sortR rs).length ≤ rs.length := by
  have key : ∀ (rs : List Rl) (out : List Rl), (rs.foldl (fun out r => insR r out) out).length ≤ out.length + rs.length := by
    intro rs
    induction rs with
    | nil => intro out; simp
    | cons r rs ih =>
      intro out
      have h1 := ih (insR r out)
      have h2 := insR_len r out
      simp only [List.foldl_cons, List.length_cons]
      omega
  simpa [sortR] using key rs []
theorem insR_mem {r x : Rl} : ∀ {out : List Rl}, x ∈ insR r out → x = r ∨ x ∈ out
  | [], h => by simp [insR] at h; exact .inl h
  | y :: ys, h => by
    simp only [insR] at h
    split at h
    · rcases List.mem_cons.1 h with rfl | h
      · exact .inr (by simp)
      · rcases insR_mem h with h | h
        · exact .inl h
        · exact .inr (by simp [h])
    · split at h
      · exact .inr h
      · rcases List.mem_cons.1 h with rfl | h
        · exact .inl rfl
        · exact .inr h
theorem sortR_mem {rs : List Rl} {x : Rl} (h : x ∈ sortR rs) : x ∈ rs := by
  have key : ∀ (rs : List Rl) (out : List Rl), x ∈ rs.foldl (fun out r => insR r out) out → x ∈ rs ∨ x ∈ out := by
    intro rs
    induction rs with
    | nil => intro out h; exact .inr h
    | cons r rs ih =>
      intro out h
      rcases ih _ h with h | h
      · exact .inl (by simp [h])
      · rcases insR_mem h with h | h
        · exact .inl (by simp [h])
        · exact .inr h
  rcases key rs [] h with h | h
  · exact h
  · cases h
def sameM (a b : Au) : Bool := decide (a.states = b.states ∧ a.ranks = b.ranks ∧ (sortR a.rules).map keyL = (sortR b.rules).map keyL ∧ (∀ x ∈ a.final, x ∈ b.final) ∧ ∀ x ∈ b.final, x ∈ a.final)
theorem sameM_self (a : Au) : sameM a a = true := by simp [sameM]
theorem keyL_len (r : Rl) : (keyL r).length = r.args.length + 2 := by simp [keyL]
theorem RepR.of_rule {H : View} {r : Rl} {xa : Option Addr} {xcp : Nat} (h1 : SI H (.slice xa r.args.length xcp) r.args) (h2 : i64ok r.sym) (h3 : i64ok r.to) (h4 : r.args.length ≤ 1099511627776) : RepR H r [.int .i64 r.sym, .slice xa r.args.length xcp, .int .i64 r.to] := ⟨xa, xcp, rfl, h1, h2, h3, h4⟩
theorem subL_yes {p : Nat → Bool} {s : Nat} (h : p s = true) : subL (s + 1) p = subL s p ++ [(s : Int)] := by simp [subL, List.range_succ, h]
theorem subL_no {p : Nat → Bool} {s : Nat} (h : p s = false) : subL (s + 1) p = subL s p := by simp [subL, List.range_succ, h]
end Pal
