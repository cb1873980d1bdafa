/-
  More rules: appends, results that lie in a block, indexes by a natural number. Own work. No statement of the seat is proved here.
-/
import Derived.Test.YtglmnochbdpmaaaGreatDoorPalF
namespace Pal
open Go
section
variable {P : Program} {n : Nat} {c : Cx} {Q : Exit → Act → World → Prop} {l : KL} {hl : HL} {H : View} {keep : HL} {fin : Bool}
variable {ol : List Oper} {ops : Array Oper} {rest : List Oper} {R : List Nat} {T : ST} {i d : Nat} {op : Op} {ty : TypeId} {pos : String} {aft : Array Edge} {g : Option (Nat × Bool)} {v : Value}

theorem R_indexN {x y : Operand} {t e : TypeId} {b off k cap : Nat} {q : IntKind} {i : Nat} {agg : Bool} {sz : Nat} (hS : slcOk P t e) (hT : Ty P e agg sz) (hx : ev l x = some (.slice (some ⟨b, off, none⟩) k cap))
    (hy : ev l y = some (.int q (i : Int))) (hi : i < k) : ValOk P l H hl (.indexAddr t x y) ty (.pointer (some ⟨b, off + i * sz, none⟩)) := by
  have := R_index (ty := ty) (H := H) (hl := hl) hS hT hx hy ⟨by omega, by omega⟩
  simpa using this

theorem row_shape {w : World} {v : Value} {e : TypeId} {sz k : Nat} {xs : List Value} (h : (row v e sz k xs).holds (heapOf w)) : ∃ a cap, v = .slice a k cap := by
  rcases h.2 with ⟨rfl, rfl⟩ | ⟨g, cap, _, rfl, _⟩
  · exact ⟨none, 0, rfl⟩
  · exact ⟨_, cap, rfl⟩
/-- append(x, one element), the element's block just made: the row comes to the front, that block is dropped. -/
theorem E_append1 {x y : Operand} {t e : TypeId} {sz bytes k m : Nat} {xs : List Value} {b : Nat} {cs : Array Value} {fz : Nat × Nat} (hA : App P t e sz bytes) (hx : ev l x = some v) (hy : ev l y = some (slc m b))
    (hl' : cs.toList.length = m * sz) (h1 : cs.toList.all Value.oneCell' = true) (hb : (k + m) * bytes ≤ 140737488355328 ∧ k + m ≤ 140737488355328) :
    Eff P l H [row v e sz k xs, blk b (.cells cs e fz)] (.call ⟨.builtin .append, #[x, y], #[t, t]⟩) ty fun v' H' q => ∃ a cap, v' = .slice a (k + m) cap ∧ H' = H ∧ q = [row v' e sz (k + m) (xs ++ cs.toList)] ∧ (v' = nilS ↔ v = nilS ∧ m = 0) := by
  intro ev' w hk ho
  have := E_append (P := P) (ty := ty) (p := [blk b (.cells cs e fz)]) (news := cs.toList) hA hx hy (.inr ⟨b, 0, m, rfl, .inr ⟨cs, e, fz, rfl, rfl, List.take_length⟩⟩) hl' h1 hb ev' w hk ho
  refine this.mono ?_
  rintro v' w' ⟨H', q, hok, rfl, rfl, h⟩
  obtain ⟨a, cap, rfl⟩ := row_shape (hok.own _ List.mem_cons_self)
  exact ⟨H', _, hok.sublist (hl' := [row (.slice a (k + m) cap) e sz (k + m) (xs ++ cs.toList)]) (by simp), a, cap, rfl, rfl, rfl, h⟩
theorem perm_two {a en : Own} {tl : HL} {i : Nat} (hi : tl[i]? = some en) : (a :: tl).Perm ([en, a] ++ tl.eraseIdx i) :=
  ((perm_erase hi).cons a).trans (List.Perm.swap en a _)
theorem K_append1 {x y : Operand} {t e : TypeId} {sz bytes k m : Nat} {xs : List Value} {b : Nat} {cs : Array Value} {fz : Nat × Nat} {tl : HL} (i : Nat) (hA : App P t e sz bytes) (hx : ev l x = some v) (hy : ev l y = some (slc m b))
    (hhl : hl = blk b (.cells cs e fz) :: tl) (hi : tl[i]? = some (row v e sz k xs)) (hcs : cs.toList.length = m * sz) (h1 : cs.toList.all Value.oneCell' = true) (hb : (k + m) * bytes ≤ 140737488355328 ∧ k + m ≤ 140737488355328) (hdn : Nat.blt d n = true)
    (h : ∀ a cap, (.slice a (k + m) cap = nilS ↔ v = nilS ∧ m = 0) → KO P n c ops Q rest ((d, .slice a (k + m) cap) :: l) (row (.slice a (k + m) cap) e sz (k + m) (xs ++ cs.toList) :: tl.eraseIdx i) H) :
    KO P n c ops Q (⟨some d, .call ⟨.builtin .append, #[x, y], #[t, t]⟩, ty, pos, aft, none⟩ :: rest) l hl H := by
  subst hhl
  refine KE _ (tl.eraseIdx i) (perm_two hi) (E_append1 hA hx hy hcs h1 hb) hdn ?_
  rintro v' H' q _ ⟨a, cap, rfl, rfl, rfl, hn⟩
  exact h a cap hn
theorem D_append1 {x y : Operand} {t e : TypeId} {sz bytes k m : Nat} {xs : List Value} {b : Nat} {cs : Array Value} {fz : Nat × Nat} {tl : HL} (j : Nat) (hA : App P t e sz bytes)
    (ho : nthO ol i = some ⟨some d, .call ⟨.builtin .append, #[x, y], #[t, t]⟩, ty, pos, aft, g⟩) (hw : wlO ol l g = some true) (hx : ev l x = some v) (hy : ev l y = some (slc m b))
    (hhl : hl = blk b (.cells cs e fz) :: tl) (hi : tl[j]? = some (row v e sz k xs)) (hkp : memAll keep (tl.eraseIdx j)) (hcs : cs.toList.length = m * sz) (h1 : cs.toList.all Value.oneCell' = true) (hb : (k + m) * bytes ≤ 140737488355328 ∧ k + m ≤ 140737488355328)
    (h : ∀ a cap, (.slice a (k + m) cap = nilS ↔ v = nilS ∧ m = 0) → KD P n ol.toArray keep fin T R ((d, .slice a (k + m) cap) :: l) (row (.slice a (k + m) cap) e sz (k + m) (xs ++ cs.toList) :: tl.eraseIdx j) H) : KD P n ol.toArray keep fin T (i :: R) l hl H := by
  subst hhl
  refine D_eff _ (tl.eraseIdx j) ho hw rfl (perm_two hi) hkp.mem (E_append1 hA hx hy hcs h1 hb) ?_
  rintro v' H' q _ ⟨a, cap, rfl, rfl, rfl, hn⟩
  exact h a cap hn
/-- append(x, y...), y read through the view (or nil). -/
theorem E_appendH {x y : Operand} {t e : TypeId} {sz bytes k m : Nat} {xs news : List Value} {u : Value} (hA : App P t e sz bytes) (hx : ev l x = some v) (hy : ev l y = some u)
    (hu : (u = nilS ∧ m = 0 ∧ news = []) ∨ ∃ b off cp, u = .slice (some ⟨b, off, none⟩) m cp ∧ At H b off news)
    (hl' : news.length = m * sz) (h1 : news.all Value.oneCell' = true) (hb : (k + m) * bytes ≤ 140737488355328 ∧ k + m ≤ 140737488355328) :
    Eff P l H [row v e sz k xs] (.call ⟨.builtin .append, #[x, y], #[t, t]⟩) ty fun v' H' q => ∃ a cap, v' = .slice a (k + m) cap ∧ H' = H ∧ q = [row v' e sz (k + m) (xs ++ news)] ∧ (v' = nilS ↔ v = nilS ∧ m = 0) := by
  have h0 : Eff P l H [row v e sz k xs] (.call ⟨.builtin .append, #[x, y], #[t, t]⟩) ty fun v' H' q => H' = H ∧ q = row v' e sz (k + m) (xs ++ news) :: [] ∧ (v' = nilS ↔ v = nilS ∧ m = 0) := by
    refine E_append (p := []) hA hx hy ?_ hl' h1 hb
    rcases hu with h | ⟨b, off, cp, h, h2⟩
    · exact .inl h
    · exact .inr ⟨b, off, cp, h, .inl h2⟩
  intro ev' w hk ho
  refine (h0 ev' w hk ho).mono ?_
  rintro v' w' ⟨H', q, hok, rfl, rfl, h⟩
  obtain ⟨a, cap, rfl⟩ := row_shape (hok.own _ List.mem_cons_self)
  exact ⟨H', _, hok, a, cap, rfl, rfl, rfl, h⟩
def resOk (P : Program) (l : KL) (hl : HL) : List ResultVar → List Value → Prop
  | [], [] => True
  | .tmp t :: r, v :: vs => look l t = some v ∧ resOk P l hl r vs
  | .cell a ty :: r, v :: vs => (∃ (b : Nat) (cs : Array Value) (E : TypeId) (fz : Nat × Nat) (agg : Bool) (sz i : Nat), look l a = some (ptr b) ∧ hl[i]? = some (blk b (.cells cs E fz)) ∧ Ty P ty agg sz ∧ (agg = false → sz = 1) ∧
      (cs.toList.take sz).length = sz ∧ mkV agg (cs.toList.take sz) = v) ∧ resOk P l hl r vs
  | _, _ => False
def rv (tmps : Array Value) : ResultVar → Sem Value
  | .tmp t => pure (tmps.getD t undef)
  | .cell a t => do loadVar t (← asAddr (tmps.getD a undef))
def tupV : List Value → Value
  | [v] => v
  | vs => .tuple vs.toArray
theorem resOk.run {ρ : Env} {w : World} (hm : Mt n ρ l) (ho : Has w H hl) : ∀ {rs : List ResultVar} {vs : List Value}, resOk P l hl rs vs →
    (rs.mapM (rv (fr n ρ).tmps)).run P w = .ok vs w
  | [], [], _ => rfl
  | .tmp t :: r, v :: vs, h => by
    obtain ⟨h1, h2⟩ := h
    obtain ⟨h3, h4⟩ := hm t v h1
    simp only [List.mapM_cons, rv, Sem.run_bind, fr_getD n ρ t h3, h4, Sem.run_pure, Result.andThen_ok, resOk.run hm ho h2]
  | .cell a ty :: r, v :: vs, h => by
    obtain ⟨⟨b, cs, E, fz, agg, sz, i, h1, hi, hT, h1c, hlen, rfl⟩, h2⟩ := h
    obtain ⟨h3, h4⟩ := hm a _ h1
    have hb : w.heap[b]? = some (.cells cs E fz) := ho.own (blk b (.cells cs E fz)) (List.mem_of_getElem? hi)
    have hld := run_loadVar (b := b) (off := 0) hT hlen h1c w (fun j u hj => by
      rw [addr_add]
      rw [List.getElem?_take] at hj
      split at hj
      · simpa [World.cell?, hb] using hj
      · cases hj)
    have ha : (rv (fr n ρ).tmps (.cell a ty)).run P w = .ok (mkV agg (cs.toList.take sz)) w := by
      have : asAddr ((fr n ρ).tmps.getD a undef) = pure ⟨b, 0, none⟩ := by rw [fr_getD n ρ a h3, h4]; rfl
      simp only [rv, this, Sem.run_bind, Sem.run_pure, Result.andThen_ok, hld]
    simp only [List.mapM_cons, Sem.run_bind, ha, Sem.run_pure, Result.andThen_ok, resOk.run hm ho h2]
  | [], _ :: _, h => h.elim
  | .tmp _ :: _, [], h => h.elim
  | .cell _ _ :: _, [], h => h.elim
theorem results_gen {fn : Func} {rs : List ResultVar} {vs : List Value} (hfn : fn.results = rs.toArray) {post : Value → View → HL → Prop} (h : resOk P l hl rs vs) (hp : post (tupV vs) H hl) :
    KQ n c (bodyPost P fn (RS c post)) .ret l hl H := by
  intro ρ w hm ho
  refine ⟨rfl, tupV vs, ?_, _, H, hl, rfl, ho, hp⟩
  have h1 := resOk.run hm ho.hasL h
  have h2 : (fn.results.mapM (rv (fr n ρ).tmps)).run P w = .ok vs.toArray w := by
    rw [hfn, Array.mapM_eq_mapM_toList, Sem.run_map, h1]
    rfl
  have h3 : results fn (fr n ρ).tmps = (do
      let vs ← fn.results.mapM (rv (fr n ρ).tmps)
      pure (if h : vs.size = 1 then vs[0] else .tuple vs)) := by
    unfold results
    congr 1
  rw [h3, Sem.run_bind, h2]
  simp only [Result.andThen_ok, Sem.run_pure]
  congr 1
  match vs with
  | [] => rfl
  | [v] => rfl
  | _ :: _ :: _ => rfl
end
end Pal
