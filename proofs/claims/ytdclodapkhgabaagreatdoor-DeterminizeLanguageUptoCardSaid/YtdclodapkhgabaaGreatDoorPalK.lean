/-
  Appends to an empty literal; slices of slices. Own work. No statement of the seat is proved here.
-/
import Derived.Test.YtdclodapkhgabaaGreatDoorPalL
namespace Pal
open Go
section
variable {P : Program} {n : Nat} {c : Cx} {Q : Exit → Act → World → Prop} {l : KL} {hl : HL} {H : View} {keep : HL} {fin : Bool}
variable {ol : List Oper} {ops : Array Oper} {rest : List Oper} {R : List Nat} {T : ST} {d : Nat} {op : Op} {ty : TypeId} {pos : String} {aft : Array Edge} {g : Option (Nat × Bool)} {v : Value}
/-- An empty literal's block is a row. -/
theorem Has.row0 {w : World} {b : Nat} {e : TypeId} {sz : Nat} {r : HL} (h : Has w H (blk b (.cells #[] e (0, 0)) :: r)) : Has w H (row (slc 0 b) e sz 0 [] :: r) := by
  have hb : w.heap[b]? = some (.cells #[] e (0, 0)) := h.own _ List.mem_cons_self
  refine ⟨h.has, ?_, fun k hk => h.foot k (by simpa [feet, row, rowFoot, blk, slc] using hk), by simpa [feet, row, rowFoot, blk, slc] using h.nd⟩
  intro en hen
  rcases List.mem_cons.1 hen with rfl | hen
  · exact ⟨by simp, .inr ⟨b, 0, #[], rfl, hb, Nat.le_refl _, by decide, by simp, by simp⟩⟩
  · exact h.own en (List.mem_cons_of_mem _ hen)
theorem Ok.row0 {w : World} {b : Nat} {e : TypeId} {sz : Nat} {r : HL} (h : Ok c w H (blk b (.cells #[] e (0, 0)) :: r)) : Ok c w H (row (slc 0 b) e sz 0 [] :: r) :=
  ⟨h.os, h.tape, h.output, h.drawn, h.size, h.old, h.vold, h.le, h.has, (Has.row0 h.hasL).own, fun k hk => h.foot k (by simpa [feet, row, rowFoot, blk, slc] using hk), by simpa [feet, row, rowFoot, blk, slc] using h.nd⟩
theorem KO_row0 {b : Nat} {e : TypeId} (sz : Nat) {r : HL} (h : KO P n c ops Q rest l (row (slc 0 b) e sz 0 [] :: r) H) : KO P n c ops Q rest l (blk b (.cells #[] e (0, 0)) :: r) H := fun ρ w hm ho => h ρ w hm ho.row0
theorem KQ_row0 {x : Exit} {b : Nat} {e : TypeId} (sz : Nat) {r : HL} (h : KQ n c Q x l (row (slc 0 b) e sz 0 [] :: r) H) : KQ n c Q x l (blk b (.cells #[] e (0, 0)) :: r) H := fun ρ w hm ho => h ρ w hm ho.row0
theorem run_append_ty {t t' e e' ty : TypeId} (hs : slcOk P t e) (hs' : slcOk P t' e') (args : Array Value) (w : World) : (Builtin.append_ #[t, t'] ty args).run P w = (Builtin.append_ #[t, t] ty args).run P w := by
  unfold Builtin.append_
  cases h0 : args[0]? with
  | none => rfl
  | some s => cases h1 : args[1]? with
    | none => rfl
    | some x =>
      simp only [List.getElem?_toArray, List.getElem?_cons_zero, List.getElem?_cons_succ, Sem.run_bind, run_underlying hs, Result.andThen_ok]
      cases s with
      | slice base sLen sCap =>
        simp only [Sem.run_bind]
        cases (Go.sizeOf e).run P w with
        | ok size w1 =>
          simp only [Result.andThen_ok, run_underlying hs, run_underlying hs', Sem.run_pure]
        | _ => rfl
      | _ => rfl
theorem Eff.append_ty {t t' e e' : TypeId} {x y : Operand} {p : HL} {post : Value → View → HL → Prop} (hs : slcOk P t e) (hs' : slcOk P t' e') (hx : ∃ v, ev l x = some v) (hy : ∃ v, ev l y = some v)
    (h : Eff P l H p (.call ⟨.builtin .append, #[x, y], #[t, t]⟩) ty post) : Eff P l H p (.call ⟨.builtin .append, #[x, y], #[t, t']⟩) ty post := by
  intro e2 w hk ho
  obtain ⟨vx, hx⟩ := hx
  obtain ⟨vy, hy⟩ := hy
  have := h e2 w hk ho
  have he : (ex e2 (.call ⟨.builtin .append, #[x, y], #[t, t']⟩) ty).run P w = (ex e2 (.call ⟨.builtin .append, #[x, y], #[t, t]⟩) ty).run P w := by
    have := run_append_ty (ty := ty) hs hs' #[vx, vy] w
    simp [ex, execOp, resolve, invoke, builtin, hk x _ hx, hk y _ hy]
    rw [this]
  rw [he]
  exact this
/-- append(E{}, y...), y read through the view. -/
theorem E_append0 {x y : Operand} {t t' e : TypeId} {sz bytes m b : Nat} {news : List Value} {u : Value} (hA : App P t e sz bytes) (ht' : slcOk P t' e) (hx : ev l x = some (slc 0 b)) (hy : ev l y = some u)
    (hu : SlAt H u m news) (hl' : news.length = m * sz) (h1 : news.all Value.oneCell' = true) (hb : m * bytes ≤ 140737488355328 ∧ m ≤ 140737488355328) :
    Eff P l H [blk b (.cells #[] e (0, 0))] (.call ⟨.builtin .append, #[x, y], #[t, t']⟩) ty fun v' H' q => ∃ a cap, v' = .slice a m cap ∧ H' = H ∧ q = [row v' e sz m news] := by
  refine Eff.append_ty hA.s ht' ⟨_, hx⟩ ⟨_, hy⟩ ?_
  intro e2 w hk ho
  have ho' : Has w H [row (slc 0 b) e sz 0 []] := Has.row0 ho
  have key : ∀ {u : Value} {m : Nat}, ev l y = some u → (u = .slice none 0 0 ∧ m = 0 ∧ news = [] ∨ ∃ b off cp, u = .slice (some ⟨b, off, none⟩) m cp ∧ At H b off news) → news.length = m * sz → m * bytes ≤ 140737488355328 ∧ m ≤ 140737488355328 →
      Upon P ((ex e2 (.call ⟨.builtin .append, #[x, y], #[t, t]⟩) ty).run P w) fun v w' => ∃ H' q, Ok ⟨w, H, feet [blk b (.cells #[] e (0, 0))]⟩ w' H' q ∧ ∃ a cap, v = .slice a m cap ∧ H' = H ∧ q = [row v e sz m news] := by
    intro u m hy hu hl' hb
    have h := E_appendH (P := P) (ty := ty) (k := 0) (xs := []) (v := slc 0 b) hA hx hy hu hl' h1 ⟨by simpa using hb.1, by simpa using hb.2⟩ e2 w hk ho'
    refine h.mono ?_
    rintro v w' ⟨H', q, hok, a, cap, rfl, rfl, rfl, _⟩
    refine ⟨H', _, ?_, a, cap, by simp, rfl, rfl⟩
    simpa [feet, row, rowFoot, blk, slc] using hok
  obtain ⟨a, cap, rfl, h2⟩ := hu
  rcases h2 with ⟨rfl, rfl⟩ | ⟨b', off, rfl, hAt⟩
  · obtain ⟨i, z, hi, hz, hs, hzs, hby⟩ := hA.i
    have hf : (Builtin.firstCells i.size 0 (.slice a 0 cap)).run P w = .ok #[] w := by
      cases a <;> simp [Builtin.firstCells, loadCells, loadCellsFrom]
    have hr : (Builtin.append_ #[t, t] ty #[slc 0 b, .slice a 0 cap]).run P w = .ok (slc 0 b) w := by
      simp [slc, Builtin.append_, run_underlying hA.s, Go.sizeOf, typeInfo, hi, Builtin.lenOf, hf, storeCells]
    have hrun : (ex e2 (.call ⟨.builtin .append, #[x, y], #[t, t]⟩) ty).run P w = .ok (.value (slc 0 b)) w := by
      simp [ex, execOp, resolve, invoke, builtin, hk x _ hx, hk y _ hy]
      rw [hr]; rfl
    rw [hrun]
    refine ⟨H, [row (slc 0 b) e sz 0 []], ?_, some ⟨b, 0, none⟩, 0, rfl, rfl, rfl⟩
    simpa [feet, row, rowFoot, blk, slc] using Has.ok ho'
  · exact key hy (.inr ⟨b', off, cap, rfl, hAt⟩) hl' hb
theorem D_append0 {x y : Operand} {t t' e : TypeId} {sz bytes m b i : Nat} {news : List Value} {u : Value} (j : Nat) (hA : App P t e sz bytes) (ht' : slcOk P t' e)
    (ho : nthO ol i = some ⟨some d, .call ⟨.builtin .append, #[x, y], #[t, t']⟩, ty, pos, aft, g⟩) (hw : wlO ol l g = some true) (hx : ev l x = some (slc 0 b)) (hy : ev l y = some u)
    (hi : hl[j]? = some (blk b (.cells #[] e (0, 0)))) (hkp : memAll keep (hl.eraseIdx j)) (hu : SlAt H u m news) (hl' : news.length = m * sz) (h1 : news.all Value.oneCell' = true) (hb : m * bytes ≤ 140737488355328 ∧ m ≤ 140737488355328)
    (h : ∀ a cap, KD P n ol.toArray keep fin T R ((d, .slice a m cap) :: l) (row (.slice a m cap) e sz m news :: hl.eraseIdx j) H) : KD P n ol.toArray keep fin T (i :: R) l hl H := by
  refine D_eff _ (hl.eraseIdx j) ho hw rfl (perm_erase hi) hkp.mem (E_append0 hA ht' hx hy hu hl' h1 hb) ?_
  rintro v' H' q _ ⟨a, cap, rfl, rfl, rfl⟩
  exact h a cap
theorem K_append0 {x y : Operand} {t t' e : TypeId} {sz bytes m b : Nat} {news : List Value} {u : Value} (j : Nat) (hA : App P t e sz bytes) (ht' : slcOk P t' e) (hx : ev l x = some (slc 0 b)) (hy : ev l y = some u)
    (hi : hl[j]? = some (blk b (.cells #[] e (0, 0)))) (hu : SlAt H u m news) (hl' : news.length = m * sz) (h1 : news.all Value.oneCell' = true) (hb : m * bytes ≤ 140737488355328 ∧ m ≤ 140737488355328) (hdn : Nat.blt d n = true)
    (h : ∀ a cap, KO P n c ops Q rest ((d, .slice a m cap) :: l) (row (.slice a m cap) e sz m news :: hl.eraseIdx j) H) :
    KO P n c ops Q (⟨some d, .call ⟨.builtin .append, #[x, y], #[t, t']⟩, ty, pos, aft, none⟩ :: rest) l hl H := by
  refine KE _ (hl.eraseIdx j) (perm_erase hi) (E_append0 hA ht' hx hy hu hl' h1 hb) hdn ?_
  rintro v' H' q _ ⟨a, cap, rfl, rfl, rfl⟩
  exact h a cap
end
end Pal
