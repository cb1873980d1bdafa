/-
  Calls and the end: rules over PalC. Own work. No statement of the seat is proved here.
-/
import Derived.Test.YtglmnochbdpmaaaGreatDoorPalC
namespace Pal
open Go
section rules
variable {P : Program} {n : Nat} {c : Cx} {Q : Exit → Act → World → Prop} {l : KL} {hl : HL} {H : View}
variable {ops : Array Oper} {rest : List Oper} {d : Nat} {v : Value} {op : Op} {ty : TypeId} {pos : String} {aft : Array Edge}

/-! ### Calls -/
def callable (P : Program) (f : FuncId) : Bool :=
  match P.funcs[f]? with
  | some fn => !(fn.name == "runtime.NumGoroutine") && fn.body.isSome
  | none => false
theorem callable.run {f : FuncId} (h : callable P f = true) (args : Array Value) (w : World) : (callFunc f args).run P w = .ok (.enter f args) w := by
  unfold callable at h
  split at h
  · rename_i fn hfn
    simp only [Bool.and_eq_true, Bool.not_eq_true'] at h
    have h1 : fn.name ≠ "runtime.NumGoroutine" := by simpa using h.1
    obtain ⟨bd, hbd⟩ := Option.isSome_iff_exists.1 h.2
    simp [callFunc, hfn, h1, hbd]
  · cases h
def evs (l : KL) : List Operand → Option (List Value)
  | [] => some []
  | x :: r => match ev l x, evs l r with
    | some v, some vs => some (v :: vs)
    | _, _ => none
theorem Knows.evs {l : KL} {e : Operand → Value} (hk : Knows l e) : ∀ {xs : List Operand} {vs : List Value}, evs l xs = some vs → xs.map e = vs
  | [], vs, h => by simp [Pal.evs] at h; simp [h]
  | x :: r, vs, h => by
    simp only [Pal.evs] at h
    split at h
    · rename_i v us h1 h2
      simp at h; subst h
      simp [hk x v h1, hk.evs h2]
    · cases h
/-- A call of a function value. -/
theorem E_call {g : Operand} {xs : List Operand} {ats : Array TypeId} {f : FuncId} {first captured vs : List Value} {post : Value → View → HL → Prop} {p : HL}
    (hcal : callable P f = true) (hg : ev l g = some (.func (.func f) first.toArray captured.toArray)) (hxs : evs l xs = some vs)
    (hS : SatO P f (first ++ vs ++ captured).toArray H p post) : Eff P l H p (.call ⟨.value g, xs.toArray, ats⟩) ty post := by
  intro e w hk ho
  have hr : (ex e (.call ⟨.value g, xs.toArray, ats⟩) ty).run P w = .ok (.enter f (first ++ vs ++ captured).toArray) w := by
    have e1 : xs.toArray.map e = vs.toArray := by
      apply Array.ext'; simp [hk.evs hxs]
    simp only [ex, execOp, resolve, hk g _ hg, Deferred.ofValue, e1, Sem.run_bind, Sem.run_pure, Result.andThen_ok, invoke]
    rw [callable.run hcal]
    simp
  rw [hr]
  refine Calls.mono (hS w ho) ?_
  rintro e w' ⟨u, H', q, rfl, ho', hpost⟩
  exact ⟨u, rfl, H', q, ho', hpost⟩
/-- A call of a named function that changes nothing: what it owns at its end is dropped. -/
theorem E_callN {xs : List Operand} {ats : Array TypeId} {f : FuncId} {vs : List Value} {post : Value → View → Prop}
    (hcal : callable P f = true) (hxs : evs l xs = some vs) (hS : Sat P f vs.toArray H post) :
    Eff P l H [] (.call ⟨.value (.func f), xs.toArray, ats⟩) ty fun v H' q => q = [] ∧ post v H' := by
  intro e w hk ho
  refine Upon.mono (E_call (first := []) (captured := []) (post := fun v H' _ => post v H') hcal rfl hxs (by simpa [Sat] using hS) e w hk ho) ?_
  rintro v w' ⟨H', q, ho', hp⟩
  exact ⟨H', [], ho'.sublist (List.nil_sublist q), rfl, hp⟩
theorem K_call {xs : List Operand} {ats : Array TypeId} {f : FuncId} {vs : List Value} {post : Value → View → Prop}
    (hcal : callable P f = true) (hxs : evs l xs = some vs) (hdn : Nat.blt d n = true) (hS : Sat P f vs.toArray H post)
    (h : ∀ u H', VLe H H' → post u H' → KO P n c ops Q rest ((d, u) :: l) hl H') :
    KO P n c ops Q (⟨some d, .call ⟨.value (.func f), xs.toArray, ats⟩, ty, pos, aft, none⟩ :: rest) l hl H :=
  KE [] hl (List.Perm.refl _) (E_callN hcal hxs hS) hdn (by rintro v H' q hle ⟨rfl, hp⟩; exact h v H' hle hp)

/-! ### The end -/
end rules
end Pal
