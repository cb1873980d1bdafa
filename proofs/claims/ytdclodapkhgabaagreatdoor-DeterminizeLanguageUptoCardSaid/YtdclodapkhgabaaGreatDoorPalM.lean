/-
  Automata as plain lists: what they are over a view, what is wrong with them. Own work. No statement of the seat is proved here.
-/
import Derived.Test.YtdclodapkhgabaaGreatDoorPalW
namespace Pal
open Go
structure Rl where
  sym : Int
  args : List Int
  to : Int
structure Au where
  ranks : List Int
  states : Int
  rules : List Rl
  final : List Int
def RepR (H : View) (r : Rl) (cs : List Value) : Prop := ∃ a cp, cs = [.int .i64 r.sym, .slice a r.args.length cp, .int .i64 r.to] ∧ SI H (.slice a r.args.length cp) r.args ∧ i64ok r.sym ∧ i64ok r.to ∧ r.args.length ≤ 1099511627776
theorem RepR.mono {H H' : View} {r : Rl} {cs : List Value} (h : RepR H r cs) (hle : VLe H H') : RepR H' r cs := by
  obtain ⟨a, cp, h1, h2, h3⟩ := h
  exact ⟨a, cp, h1, h2.mono hle, h3⟩
structure RepAu (H : View) (a : Au) (vr vu vf : Value) : Prop where
  r : SI H vr a.ranks
  u : ∃ cells, SlAt H vu a.rules.length cells ∧ RepL (RepR H) 3 a.rules cells
  f : SI H vf a.final
  s : i64ok a.states
  rl : a.ranks.length ≤ 1099511627776
  ul : a.rules.length ≤ 1099511627776
  fl : a.final.length ≤ 1099511627776
theorem RepAu.mono {H H' : View} {a : Au} {vr vu vf : Value} (h : RepAu H a vr vu vf) (hle : VLe H H') : RepAu H' a vr vu vf := by
  obtain ⟨cells, h1, h2⟩ := h.u
  exact ⟨h.r.mono hle, ⟨cells, h1.mono hle, h2.imp fun x cs hx => hx.mono hle⟩, h.f.mono hle, h.s, h.rl, h.ul, h.fl⟩
theorem At.one {H : View} {b off : Nat} {vs : List Value} {j : Nat} {v : Value} (h : At H b off vs) (hj : vs[j]? = some v) : At H b (off + j) [v] := by
  refine h.sub fun k u hk => ?_
  cases k with
  | zero => simp at hk; subst hk; simpa using hj
  | succ k => simp at hk
theorem RepAu.rule {H : View} {a : Au} {vr vu vf : Value} (h : RepAu H a vr vu vf) {i : Nat} (hi : i < a.rules.length) : ∃ b off cp ra rcp, vu = .slice (some ⟨b, off, none⟩) a.rules.length cp ∧
    At H b (off + i * 3) [.int .i64 a.rules[i].sym, .slice ra a.rules[i].args.length rcp, .int .i64 a.rules[i].to] ∧ SI H (.slice ra a.rules[i].args.length rcp) a.rules[i].args ∧ i64ok a.rules[i].sym ∧ i64ok a.rules[i].to ∧ a.rules[i].args.length ≤ 1099511627776 := by
  obtain ⟨cells, h1, h2⟩ := h.u
  obtain ⟨ua, ucp, rfl, h3⟩ := h1
  obtain ⟨b, off, cs, rfl, _, ⟨ra, rcp, rfl, h5⟩, h6⟩ := SlAt.elem ⟨ua, ucp, rfl, h3⟩ h2 hi rfl
  exact ⟨b, off, ucp, ra, rcp, rfl, h6, h5⟩
theorem RepAu.ushape {H : View} {a : Au} {vr vu vf : Value} (h : RepAu H a vr vu vf) : ∃ ua ucp, vu = .slice ua a.rules.length ucp := by
  obtain ⟨cells, ⟨ua, ucp, rfl, _⟩, _⟩ := h.u
  exact ⟨ua, ucp, rfl⟩

/-! ### What is wrong -/
def ranksErr (ranks : List Int) : Int :=
  if (ranks.length : Int) < 1 ∨ 4096 < (ranks.length : Int) then 2 else if (ranks.any fun x => decide (x < 0 ∨ 2 < x)) = true then 3 else if ¬ (0 : Int) ∈ ranks then 9 else 0
def badQ (n q : Int) : Bool := !decide (0 ≤ q ∧ q < n)
def ruleErr (a : Au) (r : Rl) : Int :=
  if r.sym < 0 ∨ (a.ranks.length : Int) ≤ r.sym then 6 else if (r.args.length : Int) ≠ a.ranks.getD r.sym.toNat 0 then 3 else if (r.args.any (badQ a.states) || badQ a.states r.to) = true then 2 else 0
def rulesErr (a : Au) : List Rl → Int
  | [] => 0
  | r :: rs => if ruleErr a r ≠ 0 then ruleErr a r else rulesErr a rs
def auErr (a : Au) : Int :=
  if ranksErr a.ranks ≠ 0 then ranksErr a.ranks else if a.states < 0 ∨ 256 < a.states ∨ 65536 < (a.rules.length : Int) then 2
  else if rulesErr a a.rules ≠ 0 then rulesErr a a.rules else if (a.final.any (badQ a.states)) = true then 2 else 0
theorem rulesErr_take {a : Au} {rs : List Rl} {k : Nat} (h : ∀ j (hj : j < rs.length), j < k → ruleErr a rs[j] = 0) (hk : k < rs.length) (he : ruleErr a rs[k] ≠ 0) : rulesErr a rs = ruleErr a rs[k] := by
  induction rs generalizing k with
  | nil => simp at hk
  | cons r rs ih =>
    cases k with
    | zero => simp only [rulesErr, List.getElem_cons_zero] at he ⊢; rw [if_pos he]
    | succ k =>
      have h0 := h 0 (by simp) (by omega)
      simp only [List.getElem_cons_zero] at h0
      simp only [rulesErr, h0, ne_eq, not_true_eq_false, if_false, List.getElem_cons_succ] at he ⊢
      exact ih (fun j hj hjk => h (j + 1) (by simp; omega) (by omega)) (by simpa using hk) he
theorem rulesErr_zero {a : Au} {rs : List Rl} (h : ∀ j (hj : j < rs.length), ruleErr a rs[j] = 0) : rulesErr a rs = 0 := by
  induction rs with
  | nil => rfl
  | cons r rs ih =>
    have h0 := h 0 (by simp)
    simp only [List.getElem_cons_zero] at h0
    simp only [rulesErr, h0, ne_eq, not_true_eq_false, if_false]
    exact ih fun j hj => h (j + 1) (by simp; omega)
end Pal
