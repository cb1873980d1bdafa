/-
  Automata up to order and duplicates: sorted forms of sorted forms, the reference's Same, and the automaton with nothing in it that stands beside
  an error. Plain Lean, no program. Own work.
-/
import Derived.Test.YtdclodapkhgabaaGreatPalKn
namespace Go.Proofs.X
open Go Pal Go.Proofs
deriving instance DecidableEq for Rl
def zeroA : Au := ⟨[], 0, [], []⟩
def errAu (e : Int) (b : Au) : Au := if e = 0 then b else zeroA
theorem errAu_ok {e : Int} {b : Au} (h : e = 0) : errAu e b = b := if_pos h
theorem errAu_no {e : Int} {b : Au} (h : e ≠ 0) : errAu e b = zeroA := if_neg h
theorem eqP_is (p q : Rl × Value) : eqP p q = decide (p.1 = q.1) := by
  unfold eqP
  exact decide_eq_decide.2 ordR_eq
theorem sameM_dec (a b : Au) : sameM a b = decide (a.ranks = b.ranks ∧ a.states = b.states ∧ sortI a.final = sortI b.final ∧ sortO a.rules = sortO b.rules) := by
  by_cases h : a.ranks = b.ranks ∧ a.states = b.states ∧ sortI a.final = sortI b.final ∧ sortO a.rules = sortO b.rules
  · rw [decide_eq_true h]; exact (sameM_iff a b).2 h
  · rw [decide_eq_false h]
    cases h2 : sameM a b with
    | false => rfl
    | true => exact absurd ((sameM_iff a b).1 h2) h
theorem sortO_idem (rs : List Rl) : sortO (sortO rs) = sortO rs := sortO_congr fun _ => sortO_mem
theorem sortI_idem (xs : List Int) : sortI (sortI xs) = sortI xs := sortI_congr fun _ => sortI_mem
theorem norm_idem (a : Au) : normA (normA a) = normA a := by
  unfold normA
  simp only [sortO_idem, sortI_idem]
theorem same_norm (a : Au) : sameM (normA a) a = true := (sameM_iff _ _).2 ⟨rfl, rfl, sortI_idem _, sortO_idem _⟩
theorem same_of_norm {a b : Au} (h : normA a = normA b) : sameM a b = true := by
  unfold normA at h
  injection h with h1 h2 h4 h3
  exact (sameM_iff _ _).2 ⟨h1, h2, h3, h4⟩
theorem norm_of_same {a b : Au} (h : sameM a b = true) : normA a = normA b := by
  obtain ⟨h1, h2, h3, h4⟩ := (sameM_iff _ _).1 h
  unfold normA
  rw [h1, h2, h3, h4]
theorem _root_.Pal.AuOk.args2 {a : Au} (h : AuOk a) : ∀ r ∈ a.rules, r.args.length ≤ 2 := fun r hr => by
  obtain ⟨h1, h2, h3, _⟩ := h.ru r hr
  have hlt : r.sym.toNat < a.ranks.length := by omega
  have h4 := (h.rk r.sym.toNat hlt).2
  have h5 : a.ranks.getD r.sym.toNat 0 = a.ranks[r.sym.toNat] := by simp [List.getD, hlt]
  omega
end Go.Proofs.X
