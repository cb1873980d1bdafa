/-
  The values of the small automaton that a law's own test runs on, and what the laws of reachable states and of runs come to: the
  library's answers and the reference's, told over the same sorted rules, are alike. Plain Lean, no program. Own work.
-/
import Derived.Test.YtdclodapkhgabaaGreatPalRu
import Derived.Test.YtdclodapkhgabaaGreatPalO
namespace Go.Proofs.X
open Go Pal Go.Proofs
def kT : Tr := .node 1 [.node 0 [], .node 0 []]
def kLeaf : Tr := .node 0 []
theorem kv_ask : askErr knownA kT = 0 := by decide +kernel
theorem kv_best : bestF (sortO knownA.rules) kT knownA.final = some [0, 1, 1] := by decide +kernel
theorem kv_cnt : cntA knownA kT (sortI knownA.final) = 1 := by decide +kernel
theorem kv_acc : accA knownA kT = true := by decide +kernel
theorem kv_leaf : accA knownA kLeaf = true := by decide +kernel
theorem repT_leaf (H : View) (s : Int) (hs : i64ok s) : RepT H (.node s []) [.int .i64 s, .slice none 0 0] :=
  .mk s [] none 0 0 0 (fun _ => []) hs (fun h => absurd rfl h) (fun i hi => absurd hi (Nat.not_lt_zero i)) (fun i hi => absurd hi (Nat.not_lt_zero i))
theorem i64_small {x : Int} (h : 0 ≤ x ∧ x ≤ 1000) : i64ok x := by simp only [i64ok]; omega
theorem repT_kT (H : View) (b : Nat) {c : Array Value} {T : TypeId} {fz : Nat × Nat} (hb : H b = some (.cells c T fz)) (hc : c.toList = [.int .i64 0, .slice none 0 0, .int .i64 0, .slice none 0 0]) : RepT H kT [.int .i64 1, slc 2 b] :=
  .mk 1 [kLeaf, kLeaf] (some ⟨b, 0, none⟩) 2 b 0 (fun _ => [.int .i64 0, .slice none 0 0]) (i64_small (by decide)) (fun _ => rfl)
    (fun i hi => ⟨rfl, c, T, fz, hb, fun j v hj => by
      have hi : i < 2 := hi
      rw [show c[(0 + i * 2) + j]? = c.toList[(0 + i * 2) + j]? by simp, hc]
      obtain rfl | rfl : i = 0 ∨ i = 1 := by omega
      · match j, hj with
        | 0, hj => exact hj
        | 1, hj => exact hj
      · match j, hj with
        | 0, hj => exact hj
        | 1, hj => exact hj⟩)
    (fun i hi => by
      have hi : i < 2 := hi
      obtain rfl | rfl : i = 0 ∨ i = 1 := by omega
      · exact repT_leaf H 0 (i64_small (by decide))
      · exact repT_leaf H 0 (i64_small (by decide)))
theorem accA_is {a : Au} {t : Tr} (h : askErr a t = 0) : accA a t = decide (0 < (accR (sortO a.rules) t a.final).length) := by
  unfold accA
  rw [decide_eq_true h, Bool.true_and]
  by_cases h1 : a.final.any (fun q => decide (0 < t.cnt (sortO a.rules) q)) = true
  · rw [h1]
    exact (decide_eq_true ((accR_pos _ _ _).2 h1)).symm
  · rw [Bool.not_eq_true _ |>.mp h1]
    exact (decide_eq_false fun h2 => h1 ((accR_pos _ _ _).1 h2)).symm
theorem accA_no {a : Au} {t : Tr} (h : askErr a t ≠ 0) : accA a t = false := by
  unfold accA
  rw [decide_eq_false h, Bool.false_and]
theorem foldBest_some : ∀ (l : List (List Int)) (o : Option (List Int)), (l.foldl bestO o).isSome = (o.isSome || decide (0 < l.length))
  | [], o => by simp
  | x :: l, o => by
    rw [List.foldl_cons, foldBest_some l]
    have : (bestO o x).isSome = true := by cases o <;> simp only [bestO] <;> first | rfl | (split <;> rfl)
    rw [this]; simp
theorem best_some (rs : List Rl) (t : Tr) (F : List Int) : (bestF rs t F).isSome = decide (0 < (accR rs t F).length) := by
  rw [bestF_eq, foldBest_some]; rfl
theorem BestW.si {H : View} {w : Value} {o : Option (List Int)} (h : BestW H w o) : SI H w (o.getD []) ∧ (o.getD []).length ≤ 1048577 := by
  rcases h with ⟨rfl, rfl⟩ | ⟨x, a, cp, rfl, rfl, h3, h4⟩
  · exact ⟨⟨⟨none, 0, rfl, .inl ⟨rfl, rfl⟩⟩, fun x hx => by cases hx⟩, Nat.zero_le _⟩
  · exact ⟨h3, h4⟩
theorem accR_item {rs : List Rl} {t : Tr} {F x : List Int} (h : x ∈ accR rs t F) : x.length ≤ t.size :=
  Nat.le_of_eq (Tr.ways_len rs t x (List.mem_filter.1 h).1)
section rules
variable {P : Program} {n : Nat} {c : Cx} {l : KL} {hl : HL} {H : View} {v : Value} {ty : TypeId} {pos : String} {aft : Array Edge} {g : Option (Nat × Bool)} {ol : List Oper} {keep : HL} {fin : Bool} {T : ST} {R : List Nat} {i : Nat}
/-- A store of a whole block's cells in the chain. -/
theorem D_storeW {t : TypeId} {x y : Operand} {agg : Bool} {sz b : Nat} {cs cs' : Array Value} {E : TypeId} (hT : Ty P t agg sz) (j : Nat) (hi : nthO ol i = some ⟨none, .store t x y, ty, pos, aft, g⟩) (hw : wlO ol l g = some true)
    (hx : ev l x = some (.pointer (some ⟨b, 0, none⟩))) (hy : ev l y = some v) (hj : hl[j]? = some (blk b (.cells cs E (0, 0)))) (hkp : memAll keep (hl.eraseIdx j)) (hv : v.cells = cs') (hsz : cs'.size = sz) (hcs : cs.size = sz) (h1 : cs'.toList.all Value.oneCell' = true)
    (h : KD P n ol.toArray keep fin T R l (blk b (.cells cs' E (0, 0)) :: hl.eraseIdx j) H) : KD P n ol.toArray keep fin T (i :: R) l hl H := by
  subst hv
  refine D_store hT j hi hw hx hy hj hkp (by simpa using hsz) (Nat.ble_eq.mpr (by simp [hsz, hcs])) h1 ?_
  rw [putCells_all (by rw [hsz, hcs])]
  exact h
end rules
end Go.Proofs.X
