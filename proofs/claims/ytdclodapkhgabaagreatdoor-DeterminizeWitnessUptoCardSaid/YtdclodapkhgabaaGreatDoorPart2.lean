/-
  Part of the proof: rules for walks, contracts of the functions that the statements reach, plain laws. Own work. No statement of the seat is proved here.
-/
import Derived.Test.YtdclodapkhgabaaGreatDoorPart1
import Derived.Shelf.SlSortCmp.NoneTotal
import Derived.Shelf.SortG.Plain
import Derived.Shelf.SortG.SortNone
import Derived.Ground.SlsfProg
import Derived.Ground.SlgnProg
import Derived.Test.YtdclodapkhgabaaGreatDoorProg
/-
  The values of the small automaton that a law's own test runs on, and what the laws of reachable states and of runs come to: the
  library's answers and the reference's, told over the same sorted rules, are alike. Plain Lean, no program. Own work.
-/
namespace Go.Proofs.X
open Go Pal Go.Proofs
theorem repT_leaf (H : View) (s : Int) (hs : i64ok s) : RepT H (.node s []) [.int .i64 s, .slice none 0 0] :=
  .mk s [] none 0 0 0 (fun _ => []) hs (fun h => absurd rfl h) (fun i hi => absurd hi (Nat.not_lt_zero i)) (fun i hi => absurd hi (Nat.not_lt_zero i))
theorem BestW.si {H : View} {w : Value} {o : Option (List Int)} (h : BestW H w o) : SI H w (o.getD []) ∧ (o.getD []).length ≤ 1048577 := by
  rcases h with ⟨rfl, rfl⟩ | ⟨x, a, cp, rfl, rfl, h3, h4⟩
  · exact ⟨⟨⟨none, 0, rfl, .inl ⟨rfl, rfl⟩⟩, fun x hx => by cases hx⟩, Nat.zero_le _⟩
  · exact ⟨h3, h4⟩
section rules
variable {P : Program} {n : Nat} {c : Cx} {l : KL} {hl : HL} {H : View} {v : Value} {ty : TypeId} {pos : String} {aft : Array Edge} {g : Option (Nat × Bool)} {ol : List Oper} {keep : HL} {fin : Bool} {T : ST} {R : List Nat} {i : Nat}
/-- A store of a whole block's cells in the chain. -/
theorem D_storeW {t : TypeId} {x y : Operand} {agg : Bool} {sz b : Nat} {cs cs' : Array Value} {E : TypeId} (hT : Ty P t agg sz) (j : Nat) (hi : nthO ol i = some ⟨none, .store t x y, ty, pos, aft, g⟩) (hw : wlO ol l g = some true)
    (hx : ev l x = some (.pointer (some ⟨b, 0, none⟩))) (hy : ev l y = some v) (hj : hl[j]? = some (blk b (.cells cs E (0, 0)))) (hkp : memAll keep (hl.eraseIdx j)) (hv : v.cells = cs') (hsz : cs'.size = sz) (hcs : cs.size = sz) (h1 : cs'.toList.all Value.oneCell' = true)
    (h : KD P n ol.toArray keep fin T R l (blk b (.cells cs' E (0, 0)) :: hl.eraseIdx j) H) : KD P n ol.toArray keep fin T (i :: R) l hl H := by
  subst hv
  refine D_store hT j hi hw hx hy hj hkp (by simpa using hsz) (Nat.ble_eq.mpr (by simp [hsz, hcs])) h1 ?_
  rw [putCells_all (by rw [hsz, hcs])]
  exact h
end rules
end Go.Proofs.X

/-
  Automata up to order and duplicates: sorted forms of sorted forms, the reference's Same, and the automaton with nothing in it that stands beside
  an error. Plain Lean, no program. Own work.
-/
namespace Go.Proofs.X
open Go Pal Go.Proofs
deriving instance DecidableEq for Rl
end Go.Proofs.X

/-
  Trees with turned symbols; when a run exists; images and inverse images accept alike. Plain Lean, no program. Own work.
-/
namespace Pal
open Go Go.Proofs Go.Proofs.X
def turnS (l : List Int) (s : Int) : Int := if 0 ≤ s ∧ s < l.length then l.getD s.toNat 0 else 0
mutual
def Tr.turn (l : List Int) : Tr → Tr
  | .node s ts => .node (turnS l s) (Tr.turns l ts)
def Tr.turns (l : List Int) : List Tr → List Tr
  | [] => []
  | t :: r => Tr.turn l t :: Tr.turns l r
end
end Pal

/-
  Two automata beside each other, and the rules that a walk over owned rows of sources needs that are changed one at a time. Own work.
  No statement of the seat is proved here.
-/
namespace Pal
open Go Go.Proofs Go.Proofs.X
section rules
variable {P : Program} {n : Nat} {c : Cx} {Q : Exit → Act → World → Prop} {l : KL} {hl : HL} {H : View}
theorem rowsFrom_mid (ti : TypeId) (A B : List (Rl × Value)) (p : Rl × Value) : rowsFrom ti (A ++ p :: B) = rowsFrom ti A ++ row p.2 ti 1 p.1.args.length (ints p.1.args) :: rowsFrom ti B := by simp [rowsFrom]
theorem Ok.takerow {w : World} {ti : TypeId} {A B : List (Rl × Value)} {p : Rl × Value} (h : Ok c w H (many (rowsFrom ti (A ++ p :: B)) :: hl)) : Ok c w H (row p.2 ti 1 p.1.args.length (ints p.1.args) :: many (rowsFrom ti (A ++ B)) :: hl) := by
  have h1 := h.many_out
  rw [rowsFrom_mid] at h1
  have h2 : Ok c w H (rowsFrom ti (A ++ B) ++ (row p.2 ti 1 p.1.args.length (ints p.1.args) :: hl)) := by
    refine h1.perm ?_
    rw [show rowsFrom ti (A ++ B) = rowsFrom ti A ++ rowsFrom ti B by simp [rowsFrom]]
    rw [List.append_assoc, List.append_assoc]
    exact List.Perm.append_left _ (by rw [List.cons_append]; exact List.perm_middle.symm)
  exact h2.many_in.perm (List.Perm.swap _ _ _)
theorem Ok.putrow {w : World} {ti : TypeId} {A B : List (Rl × Value)} {p : Rl × Value} (h : Ok c w H (row p.2 ti 1 p.1.args.length (ints p.1.args) :: many (rowsFrom ti (A ++ B)) :: hl)) : Ok c w H (many (rowsFrom ti (A ++ p :: B)) :: hl) := by
  have h1 : Ok c w H (many (rowsFrom ti (A ++ B)) :: row p.2 ti 1 p.1.args.length (ints p.1.args) :: hl) := h.perm (List.Perm.swap _ _ _)
  have h2 := h1.many_out
  refine Ok.many_in ?_
  rw [rowsFrom_mid]
  refine h2.perm ?_
  rw [show rowsFrom ti (A ++ B) = rowsFrom ti A ++ rowsFrom ti B by simp [rowsFrom]]
  rw [List.append_assoc, List.append_assoc]
  exact List.Perm.append_left _ (by rw [List.cons_append]; exact List.perm_middle)
theorem KC_takerow {code : Code} {ti : TypeId} (A B : List (Rl × Value)) (p : Rl × Value) (h : KC P n c code Q l (row p.2 ti 1 p.1.args.length (ints p.1.args) :: many (rowsFrom ti (A ++ B)) :: hl) H) : KC P n c code Q l (many (rowsFrom ti (A ++ p :: B)) :: hl) H :=
  fun ρ w hm ho => h ρ w hm ho.takerow
theorem KQ_putrow {x : Exit} {ti : TypeId} (A B : List (Rl × Value)) (p : Rl × Value) (h : KQ n c Q x l (many (rowsFrom ti (A ++ p :: B)) :: hl) H) : KQ n c Q x l (row p.2 ti 1 p.1.args.length (ints p.1.args) :: many (rowsFrom ti (A ++ B)) :: hl) H :=
  fun ρ w hm ho => h ρ w hm ho.putrow
theorem KC_pubmany {code : Code} {ti : TypeId} {ps : List (Rl × Value)} (hb : ∀ p ∈ ps, RlB p.1) (h : ∀ H', VLe H H' → (∀ p ∈ ps, RVok H' p) → KC P n c code Q l hl H') : KC P n c code Q l (many (rowsFrom ti ps) :: hl) H := by
  intro ρ w hm ho
  obtain ⟨H', h1, h2, h3⟩ := ho.pub_many hb
  exact h H' h1 h2 ρ w hm h3
theorem KC_shape {code : Code} {v : Value} {e : TypeId} {sz k : Nat} {xs : List Value} (j : Nat) (hj : hl[j]? = some (row v e sz k xs)) (h : (∃ a cap, v = .slice a k cap) → KC P n c code Q l hl H) : KC P n c code Q l hl H :=
  fun ρ w hm ho => h (by obtain ⟨a, cap, e⟩ := row_shape (ho.own _ (List.mem_of_getElem? hj)); exact ⟨a, cap, e⟩) ρ w hm ho
end rules
end Pal

/-
  The product of two automata, in plain Lean. Own work. No program, no statement of the seat.
-/
namespace Pal
open Go Go.Proofs Go.Proofs.X
theorem mul_bound {x y m n : Int} (hx : 0 ≤ x ∧ x < m) (hy : 0 ≤ y ∧ y < n) : 0 ≤ x * n + y ∧ x * n + y < m * n := by
  have h0 : 0 ≤ x * n := Int.mul_nonneg hx.1 (by omega)
  have h1 : (x + 1) * n ≤ m * n := Int.mul_le_mul_of_nonneg_right (by omega) (by omega)
  rw [Int.add_mul, Int.one_mul] at h1
  omega
end Pal

/-
  Trimming: the states that come about and lead on, the automaton that is left, and its runs. Plain Lean, no program. Own work.
-/
namespace Pal
open Go Go.Proofs Go.Proofs.X
/-! ### Marks -/
def onL (m : List Bool) (q : Int) : Bool := m.getD q.toNat false
theorem onL_get {m : List Bool} {q : Int} {k : Nat} (hk : q.toNat = k) (h : k < m.length) : onL m q = m[k] := by
  unfold onL; rw [hk]; simp [List.getD, h]
/-- The same, or more marks. -/
structure Up (m m' : List Bool) : Prop where
  len : m'.length = m.length
  le : ∀ q, onL m q = true → onL m' q = true
  cnt : m' = m ∨ m.count true < m'.count true
theorem Up.refl (m : List Bool) : Up m m := ⟨rfl, fun _ h => h, .inl rfl⟩
theorem Up.trans {m m' m'' : List Bool} (h : Up m m') (h' : Up m' m'') : Up m m'' := by
  refine ⟨h'.len.trans h.len, fun q hq => h'.le q (h.le q hq), ?_⟩
  rcases h.cnt with rfl | h1
  · exact h'.cnt
  · rcases h'.cnt with rfl | h2
    · exact .inr h1
    · exact .inr (by omega)
theorem Up.back {m m' m'' : List Bool} (h : Up m m') (h' : Up m' m'') (e : m'' = m) : m' = m := by
  subst e
  rcases h.cnt with h1 | h1
  · exact h1
  · rcases h'.cnt with h2 | h2
    · exact h2.symm
    · omega
end Pal

/-
  Marks and numbers in a block, asx a walk over Trim meets them. Own work. No statement of the seat is proved here.
-/
namespace Pal
open Go Go.Proofs Go.Proofs.X
def mkL (m : List Bool) : Array Value := (m.map Value.bool).toArray
theorem mkL_get {m : List Bool} {q : Int} {off : Nat} (h : q.toNat < m.length) (ho : off = q.toNat) : (mkL m)[off]? = some (.bool (onL m q)) := by
  subst ho
  rw [onL_get rfl h]
  simp [mkL, h]
theorem At.mark {H : View} {b : Nat} {m : List Bool} {q : Int} (h : At H b 0 (mkL m).toList) (hq : q.toNat < m.length) : At H b (0 + q.toNat * 1) [.bool (onL m q)] := by
  rw [Nat.mul_one]
  exact h.one (by rw [Array.getElem?_toList]; exact mkL_get hq rfl)
def fnC (n : Nat) (f : Nat → Int) : Array Value := ((List.range n).map fun (x : Nat) => Value.int .i64 (f x)).toArray
theorem fnC_get {n off : Nat} {f : Nat → Int} (h : off < n) : (fnC n f)[off]? = some (.int .i64 (f off)) := by simp [fnC, h]
theorem At.fn {H : View} {b n : Nat} {f : Nat → Int} {q : Int} (h : At H b 0 (fnC n f).toList) (hq : q.toNat < n) : At H b (0 + q.toNat * 1) [.int .i64 (f q.toNat)] := by
  rw [Nat.mul_one]
  exact h.one (by rw [Array.getElem?_toList]; exact fnC_get hq)
end Pal
namespace Pal
open Go Go.Proofs Go.Proofs.X
/-! ### As the reference trims -/
end Pal
namespace Pal
open Go Go.Proofs Go.Proofs.X
end Pal

/-
  An owned automaton that is read, and changed cell by cell. Own work. No statement of the seat is proved here.
-/
namespace Pal
open Go Go.Proofs Go.Proofs.X
theorem flat_split {α : Type} {f : α → List Value} {qs : List α} {k : Nat} (hk : k < qs.length) : qs.flatMap f = (qs.take k).flatMap f ++ (f qs[k] ++ (qs.drop (k + 1)).flatMap f) := by
  have e : qs = qs.take k ++ qs[k] :: qs.drop (k + 1) := by simp
  conv => lhs; rw [e]
  rw [List.flatMap_append, List.flatMap_cons]
theorem flat_lenN {α : Type} {f : α → List Value} {sz : Nat} (hsz : ∀ x, (f x).length = sz) : ∀ qs : List α, (qs.flatMap f).length = qs.length * sz
  | [] => by simp
  | q :: qs => by rw [List.flatMap_cons, List.length_append, hsz, flat_lenN hsz qs, List.length_cons, Nat.succ_mul]; omega
theorem flat_cell {α : Type} {f : α → List Value} {sz : Nat} (hsz : ∀ x, (f x).length = sz) {qs : List α} {k j off : Nat} {v : Value} (hk : k < qs.length) (ho : off = k * sz + j) (tail : List Value) (hv : (f qs[k])[j]? = some v) : (qs.flatMap f ++ tail).toArray[off]? = some v := by
  subst ho
  have hj : j < (f qs[k]).length := (List.getElem?_eq_some_iff.1 hv).1
  have hl : ((qs.take k).flatMap f).length = k * sz := by rw [flat_lenN hsz, List.length_take, Nat.min_eq_left (by omega)]
  rw [List.getElem?_toArray, flat_split hk, List.append_assoc, List.getElem?_append_right (by omega), hl, Nat.add_sub_cancel_left, List.append_assoc, List.getElem?_append_left hj]
  exact hv
theorem set_mid {α : Type} {qs : List α} {k : Nat} (hk : k < qs.length) (q : α) : qs.take k ++ q :: qs.drop (k + 1) = qs.set k q := by
  rw [List.set_eq_take_append_cons_drop, if_pos hk]
theorem mid_len {α : Type} {qs : List α} {k : Nat} (hk : k < qs.length) (q : α) : (qs.take k ++ q :: qs.drop (k + 1)).length = qs.length := by rw [set_mid hk, List.length_set]
theorem mid_get {α : Type} {qs : List α} {k : Nat} (hk : k < qs.length) (q : α) : (qs.take k ++ q :: qs.drop (k + 1))[k]'(by rw [mid_len hk]; exact hk) = q := by
  have h0 : (qs.take k).length = k := by rw [List.length_take]; omega
  rw [List.getElem_append_right (by omega)]
  simp only [h0, Nat.sub_self, List.getElem_cons_zero]
section rules
variable {P : Program} {n : Nat} {c : Cx} {Q : Exit → Act → World → Prop} {l : KL} {hl : HL} {H : View}
theorem KC_takeAt {code : Code} {ti : TypeId} {ps : List (Rl × Value)} {k : Nat} (hk : k < ps.length) (h : KC P n c code Q l (row ps[k].2 ti 1 ps[k].1.args.length (ints ps[k].1.args) :: many (rowsFrom ti (ps.take k ++ ps.drop (k + 1))) :: hl) H) : KC P n c code Q l (many (rowsFrom ti ps) :: hl) H := by
  have e : ps = ps.take k ++ ps[k] :: ps.drop (k + 1) := by simp
  rw [show rowsFrom ti ps = rowsFrom ti (ps.take k ++ ps[k] :: ps.drop (k + 1)) from congrArg _ e]
  exact KC_takerow _ _ _ h
end rules
end Pal
namespace Pal
open Go Go.Proofs Go.Proofs.X
end Pal
namespace Pal
end Pal

/-
  slices.SortFunc at ints under a function that reads what lies in the view. Own work. No statement of the seat is proved here.
-/
namespace Pal
open Go Go.Proofs Go.Shelf Go.Sort
variable {P : Program} {ρ : Go.Shelf.Ren}
/-- A weak order from keys. -/
theorem sortIntsBy (L : SlLaysF.n6 P ρ) (g : Nat) (hg : callable P g = true) (cap0 : List Value) (H : View) (e : TypeId) (key : Int → List Int)
    (hord : ∀ x y V, VLe H V → Sat P g ([] ++ [Value.int .i64 x, .int .i64 y] ++ cap0).toArray V (fun r _ => r = .int .i64 (cmpL (key x) (key y))))
    (xs : List Int) (v : Value) (hlen : xs.length < 4611686018427387904) :
    SatO P (ρ.f 6) #[v, .func (.func g) #[] cap0.toArray] H [row v e 1 xs.length (ints xs)] (fun r H' q => r = .tuple #[] ∧ H' = H ∧ ∃ ys, ys.Perm xs ∧ ys.Pairwise (fun x y => cmpL (key x) (key y) ≤ 0) ∧ q = [row v e 1 ys.length (ints ys)]) := by
  intro w hw
  obtain ⟨hl1, hrow⟩ := hw.own _ (List.mem_cons_self ..)
  rcases hrow with ⟨rfl, h0⟩ | ⟨gb, cap, cur, rfl, hgb, hk, hc, hs, ht⟩
  · have hnil : xs = [] := List.eq_nil_of_length_eq_zero h0
    subst hnil
    refine Calls.mono (AnyF.slices_SortFunc_none { L with } none 0 _ w) ?_
    rintro e w' ⟨rfl, rfl⟩
    exact ⟨_, H, _, rfl, hw.ok, rfl, rfl, [], List.Perm.refl _, List.Pairwise.nil, rfl⟩
  · let cf : Int → Int → Int := fun x y => cmpL (key x) (key y)
    have hlt : ∀ x y : Int, ltOf cf x y = true ↔ cmpL (key x) (key y) < 0 := fun x y => by simp [ltOf, cf]
    have hO : SWO (ltOf cf) := by
      refine ⟨fun x => ?_, fun x y z h1 h2 => ?_, fun x y z h1 h2 => ?_⟩
      · cases h : ltOf cf x x with
        | false => rfl
        | true => have := (hlt x x).1 h; rw [cmpL_self] at this; omega
      · exact (hlt x z).2 (cmpL_trans ((hlt x y).1 h1) ((hlt y z).1 h2))
      · cases h : ltOf cf x z with
        | false => rfl
        | true =>
          have n1 : ¬ cmpL (key x) (key y) < 0 := fun hh => by rw [(hlt x y).2 hh] at h1; cases h1
          have n2 : ¬ cmpL (key y) (key z) < 0 := fun hh => by rw [(hlt y z).2 hh] at h2; cases h2
          have n3 := (hlt x z).1 h
          have m1 : cmpL (key y) (key x) ≤ 0 := by rw [cmpL_swap]; omega
          have m2 : cmpL (key z) (key y) ≤ 0 := by rw [cmpL_swap]; omega
          have m3 := cmpL_le_trans m2 m1
          rw [cmpL_swap] at m3
          omega
    have hblk : gb < w.heap.size := lt_of_heap hgb
    have hH : Holds (Value.int .i64) w gb 0 xs.toArray := holds_of_row hgb (by simpa [ints] using ht)
    have hHgb : H gb = none := hw.foot gb (by simp [feet, row, rowFoot])
    have hcmp : CmpLays1 P g cap0.toArray (Value.int .i64) cf gb 0 xs.toArray.size w := by
      intro m os dk hdk x y
      obtain ⟨p1, p2, p3⟩ := putRow_at (enc := Value.int .i64) (w := Sort.ahead w m) (d := dk) hgb
      have hhas : ∀ b o, H b = some o → (sortWorld (Value.int .i64) w gb 0 m dk os).heap[b]? = some o := by
        intro b o hb
        have hne : b ≠ gb := fun e => by subst e; rw [hHgb] at hb; cases hb
        have h1 := hw.has b o hb
        show (Sort.grow (Sort.putRow (Value.int .i64) (Sort.ahead w m) gb 0 _) os).heap[b]? = _
        rw [Sort.heap_grow_old _ _ (by rw [p3]; exact lt_of_heap h1), p2 b hne]; exact h1
      have hcall := hord x y H (VLe.refl _) _ (⟨hhas, fun _ he => (by cases he), fun _ hb => (by simp [feet] at hb), by simp [feet]⟩ : Has (sortWorld (Value.int .i64) w gb 0 m dk os) H [])
      rw [show (([] : List Value) ++ [Value.int .i64 x, Value.int .i64 y] ++ cap0).toArray = #[Value.int .i64 x, Value.int .i64 y] ++ cap0.toArray by simp] at hcall
      refine Calls.mono hcall ?_
      rintro e w' ⟨v, H', q, rfl, hok, rfl⟩
      refine ⟨rfl, w'.drawn - (sortWorld (Value.int .i64) w gb 0 m dk os).drawn, w'.heap.extract (sortWorld (Value.int .i64) w gb 0 m dk os).heap.size w'.heap.size, ?_⟩
      generalize sortWorld (Value.int .i64) w gb 0 m dk os = W at hok ⊢
      have e1 : w'.heap = W.heap ++ w'.heap.extract W.heap.size w'.heap.size := by
        apply Array.ext_getElem?
        intro k
        rw [Array.getElem?_append]
        have hsz := hok.size
        dsimp only at hsz
        by_cases hk : k < W.heap.size
        · rw [if_pos hk]; exact hok.old k hk (by simp [feet])
        · rw [if_neg hk, Array.getElem?_extract]
          have : Nat.min w'.heap.size w'.heap.size = w'.heap.size := Nat.min_self _
          by_cases hk2 : k < w'.heap.size
          · rw [if_pos (by omega)]; congr 1; omega
          · rw [if_neg (by omega), Array.getElem?_eq_none (by omega)]
      have e2 := hok.os
      have e3 := hok.tape
      have e4 := hok.output
      have e5 := hok.drawn
      dsimp only at e2 e3 e4 e5
      unfold Sort.grow World.drewN
      cases w'
      cases W
      simp only at e1 e2 e3 e4 e5 ⊢
      subst e2 e3 e4
      simp only [World.mk.injEq, true_and, and_true]
      exact ⟨e1, by omega⟩
    have hrun := Any.slices_SortFunc (α := Int) L (Value.int .i64) (fun x => rfl) cf hO g cap0.toArray gb 0 cap xs.toArray w (callable.run hg) hcmp hH hblk (by simpa using hlen)
    rw [List.size_toArray] at hrun
    refine Calls.mono hrun ?_
    rintro e w' ⟨rfl, d', n, os, hperm, hsort, rfl⟩
    obtain ⟨hsz, _, hpm⟩ := hperm
    have hext : ∀ (x : Array Int), x.size = xs.length → x.extract 0 xs.length = x := by
      intro x hx; rw [← hx]; exact Array.extract_size
    have hsz' : d'.size = xs.length := by simpa using hsz
    rw [hext d' hsz', hext xs.toArray (by simp)] at hpm
    refine ⟨_, H, _, rfl, ok_sorted (enc := Value.int .i64) (d := d') (n := n) (os := os) hw hgb hk hc hs (by rw [hsz']; omega), rfl, rfl, d'.toList, ?_, ?_, ?_⟩
    · simpa using hpm
    · rw [List.pairwise_iff_getElem]
      intro i j hi hj hij
      have hi2 : i < d'.size := by simpa using hi
      have hj2 : j < d'.size := by simpa using hj
      have hq := hsort i j (Nat.zero_le _) hij (by rw [← hsz']; exact hj2)
      rw [getElem!_pos d' j hj2, getElem!_pos d' i hi2] at hq
      have h3 : ¬ cmpL (key d'[j]) (key d'[i]) < 0 := fun hh => by rw [(hlt _ _).2 hh] at hq; cases hq
      rw [cmpL_swap] at h3
      simp only [Array.getElem_toList]
      omega
    · have hl : d'.toList.length = xs.length := by rw [Array.length_toList, hsz']
      rw [hl]; rfl
end Pal

/-
  The subset construction keeps the language, and all its states are reached. Plain Lean, no program. Own work.
-/
namespace Pal
open Go Go.Proofs Go.Proofs.X
theorem node_rank {rk : List Int} {s : Int} {ts : List Tr} (h : Tr.nodesErr rk (.node s ts) = 0) : (0 ≤ s ∧ s < rk.length) ∧ (ts.length : Int) = rk.getD s.toNat 0 ∧ ∀ t ∈ ts, Tr.nodesErr rk t = 0 := Tr.nodesErr_zero.1 h
def idxs (n : Nat) : List Int := (List.range n).map fun (i : Nat) => (i : Int)
theorem idxs_mem {n : Nat} {q : Int} : q ∈ idxs n ↔ 0 ≤ q ∧ q < (n : Int) := by
  simp only [idxs, List.mem_map, List.mem_range]
  constructor
  · rintro ⟨i, hi, rfl⟩; omega
  · intro h; exact ⟨q.toNat, by omega, by omega⟩
end Pal
namespace Pal
open Go Go.Proofs Go.Proofs.X
end Pal

/-
  The least accepted preimage of a tree: what the tables hold, and that it is the least. Plain Lean, no program. Own work.
-/
namespace Pal
open Go Go.Proofs Go.Proofs.X
/-! ### Trees asx slices of symbols -/
mutual
def Tr.code : Tr → List Int
  | .node s ts => s :: Tr.codes ts
def Tr.codes : List Tr → List Int
  | [] => []
  | t :: ts => Tr.code t ++ Tr.codes ts
end
theorem cmpL_append_ne {a b x y : List Int} (hl : a.length = b.length) (h : cmpL a b ≠ 0) : cmpL (a ++ x) (b ++ y) = cmpL a b := by
  rcases cmpL_vals a b with e | e | e
  · have h1 := cmpL_append_lt x y hl (by omega : cmpL a b < 0)
    rcases cmpL_vals (a ++ x) (b ++ y) with g | g | g <;> omega
  · exact absurd e h
  · have e2 : cmpL b a < 0 := by rw [cmpL_swap]; omega
    have h1 := cmpL_append_lt y x hl.symm e2
    rw [cmpL_swap] at h1
    rcases cmpL_vals (a ++ x) (b ++ y) with g | g | g <;> omega
theorem relabel_node {l : List Int} {s : Int} {us : List Tr} {x : Tr} (h : Tr.relabel l (.node s us) = some x) : ∃ ts, x = .node (l.getD s.toNat 0) ts ∧ (0 ≤ s ∧ s < l.length) ∧ Tr.relabels l us = some ts := by
  simp only [Tr.relabel] at h
  split at h
  · rename_i hs
    cases hr : Tr.relabels l us with
    | none => rw [hr] at h; cases h
    | some ts =>
      rw [hr] at h
      simp only [Option.map_some, Option.some.injEq] at h
      exact ⟨ts, h.symm, hs, rfl⟩
  · cases h
theorem relabel_mk {l : List Int} {s y : Int} {us ts : List Tr} (h0 : 0 ≤ s ∧ s < l.length) (hy : l.getD s.toNat 0 = y) (h : Tr.relabels l us = some ts) : Tr.relabel l (.node s us) = some (.node y ts) := by
  simp only [Tr.relabel]
  rw [if_pos h0, h, hy]; rfl
theorem relabels_cons {l : List Int} {us : List Tr} {t : Tr} {ts : List Tr} (h : Tr.relabels l us = some (t :: ts)) : ∃ u vs, us = u :: vs ∧ Tr.relabel l u = some t ∧ Tr.relabels l vs = some ts := by
  cases us with
  | nil => simp [Tr.relabels] at h
  | cons u vs =>
    simp only [Tr.relabels] at h
    cases hu : Tr.relabel l u with
    | none => rw [hu] at h; cases h
    | some t' =>
      rw [hu] at h
      cases hr : Tr.relabels l vs with
      | none => rw [hr] at h; simp at h
      | some ts' =>
        rw [hr] at h
        simp only [Option.map_some, Option.some.injEq, List.cons.injEq] at h
        exact ⟨u, vs, rfl, by rw [hu, h.1], by rw [hr, h.2]⟩
theorem relabels_nil {l : List Int} {us : List Tr} (h : Tr.relabels l us = some []) : us = [] := by
  cases us with
  | nil => rfl
  | cons u vs =>
    simp only [Tr.relabels] at h
    cases hu : Tr.relabel l u with
    | none => rw [hu] at h; cases h
    | some t' =>
      rw [hu] at h
      cases hr : Tr.relabels l vs with
      | none => rw [hr] at h; simp at h
      | some ts' => rw [hr] at h; simp at h
theorem relabels_mk {l : List Int} {u t : Tr} {us ts : List Tr} (h1 : Tr.relabel l u = some t) (h2 : Tr.relabels l us = some ts) : Tr.relabels l (u :: us) = some (t :: ts) := by
  simp only [Tr.relabels, h1, h2]; rfl
mutual
theorem code_len {l : List Int} : ∀ (x u : Tr), Tr.relabel l u = some x → u.code.length = x.size
  | .node y ts, .node s us, h => by
    obtain ⟨ts', e, _, h2⟩ := relabel_node h
    cases e
    rw [Tr.code, List.length_cons, codes_len ts us h2, Tr.size]; omega
theorem codes_len {l : List Int} : ∀ (ts us : List Tr), Tr.relabels l us = some ts → (Tr.codes us).length = Tr.sizes ts
  | [], us, h => by rw [relabels_nil h]; rfl
  | t :: ts, us, h => by
    obtain ⟨u, vs, rfl, h1, h2⟩ := relabels_cons h
    rw [Tr.codes, List.length_append, code_len t u h1, codes_len ts vs h2, Tr.sizes]
end
mutual
theorem code_inj {l : List Int} : ∀ (x u v : Tr), Tr.relabel l u = some x → Tr.relabel l v = some x → u.code = v.code → u = v
  | .node y ts, .node s us, .node s' vs, h, h', e => by
    obtain ⟨ts1, e1, _, h2⟩ := relabel_node h
    obtain ⟨ts2, e2, _, h2'⟩ := relabel_node h'
    cases e1
    simp only [Tr.node.injEq] at e2
    obtain ⟨_, rfl⟩ := e2
    rw [Tr.code, Tr.code] at e
    obtain ⟨e3, e4⟩ := List.cons.inj e
    rw [e3, codes_inj _ us vs h2 h2' e4]
theorem codes_inj {l : List Int} : ∀ (ts us vs : List Tr), Tr.relabels l us = some ts → Tr.relabels l vs = some ts → Tr.codes us = Tr.codes vs → us = vs
  | [], us, vs, h, h', _ => by rw [relabels_nil h, relabels_nil h']
  | t :: ts, us, vs, h, h', e => by
    obtain ⟨u, us', rfl, h1, h2⟩ := relabels_cons h
    obtain ⟨v, vs', rfl, h1', h2'⟩ := relabels_cons h'
    rw [Tr.codes, Tr.codes] at e
    obtain ⟨e1, e2⟩ := List.append_inj e (by rw [code_len t u h1, code_len t v h1'])
    rw [code_inj t u v h1 h1' e1, codes_inj ts us' vs' h2 h2' e2]
end
mutual
theorem cmp_code {l : List Int} : ∀ (x u v : Tr), Tr.relabel l u = some x → Tr.relabel l v = some x → Tr.cmp u v = cmpL u.code v.code
  | .node y ts, .node s us, .node s' vs, h, h' => by
    obtain ⟨ts1, e1, _, h2⟩ := relabel_node h
    obtain ⟨ts2, e2, _, h2'⟩ := relabel_node h'
    cases e1
    simp only [Tr.node.injEq] at e2
    obtain ⟨_, rfl⟩ := e2
    have hs1 := Tr.relabel_size _ _ h
    have hs2 := Tr.relabel_size _ _ h'
    have hsz : (Tr.node s us).size = (Tr.node s' vs).size := by rw [← hs1, ← hs2]
    have hl : us.length = vs.length := by
      have g : ∀ (ts us : List Tr), Tr.relabels l us = some ts → us.length = ts.length := by
        intro ts
        induction ts with
        | nil => intro us h; rw [relabels_nil h]
        | cons t ts ih =>
          intro us h
          obtain ⟨u, vs, rfl, _, h2⟩ := relabels_cons h
          simp [ih vs h2]
      rw [g _ _ h2, g _ _ h2']
    have hc := cmps_code _ us vs h2 h2'
    show (if cmpI (Tr.node s us).size (Tr.node s' vs).size ≠ 0 then _ else if cmpI s s' ≠ 0 then cmpI s s' else if cmpI us.length vs.length ≠ 0 then _ else Tr.cmps us vs) = _
    rw [hsz, hl, cmpI_self, cmpI_self, if_neg (by simp), hc, Tr.code, Tr.code, cmpL]
    unfold cmpI
    by_cases a1 : s < s'
    · simp [a1]
    · by_cases a2 : s' < s
      · simp [a1, a2]
      · simp [a1, a2]
theorem cmps_code {l : List Int} : ∀ (ts us vs : List Tr), Tr.relabels l us = some ts → Tr.relabels l vs = some ts → Tr.cmps us vs = cmpL (Tr.codes us) (Tr.codes vs)
  | [], us, vs, h, h' => by rw [relabels_nil h, relabels_nil h']; rfl
  | t :: ts, us, vs, h, h' => by
    obtain ⟨u, us', rfl, h1, h2⟩ := relabels_cons h
    obtain ⟨v, vs', rfl, h1', h2'⟩ := relabels_cons h'
    have e1 := cmp_code t u v h1 h1'
    have e2 := cmps_code ts us' vs' h2 h2'
    have hl : u.code.length = v.code.length := by rw [code_len t u h1, code_len t v h1']
    rw [Tr.cmps, Tr.codes, Tr.codes]
    by_cases h0 : Tr.cmp u v = 0
    · rw [if_neg (by rw [h0]; simp), e2]
      have e3 := cmpL_eq.1 (e1.symm.trans h0)
      rw [e3, cmpL_append_self]
    · rw [if_pos h0, e1]
      exact (cmpL_append_ne hl (by rw [← e1]; exact h0)).symm
end
/-! ### All preimages -/
def srcs (l : List Int) (y : Int) : List Int := ((List.range l.length).filter fun (s : Nat) => decide (l.getD s 0 = y)).map fun (s : Nat) => (s : Int)
theorem mem_srcs {l : List Int} {y s : Int} : s ∈ srcs l y ↔ (0 ≤ s ∧ s < l.length) ∧ l.getD s.toNat 0 = y := by
  simp only [srcs, List.mem_map, List.mem_filter, List.mem_range, decide_eq_true_eq]
  constructor
  · rintro ⟨n, ⟨h1, h2⟩, rfl⟩
    exact ⟨by omega, by rw [Int.toNat_natCast]; exact h2⟩
  · rintro ⟨h1, h2⟩
    exact ⟨s.toNat, ⟨by omega, h2⟩, by omega⟩
mutual
def preT (l : List Int) : Tr → List Tr
  | .node y ts => (srcs l y).flatMap fun s => (preTs l ts [[]]).map (Tr.node s)
def preTs (l : List Int) : List Tr → List (List Tr) → List (List Tr)
  | [], acc => acc
  | t :: ts, acc => preTs l ts (acc.flatMap fun us => (preT l t).map fun u => us ++ [u])
end
mutual
theorem mem_preT {l : List Int} : ∀ (x u : Tr), u ∈ preT l x ↔ Tr.relabel l u = some x
  | .node y ts, .node s us => by
    rw [preT, List.mem_flatMap]
    constructor
    · rintro ⟨s', hs, h⟩
      obtain ⟨vs, hv, e⟩ := List.mem_map.1 h
      simp only [Tr.node.injEq] at e
      obtain ⟨rfl, rfl⟩ := e
      obtain ⟨ws, hw, zs, hz, rfl⟩ := (mem_preTs ts [[]] _).1 hv
      rw [List.mem_singleton.1 hw, List.nil_append]
      obtain ⟨h0, h1⟩ := mem_srcs.1 hs
      exact relabel_mk h0 h1 hz
    · intro h
      obtain ⟨ts', e, h0, h2⟩ := relabel_node h
      simp only [Tr.node.injEq] at e
      obtain ⟨e1, rfl⟩ := e
      exact ⟨s, mem_srcs.2 ⟨h0, e1.symm⟩, List.mem_map.2 ⟨us, (mem_preTs _ [[]] us).2 ⟨[], List.mem_singleton.2 rfl, us, h2, rfl⟩, rfl⟩⟩
theorem mem_preTs {l : List Int} : ∀ (ts : List Tr) (acc : List (List Tr)) (vs : List Tr), vs ∈ preTs l ts acc ↔ ∃ us ∈ acc, ∃ ws, Tr.relabels l ws = some ts ∧ vs = us ++ ws
  | [], acc, vs => by
    rw [preTs]
    constructor
    · intro h; exact ⟨vs, h, [], rfl, by simp⟩
    · rintro ⟨us, h, ws, hw, rfl⟩
      rw [relabels_nil hw, List.append_nil]; exact h
  | t :: ts, acc, vs => by
    rw [preTs, mem_preTs ts _ vs]
    constructor
    · rintro ⟨us, h, ws, hw, rfl⟩
      obtain ⟨us', h1, h2⟩ := List.mem_flatMap.1 h
      obtain ⟨u, hu, rfl⟩ := List.mem_map.1 h2
      exact ⟨us', h1, u :: ws, relabels_mk ((mem_preT t u).1 hu) hw, by simp⟩
    · rintro ⟨us, h, ws, hw, rfl⟩
      obtain ⟨u, ws', rfl, h1, h2⟩ := relabels_cons hw
      exact ⟨us ++ [u], List.mem_flatMap.2 ⟨us, h, List.mem_map.2 ⟨u, (mem_preT t u).2 h1, rfl⟩⟩, ws', h2, by simp⟩
end
/-! ### Choices and tables -/
structure Ch where
  s : Int
  p : Int
  q : Int
  i : Int
  k : Int
def chV (c : Ch) : Value := .agg #[.int .i64 c.s, .int .i64 c.p, .int .i64 c.q, .int .i64 c.i, .int .i64 c.k]
def ch0 : Ch := ⟨0, 0, 0, 0, 0⟩
def keyC (c : Ch) : List Int := [c.s, c.i, c.k]
def updF (f : Int → Option Ch) (q : Int) (c : Ch) : Int → Option Ch := fun x => if q = x then some c else f x
def consF (f : Int → Option Ch) (x : Ch × Int) : Int → Option Ch := match f x.2 with
  | none => updF f x.2 x.1
  | some o => if cmpL (keyC x.1) (keyC o) < 0 then updF f x.2 x.1 else f
theorem fold_cons : ∀ (cs : List (Ch × Int)) (f : Int → Option Ch),
    (∀ q c, cs.foldl consF f q = some c → f q = some c ∨ (c, q) ∈ cs) ∧ (∀ q o, f q = some o → ∃ c, cs.foldl consF f q = some c ∧ cmpL (keyC c) (keyC o) ≤ 0) ∧ (∀ c q, (c, q) ∈ cs → ∃ c', cs.foldl consF f q = some c' ∧ cmpL (keyC c') (keyC c) ≤ 0)
  | [], f => ⟨fun q c h => .inl h, fun q o h => ⟨o, h, by rw [cmpL_self]; exact Int.le_refl _⟩, fun c q h => by cases h⟩
  | x :: cs, f => by
    obtain ⟨h1, h2, h3⟩ := fold_cons cs (consF f x)
    have hx : ∃ c, consF f x x.2 = some c ∧ cmpL (keyC c) (keyC x.1) ≤ 0 := by
      unfold consF
      cases ho : f x.2 with
      | none => exact ⟨x.1, by simp [updF], by rw [cmpL_self]; exact Int.le_refl _⟩
      | some o =>
        dsimp only
        by_cases hc : cmpL (keyC x.1) (keyC o) < 0
        · rw [if_pos hc]; exact ⟨x.1, by simp [updF], by rw [cmpL_self]; exact Int.le_refl _⟩
        · rw [if_neg hc]; exact ⟨o, ho, by rw [cmpL_swap]; omega⟩
    have hf : ∀ q c, consF f x q = some c → f q = some c ∨ (c, q) = x := by
      intro q c h
      unfold consF at h
      cases ho : f x.2 with
      | none =>
        rw [ho] at h
        dsimp only [updF] at h
        split at h
        · rename_i e; cases h; exact .inr (by rw [← e])
        · exact .inl h
      | some o =>
        rw [ho] at h
        dsimp only at h
        split at h
        · dsimp only [updF] at h
          split at h
          · rename_i e; cases h; exact .inr (by rw [← e])
          · exact .inl h
        · exact .inl h
    have hk : ∀ q o, f q = some o → ∃ c, consF f x q = some c ∧ cmpL (keyC c) (keyC o) ≤ 0 := by
      intro q o ho
      unfold consF
      cases hx2 : f x.2 with
      | none =>
        dsimp only [updF]
        by_cases e : x.2 = q
        · rw [e, ho] at hx2; cases hx2
        · rw [if_neg e]; exact ⟨o, ho, by rw [cmpL_self]; exact Int.le_refl _⟩
      | some o2 =>
        dsimp only
        by_cases hc : cmpL (keyC x.1) (keyC o2) < 0
        · rw [if_pos hc]
          dsimp only [updF]
          by_cases e : x.2 = q
          · rw [if_pos e]
            rw [e, ho] at hx2
            cases hx2
            exact ⟨x.1, rfl, by omega⟩
          · rw [if_neg e]; exact ⟨o, ho, by rw [cmpL_self]; exact Int.le_refl _⟩
        · rw [if_neg hc]; exact ⟨o, ho, by rw [cmpL_self]; exact Int.le_refl _⟩
    refine ⟨fun q c h => ?_, fun q o ho => ?_, fun c q h => ?_⟩
    · rcases h1 q c h with h | h
      · rcases hf q c h with h | h
        · exact .inl h
        · exact .inr (by rw [h]; exact List.mem_cons_self)
      · exact .inr (List.mem_cons_of_mem _ h)
    · obtain ⟨c, e1, e2⟩ := hk q o ho
      obtain ⟨c', e3, e4⟩ := h2 q c e1
      exact ⟨c', e3, cmpL_le_trans e4 e2⟩
    · rcases List.mem_cons.1 h with h | h
      · subst h
        obtain ⟨c1, e1, e2⟩ := hx
        obtain ⟨c', e3, e4⟩ := h2 _ c1 e1
        exact ⟨c', e3, cmpL_le_trans e4 e2⟩
      · exact h3 c q h
def atI (d : Dt) (s place : Int) : Int := (d.to.getD s.toNat []).getD place.toNat 0
/-- The choices for one symbol, in the program's order. -/
def cands (d : Dt) (s : Int) : List (List Int) → List (Ch × Int)
  | [] => [(⟨s, 0, 0, 0, 0⟩, atI d s 0)]
  | [R] => R.zipIdx.map fun (x : Int × Nat) => (⟨s, x.1, 0, (x.2 : Int), 0⟩, atI d s x.1)
  | R :: T :: _ => R.zipIdx.flatMap fun (x : Int × Nat) => T.zipIdx.map fun (z : Int × Nat) => (⟨s, x.1, z.1, (x.2 : Int), (z.2 : Int)⟩, atI d s (x.1 * (d.acc.length : Int) + z.1))
def allC (d : Dt) (l : List Int) (y : Int) (Rs : List (List Int)) : List (Ch × Int) := (srcs l y).flatMap fun s => cands d s Rs
def fT (d : Dt) (l : List Int) (y : Int) (Rs : List (List Int)) : Int → Option Ch := (allC d l y Rs).foldl consF fun _ => none
inductive Tb where
  | mk (f : Int → Option Ch) (R : List Int) (kids : List Tb)
def Tb.f : Tb → Int → Option Ch | .mk f _ _ => f
def Tb.R : Tb → List Int | .mk _ R _ => R
def Tb.kids : Tb → List Tb | .mk _ _ k => k
mutual
def Tb.tree : Tb → Int → Tr
  | .mk f _ kids, q => .node ((f q).getD ch0).s (Tb.trees kids [((f q).getD ch0).p, ((f q).getD ch0).q])
def Tb.trees : List Tb → List Int → List Tr
  | [], _ => []
  | t :: ts, q :: qs => Tb.tree t q :: Tb.trees ts qs
  | t :: ts, [] => Tb.tree t 0 :: Tb.trees ts []
end
/-- The states of a table, in the order of their choices. -/
structure IsR (f : Int → Option Ch) (R : List Int) : Prop where
  nd : R.Nodup
  mem : ∀ q, q ∈ R ↔ (f q).isSome = true
  le : R.Pairwise fun x y => cmpL (keyC ((f x).getD ch0)) (keyC ((f y).getD ch0)) ≤ 0
inductive TbS (d : Dt) (l : List Int) : Tr → Tb → Prop
  | mk (y : Int) (ts : List Tr) (R : List Int) (kids : List Tb) (hl : kids.length = ts.length) (hk : ∀ i (h : i < ts.length) (h2 : i < kids.length), TbS d l ts[i] kids[i]) (hR : IsR (fT d l y (kids.map Tb.R)) R) : TbS d l (.node y ts) (.mk (fT d l y (kids.map Tb.R)) R kids)
/-- What a table says of its tree. -/
structure TbG (d : Dt) (l : List Int) (x : Tr) (tb : Tb) : Prop where
  has : ∀ u, Tr.relabel l u = some x → (tb.f (u.run d)).isSome = true ∧ cmpL (tb.tree (u.run d)).code u.code ≤ 0
  is : ∀ q, (tb.f q).isSome = true → Tr.relabel l (tb.tree q) = some x ∧ (tb.tree q).run d = q
  lt : tb.R.Pairwise fun p q => cmpL (tb.tree p).code (tb.tree q).code < 0
  mem : ∀ q, q ∈ tb.R ↔ (tb.f q).isSome = true
theorem cons_le {a b : Int} {x y : List Int} : cmpL (a :: x) (b :: y) ≤ 0 ↔ a < b ∨ (a = b ∧ cmpL x y ≤ 0) := by
  rw [cmpL]
  by_cases h1 : a < b
  · simp [h1]
  · rw [if_neg h1]
    by_cases h2 : b < a
    · rw [if_pos h2]
      constructor
      · intro h; omega
      · rintro (h | ⟨h, _⟩) <;> omega
    · rw [if_neg h2]
      have e : a = b := by omega
      simp [e]
theorem at1 (d : Dt) (s p : Int) : atM d s [p] = atI d s p := by
  unfold atM atI placeM
  simp
theorem at2 (d : Dt) (s p q : Int) : atM d s [p, q] = atI d s (p * (d.acc.length : Int) + q) := by
  unfold atM atI placeM
  simp
def treeC (kids : List Tb) (c : Ch) : Tr := .node c.s (Tb.trees kids [c.p, c.q])
/-- What is asked of the choices. -/
structure CandOk (d : Dt) (l : List Int) (x : Tr) (kids : List Tb) (cs : List (Ch × Int)) : Prop where
  f1 : ∀ c q, (c, q) ∈ cs → Tr.relabel l (treeC kids c) = some x ∧ (treeC kids c).run d = q
  f2 : ∀ u, Tr.relabel l u = some x → ∃ c, (c, u.run d) ∈ cs ∧ cmpL (treeC kids c).code u.code ≤ 0
  f3 : ∀ c q c' q', (c, q) ∈ cs → (c', q') ∈ cs → cmpL (keyC c) (keyC c') ≤ 0 → cmpL (treeC kids c).code (treeC kids c').code ≤ 0
theorem TbG.of {d : Dt} {l : List Int} {x : Tr} {R : List Int} {kids : List Tb} {cs : List (Ch × Int)} {f : Int → Option Ch} (hf : f = cs.foldl consF fun _ => none) (h : CandOk d l x kids cs) (hR : IsR f R) : TbG d l x (.mk f R kids) := by
  obtain ⟨g1, _, g3⟩ := fold_cons cs (fun _ => none)
  rw [← hf] at g1 g3
  have hin : ∀ q c, f q = some c → (c, q) ∈ cs := fun q c e => (g1 q c e).resolve_left (fun e2 => by cases e2)
  have htree : ∀ q c, f q = some c → Tb.tree (.mk f R kids) q = treeC kids c := fun q c e => by rw [Tb.tree, e]; rfl
  refine ⟨fun u hu => ?_, fun q hq => ?_, ?_, hR.mem⟩
  · obtain ⟨c, h1, h2⟩ := h.f2 u hu
    obtain ⟨c', h3, h4⟩ := g3 c _ h1
    refine ⟨by show (f (u.run d)).isSome = true; rw [h3]; rfl, ?_⟩
    rw [htree _ _ h3]
    exact cmpL_le_trans (h.f3 _ _ _ _ (hin _ _ h3) h1 h4) h2
  · obtain ⟨c, hc⟩ := Option.isSome_iff_exists.1 hq
    rw [htree _ _ hc]
    exact h.f1 c q (hin _ _ hc)
  · show R.Pairwise _
    refine List.Pairwise.imp_of_mem (fun {p q} hp hq hpq => ?_) (hR.le.and hR.nd)
    obtain ⟨c, hc⟩ := Option.isSome_iff_exists.1 ((hR.mem p).1 hp)
    obtain ⟨c', hc'⟩ := Option.isSome_iff_exists.1 ((hR.mem q).1 hq)
    have hle := hpq.1
    rw [hc, hc'] at hle
    rw [htree _ _ hc, htree _ _ hc']
    have h1 := h.f3 _ _ _ _ (hin _ _ hc) (hin _ _ hc') hle
    obtain ⟨h2, h3⟩ := h.f1 c p (hin _ _ hc)
    obtain ⟨h4, h5⟩ := h.f1 c' q (hin _ _ hc')
    rcases Int.lt_or_eq_of_le h1 with h6 | h6
    · exact h6
    · exfalso
      have e := code_inj _ _ _ h2 h4 (cmpL_eq.1 h6)
      exact hpq.2 (by rw [← h3, ← h5, e])
theorem idx_lt {R : List Int} {g : Int → Int → Prop} (h : R.Pairwise g) {i j : Nat} {p q : Int} (hi : R[i]? = some p) (hj : R[j]? = some q) (hij : i < j) : g p q := by
  obtain ⟨h1, rfl⟩ := List.getElem?_eq_some_iff.1 hi
  obtain ⟨h2, rfl⟩ := List.getElem?_eq_some_iff.1 hj
  exact List.pairwise_iff_getElem.1 h i j h1 h2 hij
theorem mem_idx {R : List Int} {p : Int} (h : p ∈ R) : ∃ i : Nat, R[i]? = some p := by
  obtain ⟨i, hi, e⟩ := List.getElem_of_mem h
  exact ⟨i, by rw [List.getElem?_eq_getElem hi, e]⟩
theorem cand0 {d : Dt} {l : List Int} {y : Int} : CandOk d l (.node y []) [] (allC d l y []) := by
  have hm : ∀ c q, (c, q) ∈ allC d l y [] ↔ ∃ s ∈ srcs l y, c = ⟨s, 0, 0, 0, 0⟩ ∧ q = atI d s 0 := by
    intro c q
    simp only [allC, cands, List.mem_flatMap, List.mem_singleton, Prod.mk.injEq]
  refine ⟨fun c q h => ?_, fun u hu => ?_, fun c q c' q' h h' hk => ?_⟩
  · obtain ⟨s, hs, rfl, rfl⟩ := (hm c q).1 h
    obtain ⟨h0, h1⟩ := mem_srcs.1 hs
    exact ⟨relabel_mk h0 h1 rfl, rfl⟩
  · cases u with
    | node s us =>
      obtain ⟨ts, e, h0, h2⟩ := relabel_node hu
      simp only [Tr.node.injEq] at e
      obtain ⟨e1, rfl⟩ := e
      have := relabels_nil h2
      subst this
      refine ⟨⟨s, 0, 0, 0, 0⟩, (hm _ _).2 ⟨s, mem_srcs.2 ⟨h0, e1.symm⟩, rfl, rfl⟩, ?_⟩
      show cmpL (s :: []) (s :: []) ≤ 0
      rw [cmpL_self]; exact Int.le_refl _
  · obtain ⟨s, hs, rfl, rfl⟩ := (hm c q).1 h
    obtain ⟨s', hs', rfl, rfl⟩ := (hm c' q').1 h'
    show cmpL (s :: []) (s' :: []) ≤ 0
    rcases cons_le.1 (show cmpL (s :: [0, 0]) (s' :: [0, 0]) ≤ 0 from hk) with h | ⟨h, _⟩
    · exact cons_le.2 (.inl h)
    · exact cons_le.2 (.inr ⟨h, by rw [cmpL_self]; exact Int.le_refl _⟩)
theorem cand1 {d : Dt} {l : List Int} {y : Int} {x0 : Tr} {t0 : Tb} (g0 : TbG d l x0 t0) : CandOk d l (.node y [x0]) [t0] (allC d l y [t0.R]) := by
  have hm : ∀ c q, (c, q) ∈ allC d l y [t0.R] ↔ ∃ s ∈ srcs l y, ∃ (p : Int) (i : Nat), t0.R[i]? = some p ∧ c = ⟨s, p, 0, (i : Int), 0⟩ ∧ q = atI d s p := by
    intro c q
    simp only [allC, cands, List.mem_flatMap, List.mem_map, Prod.mk.injEq, Prod.exists, List.mem_zipIdx_iff_getElem?]
    constructor
    · rintro ⟨s, hs, p, i, h1, h2, h3⟩; exact ⟨s, hs, p, i, h1, h2.symm, h3.symm⟩
    · rintro ⟨s, hs, p, i, h1, h2, h3⟩; exact ⟨s, hs, p, i, h1, h2.symm, h3.symm⟩
  refine ⟨fun c q h => ?_, fun u hu => ?_, fun c q c' q' h h' hk => ?_⟩
  · obtain ⟨s, hs, p, i, h1, rfl, rfl⟩ := (hm c q).1 h
    obtain ⟨h0, h2⟩ := mem_srcs.1 hs
    obtain ⟨e1, e2⟩ := g0.is p ((g0.mem p).1 (List.mem_of_getElem? h1))
    refine ⟨relabel_mk h0 h2 (relabels_mk e1 rfl), ?_⟩
    show atM d s [(t0.tree p).run d] = _
    rw [e2, at1]
  · cases u with
    | node s us =>
      obtain ⟨ts, e, h0, h2⟩ := relabel_node hu
      simp only [Tr.node.injEq] at e
      obtain ⟨e1, rfl⟩ := e
      obtain ⟨u0, vs, rfl, h3, h4⟩ := relabels_cons h2
      have := relabels_nil h4
      subst this
      obtain ⟨k1, k2⟩ := g0.has u0 h3
      obtain ⟨i, hi⟩ := mem_idx ((g0.mem _).2 k1)
      refine ⟨⟨s, u0.run d, 0, (i : Int), 0⟩, (hm _ _).2 ⟨s, mem_srcs.2 ⟨h0, e1.symm⟩, _, i, hi, rfl, ?_⟩, ?_⟩
      · show atM d s [u0.run d] = _
        rw [at1]
      · show cmpL (s :: ((t0.tree (u0.run d)).code ++ [])) (s :: (u0.code ++ [])) ≤ 0
        rw [List.append_nil, List.append_nil]
        exact cons_le.2 (.inr ⟨rfl, k2⟩)
  · obtain ⟨s, hs, p, i, h1, rfl, rfl⟩ := (hm c q).1 h
    obtain ⟨s', hs', p', i', h1', rfl, rfl⟩ := (hm c' q').1 h'
    show cmpL (s :: ((t0.tree p).code ++ [])) (s' :: ((t0.tree p').code ++ [])) ≤ 0
    rw [List.append_nil, List.append_nil]
    rcases cons_le.1 (show cmpL (s :: [(i : Int), 0]) (s' :: [(i' : Int), 0]) ≤ 0 from hk) with h | ⟨h, hk2⟩
    · exact cons_le.2 (.inl h)
    · refine cons_le.2 (.inr ⟨h, ?_⟩)
      rcases cons_le.1 hk2 with h2 | ⟨h2, _⟩
      · have := idx_lt g0.lt h1 h1' (by omega); omega
      · have e : i = i' := by omega
        subst e
        rw [h1] at h1'
        cases h1'
        rw [cmpL_self]; exact Int.le_refl _
theorem cand2 {d : Dt} {l : List Int} {y : Int} {x0 x1 : Tr} {t0 t1 : Tb} (g0 : TbG d l x0 t0) (g1 : TbG d l x1 t1) : CandOk d l (.node y [x0, x1]) [t0, t1] (allC d l y [t0.R, t1.R]) := by
  have hm : ∀ c q, (c, q) ∈ allC d l y [t0.R, t1.R] ↔ ∃ s ∈ srcs l y, ∃ (p : Int) (i : Nat) (z : Int) (k : Nat), t0.R[i]? = some p ∧ t1.R[k]? = some z ∧ c = ⟨s, p, z, (i : Int), (k : Int)⟩ ∧ q = atI d s (p * (d.acc.length : Int) + z) := by
    intro c q
    simp only [allC, cands, List.mem_flatMap, List.mem_map, Prod.mk.injEq, Prod.exists, List.mem_zipIdx_iff_getElem?]
    constructor
    · rintro ⟨s, hs, p, i, h1, z, k, h2, h3, h4⟩; exact ⟨s, hs, p, i, z, k, h1, h2, h3.symm, h4.symm⟩
    · rintro ⟨s, hs, p, i, z, k, h1, h2, h3, h4⟩; exact ⟨s, hs, p, i, h1, z, k, h2, h3.symm, h4.symm⟩
  have hlen : ∀ p p', t0.R.contains p = true → t0.R.contains p' = true → (t0.tree p).code.length = (t0.tree p').code.length := fun p p' hp hp' => by
    have e1 := (g0.is p ((g0.mem p).1 (by simpa using hp))).1
    have e2 := (g0.is p' ((g0.mem p').1 (by simpa using hp'))).1
    rw [code_len _ _ e1, code_len _ _ e2]
  refine ⟨fun c q h => ?_, fun u hu => ?_, fun c q c' q' h h' hk => ?_⟩
  · obtain ⟨s, hs, p, i, z, k, h1, h1b, rfl, rfl⟩ := (hm c q).1 h
    obtain ⟨h0, h2⟩ := mem_srcs.1 hs
    obtain ⟨e1, e2⟩ := g0.is p ((g0.mem p).1 (List.mem_of_getElem? h1))
    obtain ⟨e3, e4⟩ := g1.is z ((g1.mem z).1 (List.mem_of_getElem? h1b))
    refine ⟨relabel_mk h0 h2 (relabels_mk e1 (relabels_mk e3 rfl)), ?_⟩
    show atM d s [(t0.tree p).run d, (t1.tree z).run d] = _
    rw [e2, e4, at2]
  · cases u with
    | node s us =>
      obtain ⟨ts, e, h0, h2⟩ := relabel_node hu
      simp only [Tr.node.injEq] at e
      obtain ⟨e1, rfl⟩ := e
      obtain ⟨u0, vs, rfl, h3, h4⟩ := relabels_cons h2
      obtain ⟨u1, vs, rfl, h5, h6⟩ := relabels_cons h4
      have := relabels_nil h6
      subst this
      obtain ⟨k1, k2⟩ := g0.has u0 h3
      obtain ⟨i, hi⟩ := mem_idx ((g0.mem _).2 k1)
      obtain ⟨m1, m2⟩ := g1.has u1 h5
      obtain ⟨k, hk⟩ := mem_idx ((g1.mem _).2 m1)
      refine ⟨⟨s, u0.run d, u1.run d, (i : Int), (k : Int)⟩, (hm _ _).2 ⟨s, mem_srcs.2 ⟨h0, e1.symm⟩, _, i, _, k, hi, hk, rfl, ?_⟩, ?_⟩
      · show atM d s [u0.run d, u1.run d] = _
        rw [at2]
      · show cmpL (s :: ((t0.tree (u0.run d)).code ++ ((t1.tree (u1.run d)).code ++ []))) (s :: (u0.code ++ (u1.code ++ []))) ≤ 0
        rw [List.append_nil, List.append_nil]
        refine cons_le.2 (.inr ⟨rfl, cmpL_append_le ?_ k2 m2⟩)
        rw [code_len _ _ h3, code_len _ _ (g0.is _ k1).1]
  · obtain ⟨s, hs, p, i, z, k, h1, h1b, rfl, rfl⟩ := (hm c q).1 h
    obtain ⟨s', hs', p', i', z', k', h1', h1b', rfl, rfl⟩ := (hm c' q').1 h'
    show cmpL (s :: ((t0.tree p).code ++ ((t1.tree z).code ++ []))) (s' :: ((t0.tree p').code ++ ((t1.tree z').code ++ []))) ≤ 0
    rw [List.append_nil, List.append_nil]
    have hl := hlen p p' (by simpa using List.mem_of_getElem? h1) (by simpa using List.mem_of_getElem? h1')
    rcases cons_le.1 (show cmpL (s :: [(i : Int), (k : Int)]) (s' :: [(i' : Int), (k' : Int)]) ≤ 0 from hk) with h | ⟨h, hk2⟩
    · exact cons_le.2 (.inl h)
    · refine cons_le.2 (.inr ⟨h, ?_⟩)
      rcases cons_le.1 hk2 with h2 | ⟨h2, hk3⟩
      · have := cmpL_append_lt (t1.tree z).code (t1.tree z').code hl (idx_lt g0.lt h1 h1' (by omega)); omega
      · have e : i = i' := by omega
        subst e
        rw [h1] at h1'
        cases h1'
        rw [cmpL_append_self]
        rcases cons_le.1 hk3 with h3 | ⟨h3, _⟩
        · have := idx_lt g1.lt h1b h1b' (by omega); omega
        · have e : k = k' := by omega
          subst e
          rw [h1b] at h1b'
          cases h1b'
          rw [cmpL_self]; exact Int.le_refl _
theorem TbS.good {d : Dt} {l rk : List Int} (hr : ∀ y ∈ rk, y ≤ 2) : ∀ {x : Tr} {tb : Tb}, TbS d l x tb → Tr.nodesErr rk x = 0 → TbG d l x tb := by
  intro x tb h
  induction h with
  | mk y ts R kids hl hk hR ih =>
    intro hv
    obtain ⟨h0, h1, h2⟩ := node_rank hv
    have hlt : y.toNat < rk.length := by omega
    have hle : ts.length ≤ 2 := by
      have := hr _ (List.getElem_mem hlt)
      have e : rk.getD y.toNat 0 = rk[y.toNat] := by simp [List.getD, hlt]
      omega
    have hg : ∀ i (h : i < ts.length) (h2 : i < kids.length), TbG d l ts[i] kids[i] := fun i h3 h4 => ih i h3 h4 (h2 _ (List.getElem_mem h3))
    refine TbG.of rfl ?_ hR
    match ts, kids, hl, hle, hg with
    | [], [], _, _, _ => exact cand0
    | [x0], [t0], _, _, hg => exact cand1 (hg 0 (by simp) (by simp))
    | [x0, x1], [t0, t1], _, _, hg => exact cand2 (hg 0 (by simp) (by simp)) (hg 1 (by simp) (by simp))
    | [], _ :: _, hl, _, _ => simp at hl
    | [_], [], hl, _, _ => simp at hl
    | [_], _ :: _ :: _, hl, _, _ => simp at hl
    | [_, _], [], hl, _, _ => simp at hl
    | [_, _], [_], hl, _, _ => simp at hl
    | [_, _], _ :: _ :: _ :: _, hl, _, _ => simp at hl
    | _ :: _ :: _ :: _, _, _, hle, _ => simp at hle
end Pal

/-
  The tables of a search in the heap. Own work. No statement of the seat is proved here.
-/
namespace Pal
open Go Go.Proofs Go.Proofs.X
/-- A map of choices. -/
def ChP (kvs : KVs) (f : Int → Option Ch) : Prop := (kvs.map (·.1)).Nodup ∧ ∀ q, lookI kvs q = (f q).map chV
theorem ChP.nil : ChP [] (fun _ => none) := ⟨by simp, fun q => by simp [lookI, findI]⟩
theorem ChP.set {kvs : KVs} {f : Int → Option Ch} (h : ChP kvs f) (q : Int) (c : Ch) : ChP (setI kvs q (chV c)) (updF f q c) := by
  refine ⟨setI_keys q _ h.1, fun x => ?_⟩
  rw [lookI_setI h.1]
  unfold updF
  by_cases e : q = x
  · rw [if_pos e.symm, if_pos e]; rfl
  · rw [if_neg (fun h => e h.symm), if_neg e]; exact h.2 x
theorem ChP.val {kvs : KVs} {f : Int → Option Ch} (h : ChP kvs f) (q : Int) : (lookI kvs q).getD (chV ch0) = chV ((f q).getD ch0) := by
  rw [h.2 q]; cases f q <;> rfl
theorem ChP.keys {kvs : KVs} {f : Int → Option Ch} (h : ChP kvs f) (q : Int) : q ∈ kvs.map (·.1) ↔ (f q).isSome = true := by
  rw [← lookI_isSome, h.2 q]; cases f q <;> simp
inductive RepTb (H : View) : Tb → Nat → Prop
  | mk (f : Int → Option Ch) (R : List Int) (kids : List Tb) (b m : Nat) (kvs : KVs) (a : Option Addr) (cap : Nat) (ps : Nat → Nat) (hb : At H b 0 [.slice a kids.length cap, mp m]) (hm : H m = some (mapOb kvs)) (hf : ChP kvs f)
      (hA : ∀ i, i < kids.length → ∃ cb off, a = some ⟨cb, off, none⟩ ∧ At H cb (off + i * 1) [ptr (ps i)]) (hr : ∀ i (h : i < kids.length), RepTb H kids[i] (ps i)) : RepTb H (.mk f R kids) b
theorem RepTb.mono {H H' : View} {tb : Tb} {b : Nat} (h : RepTb H tb b) (hle : VLe H H') : RepTb H' tb b := by
  induction h with
  | mk f R kids b m kvs a cap ps hb hm hf hA hr ih =>
    refine .mk f R kids b m kvs a cap ps (hb.mono hle) (hle _ _ hm) hf (fun i hi => ?_) fun i hi => ih i hi
    obtain ⟨cb, off, e, h⟩ := hA i hi
    exact ⟨cb, off, e, h.mono hle⟩
theorem RepTb.setR {H : View} {f : Int → Option Ch} {R R' : List Int} {kids : List Tb} {b : Nat} (h : RepTb H (.mk f R kids) b) : RepTb H (.mk f R' kids) b := by
  cases h with | mk _ _ _ _ m kvs a cap ps hb hm hf hA hr => exact .mk f R' kids b m kvs a cap ps hb hm hf hA hr
end Pal
namespace Pal
open Go Go.Proofs Go.Proofs.X
theorem consF_none {f : Int → Option Ch} {c : Ch} {q : Int} (h : f q = none) : consF f (c, q) = updF f q c := by simp [consF, h]
theorem consF_lt {f : Int → Option Ch} {c o : Ch} {q : Int} (h : f q = some o) (hl : cmpL (keyC c) (keyC o) < 0) : consF f (c, q) = updF f q c := by simp [consF, h, hl]
theorem consF_ge {f : Int → Option Ch} {c o : Ch} {q : Int} (h : f q = some o) (hl : ¬ cmpL (keyC c) (keyC o) < 0) : consF f (c, q) = f := by simp [consF, h, hl]
theorem ChP.look {kvs : KVs} {f : Int → Option Ch} (h : ChP kvs f) (q : Int) : (Value.tuple #[(lookI kvs q).getD (chV ch0), .bool (lookI kvs q).isSome]) = .tuple #[chV ((f q).getD ch0), .bool (f q).isSome] := by
  rw [h.val q, h.2 q]; cases f q <;> rfl
theorem atI_is {d : Dt} {s i : Int} (h : s.toNat < d.to.length) (h2 : i.toNat < (d.to[s.toNat]).length) : atI d s i = (d.to[s.toNat])[i.toNat] := by
  unfold atI
  simp [List.getD, h, h2]
theorem isR_of {kvs : KVs} {f : Int → Option Ch} (h : ChP kvs f) {ys : List Int} (hp : ys.Perm (kvs.map (·.1))) (hl : ys.Pairwise fun x y => cmpL (keyC ((f x).getD ch0)) (keyC ((f y).getD ch0)) ≤ 0) : IsR f ys :=
  ⟨hp.nodup_iff.2 h.1, fun q => hp.mem_iff.trans (h.keys q), hl⟩
end Pal

/-
  A search step by step: the tables asx they grow. Own work. No statement of the seat is proved here.
-/
namespace Pal
open Go Go.Proofs Go.Proofs.X
abbrev FC := Int → Option Ch
def f1 (d : Dt) (s : Int) (R : List Int) (F : FC) : Nat → FC
  | 0 => F
  | j + 1 => consF (f1 d s R F j) (⟨s, R.getD j 0, 0, (j : Int), 0⟩, atI d s (R.getD j 0))
def f2in (d : Dt) (s p : Int) (i : Nat) (T : List Int) (F : FC) : Nat → FC
  | 0 => F
  | k + 1 => consF (f2in d s p i T F k) (⟨s, p, T.getD k 0, (i : Int), (k : Int)⟩, atI d s (p * (d.acc.length : Int) + T.getD k 0))
def f2 (d : Dt) (s : Int) (R T : List Int) (F : FC) : Nat → FC
  | 0 => F
  | i + 1 => f2in d s (R.getD i 0) i T (f2 d s R T F i) T.length
def fS (d : Dt) (l : List Int) (y : Int) (Rs : List (List Int)) : Nat → FC
  | 0 => fun _ => none
  | i + 1 => (cands d ((srcs l y).getD i 0) Rs).foldl consF (fS d l y Rs i)
theorem zip_get {R : List Int} {j : Nat} (hj : j < R.length) : R.zipIdx[j]'(by simpa using hj) = (R[j], j) := by simp
theorem zip_take {R : List Int} {j : Nat} (hj : j < R.length) : R.zipIdx.take (j + 1) = R.zipIdx.take j ++ [(R[j], j)] := by
  rw [List.take_succ_eq_append_getElem (by simpa using hj), zip_get hj]
theorem f1_take (d : Dt) (s : Int) (R : List Int) (F : FC) : ∀ j, j ≤ R.length → f1 d s R F j = ((R.zipIdx.take j).map fun (x : Int × Nat) => ((⟨s, x.1, 0, (x.2 : Int), 0⟩ : Ch), atI d s x.1)).foldl consF F
  | 0, _ => by simp [f1]
  | j + 1, h => by
    have hg : R.getD j 0 = R[j] := by simp [List.getD, show j < R.length by omega]
    rw [f1, f1_take d s R F j (by omega), zip_take (by omega), List.map_append, List.foldl_append, hg]
    rfl
theorem f1_all (d : Dt) (s : Int) (R : List Int) (F : FC) : f1 d s R F R.length = (cands d s [R]).foldl consF F := by
  rw [f1_take d s R F _ (Nat.le_refl _), List.take_of_length_le (by simp)]; rfl
theorem f2in_take (d : Dt) (s p : Int) (i : Nat) (T : List Int) (F : FC) : ∀ k, k ≤ T.length → f2in d s p i T F k = ((T.zipIdx.take k).map fun (z : Int × Nat) => ((⟨s, p, z.1, (i : Int), (z.2 : Int)⟩ : Ch), atI d s (p * (d.acc.length : Int) + z.1))).foldl consF F
  | 0, _ => by simp [f2in]
  | k + 1, h => by
    have hg : T.getD k 0 = T[k] := by simp [List.getD, show k < T.length by omega]
    rw [f2in, f2in_take d s p i T F k (by omega), zip_take (by omega), List.map_append, List.foldl_append, hg]
    rfl
theorem f2_take (d : Dt) (s : Int) (R T : List Int) (F : FC) : ∀ i, i ≤ R.length → f2 d s R T F i = ((R.zipIdx.take i).flatMap fun (x : Int × Nat) => T.zipIdx.map fun (z : Int × Nat) => ((⟨s, x.1, z.1, (x.2 : Int), (z.2 : Int)⟩ : Ch), atI d s (x.1 * (d.acc.length : Int) + z.1))).foldl consF F
  | 0, _ => by simp [f2]
  | i + 1, h => by
    have hg : R.getD i 0 = R[i] := by simp [List.getD, show i < R.length by omega]
    have ht : T.zipIdx.take T.length = T.zipIdx := List.take_of_length_le (by simp)
    rw [f2, f2in_take _ _ _ _ _ _ _ (Nat.le_refl _), f2_take d s R T F i (by omega), zip_take (by omega), List.flatMap_append, List.foldl_append, hg, ht]
    simp
theorem f2_all (d : Dt) (s : Int) (R T : List Int) (F : FC) : f2 d s R T F R.length = (cands d s [R, T]).foldl consF F := by
  rw [f2_take d s R T F _ (Nat.le_refl _), List.take_of_length_le (by simp)]; rfl
theorem fS_take (d : Dt) (l : List Int) (y : Int) (Rs : List (List Int)) : ∀ i, i ≤ (srcs l y).length → fS d l y Rs i = (((srcs l y).take i).flatMap fun s => cands d s Rs).foldl consF fun _ => none
  | 0, _ => by simp [fS]
  | i + 1, h => by
    have hg : (srcs l y).getD i 0 = (srcs l y)[i] := by simp [List.getD, show i < (srcs l y).length by omega]
    rw [fS, fS_take d l y Rs i (by omega), List.take_succ_eq_append_getElem (by omega), List.flatMap_append, List.foldl_append, hg]
    simp
theorem fS_all (d : Dt) (l : List Int) (y : Int) (Rs : List (List Int)) : fS d l y Rs (srcs l y).length = fT d l y Rs := by
  rw [fS_take d l y Rs _ (Nat.le_refl _), List.take_length]; rfl
/-! ### Bounds -/
def Bd (d : Dt) (f : FC) : Prop := ∀ q, (f q).isSome = true → 0 ≤ q ∧ q < (d.acc.length : Int)
theorem Bd.none (d : Dt) : Bd d (fun _ => none) := fun q h => by cases h
theorem Bd.cons {d : Dt} {f : FC} (h : Bd d f) (c : Ch) {q : Int} (hq : 0 ≤ q ∧ q < (d.acc.length : Int)) : Bd d (consF f (c, q)) := by
  have hu : Bd d (updF f q c) := fun x hx => by
    unfold updF at hx
    split at hx
    · rename_i e; rw [← e]; exact hq
    · exact h x hx
  cases ho : f q with
  | none => rw [consF_none ho]; exact hu
  | some o =>
    by_cases hl : cmpL (keyC c) (keyC o) < 0
    · rw [consF_lt ho hl]; exact hu
    · rw [consF_ge ho hl]; exact h
theorem atI_bound {d : Dt} (hok : DtOk d) {s i : Int} (hs : s.toNat < d.to.length) (hi : i.toNat < (d.to.getD s.toNat []).length) : 0 ≤ atI d s i ∧ atI d s i < (d.acc.length : Int) := by
  have hg : d.to.getD s.toNat [] = d.to[s.toNat] := by simp [List.getD, hs]
  rw [hg] at hi
  rw [atI_is hs hi]
  exact hok.e _ (List.getElem_mem hs) _ (List.getElem_mem hi)
theorem row_len {d : Dt} (hok : DtOk d) {l rk : List Int} (hm : mapsM l d.ranks rk = true) {y s : Int} {n : Nat} (hs : s ∈ srcs l y) (hn : (n : Int) = rk.getD y.toNat 0) (hy : 0 ≤ y) : s.toNat < d.to.length ∧ (0 ≤ s ∧ s < (d.to.length : Int)) ∧ (d.to.getD s.toNat []).length = d.acc.length ^ n := by
  obtain ⟨h1, h2⟩ := mapsM_iff.1 hm
  obtain ⟨h3, h4⟩ := mem_srcs.1 hs
  have htl := hok.tl
  have hlt : s.toNat < l.length := by omega
  have hlt2 : s.toNat < d.ranks.length := by omega
  obtain ⟨h5, h6⟩ := h2 s.toNat hlt hlt2
  have e1 : l.getD s.toNat 0 = l[s.toNat] := by simp [List.getD, hlt]
  have e2 : d.ranks.getD s.toNat 0 = d.ranks[s.toNat] := by simp [List.getD, hlt2]
  refine ⟨by omega, by omega, ?_⟩
  rw [hok.w s.toNat hlt2]
  congr 1
  rw [e2, ← h6, ← e1, h4, ← hn]; omega
mutual
theorem valid_pre {d : Dt} {l rk : List Int} (hm : mapsM l d.ranks rk = true) : ∀ (x u : Tr), Tr.relabel l u = some x → Tr.nodesErr rk x = 0 → Tr.nodesErr d.ranks u = 0
  | .node y ts, .node s us, h, hv => by
    obtain ⟨ts', e, h0, h2⟩ := relabel_node h
    simp only [Tr.node.injEq] at e
    obtain ⟨rfl, rfl⟩ := e
    obtain ⟨g0, g1, g2⟩ := node_rank hv
    obtain ⟨h3, h4⟩ := mapsM_iff.1 hm
    have hlt : s.toNat < l.length := by omega
    have hlt2 : s.toNat < d.ranks.length := by omega
    have e1 : l.getD s.toNat 0 = l[s.toNat] := by simp [List.getD, hlt]
    have e2 : d.ranks.getD s.toNat 0 = d.ranks[s.toNat] := by simp [List.getD, hlt2]
    obtain ⟨k1, k2⟩ := valids_pre hm _ us h2 g2
    refine Tr.nodesErr_zero.2 ⟨by omega, ?_, k2⟩
    rw [e2, ← (h4 s.toNat hlt hlt2).2, ← e1, ← g1, k1]
theorem valids_pre {d : Dt} {l rk : List Int} (hm : mapsM l d.ranks rk = true) : ∀ (ts us : List Tr), Tr.relabels l us = some ts → (∀ t ∈ ts, Tr.nodesErr rk t = 0) → us.length = ts.length ∧ ∀ u ∈ us, Tr.nodesErr d.ranks u = 0
  | [], us, h, _ => by rw [relabels_nil h]; exact ⟨rfl, fun u hu => by cases hu⟩
  | t :: ts, us, h, hv => by
    obtain ⟨u, vs, rfl, h1, h2⟩ := relabels_cons h
    obtain ⟨k1, k2⟩ := valids_pre hm ts vs h2 fun x hx => hv x (List.mem_cons_of_mem _ hx)
    refine ⟨by simp [k1], fun x hx => ?_⟩
    rcases List.mem_cons.1 hx with rfl | hx
    · exact valid_pre hm t x h1 (hv t List.mem_cons_self)
    · exact k2 x hx
end
/-! ### Pointers in a row -/
def ptrs (ps : List Nat) : List Value := ps.map ptr
theorem ptrs_snoc (ps : List Nat) (p : Nat) : ptrs (ps ++ [p]) = ptrs ps ++ [ptr p] := by simp [ptrs]
theorem ptrs_at {H : View} {v : Value} {ps : List Nat} {a : Option Addr} {cap : Nat} (h : rowAt H v ps.length (ptrs ps)) (hv : v = .slice a ps.length cap) : ∀ i, i < ps.length → ∃ cb off, a = some ⟨cb, off, none⟩ ∧ At H cb (off + i * 1) [ptr (ps.getD i 0)] := by
  intro i hi
  obtain ⟨a', cap', e, h3⟩ := h.sl
  rw [hv] at e
  cases e
  rcases h3 with ⟨h0, _⟩ | ⟨b, off, rfl, hA⟩
  · omega
  · refine ⟨b, off, rfl, ?_⟩
    rw [Nat.mul_one]
    exact hA.one (by simp [ptrs, List.getD, hi])
def srcL (l rk : List Int) : List (List Int) := (List.range rk.length).map fun (y : Nat) => srcs l (y : Int)
theorem srcL_get {l rk : List Int} {y : Int} (h0 : 0 ≤ y) (h : y.toNat < (srcL l rk).length) : (srcL l rk)[y.toNat] = srcs l y := by
  simp only [srcL, List.getElem_map, List.getElem_range]
  rw [Int.toNat_of_nonneg h0]
theorem srcs_len (l : List Int) (y : Int) : (srcs l y).length ≤ l.length := by
  unfold srcs; rw [List.length_map]; exact Nat.le_trans (List.length_filter_le _ _) (by simp)
/-! ### A choice's children -/
theorem kid_some {d : Dt} {l : List Int} {y : Int} {kids : List Tb} {f : FC} (hf : f = fT d l y (kids.map Tb.R)) {q : Int} {c : Ch} (hc : f q = some c) (hl : kids.length ≤ 2) : ∀ i (h : i < kids.length), [c.p, c.q].getD i 0 ∈ (kids[i]).R := by
  obtain ⟨g1, _, _⟩ := fold_cons (allC d l y (kids.map Tb.R)) (fun _ => none)
  rw [hf] at hc
  have hin := (g1 q c hc).resolve_left (fun e => by cases e)
  obtain ⟨s, hs, hm⟩ := List.mem_flatMap.1 hin
  intro i hi
  match kids, hl, hi with
  | [t0], _, hi =>
    have : i = 0 := by simpa using hi
    subst this
    simp only [List.map_cons, List.map_nil, cands, List.mem_map, Prod.mk.injEq, Prod.exists, List.mem_zipIdx_iff_getElem?] at hm
    obtain ⟨p, j, h1, h2, _⟩ := hm
    subst h2
    exact List.mem_of_getElem? h1
  | [t0, t1], _, hi =>
    simp only [List.map_cons, List.map_nil, cands, List.mem_flatMap, List.mem_map, Prod.mk.injEq, Prod.exists, List.mem_zipIdx_iff_getElem?] at hm
    obtain ⟨p, j, h1, z, k, h2, h3, _⟩ := hm
    subst h3
    match i, hi with
    | 0, _ => exact List.mem_of_getElem? h1
    | 1, _ => exact List.mem_of_getElem? h2
theorem TbS.isR {d : Dt} {l : List Int} {x : Tr} {tb : Tb} (h : TbS d l x tb) : IsR tb.f tb.R := by cases h with | mk y ts R kids hl hk hR => exact hR
theorem kids_rep {V V2 : View} {kids : List Tb} {ps : List Nat} {t : Tb} {p : Nat} (h : ∀ i (hi : i < kids.length), RepTb V kids[i] (ps.getD i 0)) (hle : VLe V V2) (ht : RepTb V2 t p) (hl : kids.length = ps.length) : ∀ i (hi : i < (kids ++ [t]).length), RepTb V2 (kids ++ [t])[i] ((ps ++ [p]).getD i 0) := by
  intro i hi
  by_cases e : i < kids.length
  · have h1 := (h i e).mono hle
    have e1 : (ps ++ [p]).getD i 0 = ps.getD i 0 := by simp [List.getD, List.getElem?_append_left (show i < ps.length by omega)]
    rw [List.getElem_append_left e, e1]; exact h1
  · have e2 : i = kids.length := by simp at hi; omega
    subst e2
    have e1 : (ps ++ [p]).getD kids.length 0 = p := by simp [List.getD, hl]
    rw [List.getElem_append_right (Nat.le_refl _), e1]
    simpa using ht
theorem kids_tb {d : Dt} {l : List Int} {ts : List Tr} {kids : List Tb} {t : Tb} (h : ∀ i (h : i < ts.length) (h2 : i < kids.length), TbS d l ts[i] kids[i]) (hk : kids.length < ts.length) (ht : TbS d l ts[kids.length] t) : ∀ i (h : i < ts.length) (h2 : i < (kids ++ [t]).length), TbS d l ts[i] (kids ++ [t])[i] := by
  intro i hi h2
  by_cases e : i < kids.length
  · rw [List.getElem_append_left e]; exact h i hi e
  · have e2 : i = kids.length := by simp at h2; omega
    subst e2
    rw [List.getElem_append_right (Nat.le_refl _)]
    simpa using ht
theorem two_of {α : Type} {l : List α} (h : l.length = 2) : ∃ a b, l = [a, b] := by
  match l, h with
  | [a, b], _ => exact ⟨a, b, rfl⟩
/-! ### Rows of ints, all empty -/
def nilP : Rl × Value := (⟨0, [], 0⟩, nilS)
theorem rowsF_nil (ti : TypeId) (n : Nat) : rowsF ti 1 nilF n = rowsFrom ti (List.replicate n nilP) := by
  refine List.ext_getElem (by simp [rowsF, rowsFrom]) fun i h1 h2 => ?_
  simp [rowsF, rowsFrom, nilF, nilP, ints]
def headsP (ps : List (Rl × Value)) : Array Value := (ps.map (·.2)).toArray
theorem headsP_size (ps : List (Rl × Value)) : (headsP ps).size = ps.length := by simp [headsP]
theorem headsP_get {ps : List (Rl × Value)} {s off : Nat} (h : s < ps.length) (ho : off = s) : (headsP ps)[off]? = some ps[s].2 := by subst ho; simp [headsP, h]
theorem headsP_put {ps : List (Rl × Value)} {s off : Nat} {r : Rl} {a : Option Addr} {k cap : Nat} (h : s < ps.length) (ho : off = s) : putCells (headsP ps) off (Value.slice a k cap).cells.toList = headsP (ps.take s ++ (r, .slice a k cap) :: ps.drop (s + 1)) := by
  subst ho
  have e : putCells (headsP ps) off (Value.slice a k cap).cells.toList = (headsP ps).setIfInBounds off (.slice a k cap) := putCells_one (by rw [headsP_size]; exact h)
  rw [e, set_mid h]
  simp [headsP, List.map_set]
theorem headsP_made (n : Nat) : madeCells #[nilS] (n * 1) = headsP (List.replicate n nilP) := by
  rw [madeNil]; simp [headsF, headsP, nilF, nilP]
  rw [List.map_const']; simp
section rules
variable {P : Program} {n : Nat} {c : Cx} {Q : Exit → Act → World → Prop} {l : KL} {hl : HL} {H : View}
theorem KQ_nilmany {x : Exit} (ti : TypeId) (m : Nat) (h : KQ n c Q x l (many (rowsFrom ti (List.replicate m nilP)) :: hl) H) : KQ n c Q x l hl H := by
  intro ρ w hm ho
  have h1 := ho.nilrows ti 1 m
  rw [rowsF_nil] at h1
  exact h ρ w hm ((h1.perm List.perm_append_comm).many_in)
end rules
/-- The symbols below k that go to s. -/
def srcTo (l : List Int) (s k : Nat) : List Int := ((List.range k).filter fun (i : Nat) => decide (l.getD i 0 = (s : Int))).map fun (i : Nat) => (i : Int)
theorem srcTo_succ (l : List Int) (s k : Nat) : srcTo l s (k + 1) = srcTo l s k ++ if l.getD k 0 = (s : Int) then [(k : Int)] else [] := by
  unfold srcTo
  rw [List.range_succ, List.filter_append, List.map_append]
  by_cases h : l.getD k 0 = (s : Int)
  · rw [if_pos h, List.filter_cons, decide_eq_true h]; rfl
  · rw [if_neg h, List.filter_cons, decide_eq_false h]; rfl
theorem srcTo_len (l : List Int) (s k : Nat) : (srcTo l s k).length ≤ k := by
  unfold srcTo; rw [List.length_map]; exact Nat.le_trans (List.length_filter_le _ _) (by simp)
theorem srcTo_all (l : List Int) (s : Nat) : srcTo l s l.length = srcs l (s : Int) := rfl
theorem srcTo_mem {l : List Int} {s k : Nat} {x : Int} (h : x ∈ srcTo l s k) : 0 ≤ x ∧ x < (k : Int) := by
  obtain ⟨i, hi, rfl⟩ := List.mem_map.1 h
  have := List.mem_range.1 (List.mem_filter.1 hi).1
  omega
/-- The rows of sources asx far asx k. -/
structure SrcOk (l : List Int) (n k : Nat) (ps : List (Rl × Value)) : Prop where
  len : ps.length = n
  row : ∀ s (h : s < ps.length), (ps[s]).1 = ⟨0, srcTo l s k, 0⟩
theorem SrcOk.nil (l : List Int) (n : Nat) : SrcOk l n 0 (List.replicate n nilP) := ⟨by simp, fun s h => by simp [nilP, srcTo]⟩
theorem SrcOk.step {l : List Int} {n k : Nat} {ps : List (Rl × Value)} (h : SrcOk l n k ps) {s : Nat} (hs : s < ps.length) (hk : l.getD k 0 = (s : Int)) (v : Value) : SrcOk l n (k + 1) (ps.take s ++ (⟨0, (ps[s]).1.args ++ [(k : Int)], 0⟩, v) :: ps.drop (s + 1)) := by
  refine ⟨by rw [mid_len hs]; exact h.len, fun t ht => ?_⟩
  rw [mid_len hs] at ht
  by_cases e : t = s
  · subst e
    rw [mid_get hs, srcTo_succ, if_pos hk, h.row t hs]
  · have e1 : (ps.take s ++ ((⟨0, (ps[s]).1.args ++ [(k : Int)], 0⟩ : Rl), v) :: ps.drop (s + 1))[t]'(by rw [mid_len hs]; exact ht) = ps[t] := by
      have := set_mid hs ((⟨0, (ps[s]).1.args ++ [(k : Int)], 0⟩ : Rl), v)
      simp only [this]
      rw [List.getElem_set_ne (fun h => e h.symm)]
    rw [e1, srcTo_succ, if_neg (by omega), List.append_nil]
    exact h.row t ht
theorem SrcOk.bounds {l : List Int} {n k : Nat} {ps : List (Rl × Value)} (h : SrcOk l n k ps) (hk : k ≤ 1048576) : ∀ p ∈ ps, RlB p.1 := by
  intro p hp
  obtain ⟨s, hs, rfl⟩ := List.getElem_of_mem hp
  rw [h.row s hs]
  refine ⟨Nat.le_trans (srcTo_len l s k) (by omega), by show i64ok 0; simp [i64ok], by show i64ok 0; simp [i64ok], fun x hx => ?_⟩
  have := srcTo_mem hx
  simp only [i64ok]; omega
theorem SrcOk.ssi {l rk : List Int} {ps : List (Rl × Value)} {H : View} {b cap : Nat} (h : SrcOk l rk.length l.length ps) (hb : At H b 0 (headsP ps).toList) (hv : ∀ p ∈ ps, RVok H p) : SSI H (.slice (some ⟨b, 0, none⟩) (srcL l rk).length cap) (srcL l rk) := by
  have hl : (srcL l rk).length = ps.length := by rw [h.len]; simp [srcL]
  refine ⟨ps.map (·.2), ?_, ?_⟩
  · exact ⟨_, _, rfl, .inr ⟨b, 0, rfl, by simpa [headsP] using hb⟩⟩
  · have e : srcL l rk = ps.map fun p => p.1.args := by
      refine List.ext_getElem (by rw [hl, List.length_map]) fun s h1 h2 => ?_
      have hs : s < ps.length := by rw [← hl]; exact h1
      rw [List.getElem_map, h.row s hs]
      simp [srcL, srcTo_all]
    rw [e]
    have key : ∀ qs : List (Rl × Value), (∀ p ∈ qs, RVok H p) → RepL (RSI H) 1 (qs.map fun p => p.1.args) (qs.map (·.2)) := by
      intro qs
      induction qs with
      | nil => intro _; exact .nil
      | cons q qs ih =>
        intro hq
        exact .cons (cs := [q.2]) ⟨q.2, rfl, (hq q List.mem_cons_self).1⟩ rfl (ih fun p hp => hq p (List.mem_cons_of_mem _ hp))
    exact key ps hv
theorem trees_len : ∀ (ts : List Tb) (qs : List Int), (Tb.trees ts qs).length = ts.length
  | [], _ => rfl
  | t :: ts, q :: qs => by rw [Tb.trees, List.length_cons, trees_len ts qs, List.length_cons]
  | t :: ts, [] => by rw [Tb.trees, List.length_cons, trees_len ts [], List.length_cons]
theorem trees_get : ∀ (ts : List Tb) (qs : List Int) (k : Nat) (h : k < ts.length), (Tb.trees ts qs)[k]'(by rw [trees_len]; exact h) = (ts[k]).tree (qs.getD k 0)
  | t :: ts, q :: qs, 0, _ => rfl
  | t :: ts, q :: qs, k + 1, h => by
    have := trees_get ts qs k (by simpa using h)
    simpa [Tb.trees] using this
  | t :: ts, [], 0, _ => rfl
  | t :: ts, [], k + 1, h => by
    have := trees_get ts [] k (by simpa using h)
    simpa [Tb.trees] using this
theorem ch_cell (c : Ch) {k : Nat} (h : k < 2) : (#[.int .i64 c.s, .int .i64 c.p, .int .i64 c.q, .int .i64 c.i, .int .i64 c.k] : Array Value)[0 + 1 + (k : Int).toNat * 1]? = some (.int .i64 ([c.p, c.q].getD k 0)) := by
  match k, h with
  | 0, _ => rfl
  | 1, _ => rfl
theorem cand_src {d : Dt} {l : List Int} {y : Int} {Rs : List (List Int)} {f : FC} (hf : f = fT d l y Rs) {q : Int} {c : Ch} (hc : f q = some c) : c.s ∈ srcs l y := by
  obtain ⟨g1, _, _⟩ := fold_cons (allC d l y Rs) (fun _ => none)
  rw [hf] at hc
  have hin := (g1 q c hc).resolve_left (fun e => by cases e)
  obtain ⟨s, hs, hm⟩ := List.mem_flatMap.1 hin
  have : c.s = s := by
    match Rs, hm with
    | [], hm => simp only [cands, List.mem_singleton, Prod.mk.injEq] at hm; rw [hm.1]
    | [R], hm =>
      simp only [cands, List.mem_map, Prod.mk.injEq, Prod.exists] at hm
      obtain ⟨p, j, _, h2, _⟩ := hm
      rw [← h2]
    | R :: T :: _, hm =>
      simp only [cands, List.mem_flatMap, List.mem_map, Prod.mk.injEq, Prod.exists] at hm
      obtain ⟨p, j, _, z, k, _, h3, _⟩ := hm
      rw [← h3]
  rw [this]; exact hs
/-! ### The answer -/
def witErr (d : Dt) (l rk : List Int) (t : Tr) : Int := if dtErr d ≠ 0 then dtErr d else if ranksErr rk ≠ 0 then ranksErr rk else if mapsM l d.ranks rk = true then validErr rk t else 3
def accU (d : Dt) (u : Tr) : Bool := d.acc.getD (u.run d).toNat false
def IsWit (d : Dt) (l : List Int) (t : Tr) : Option Tr → Prop
  | none => ∀ u, Tr.relabel l u = some t → accU d u = false
  | some w => (Tr.relabel l w = some t ∧ accU d w = true) ∧ ∀ u, Tr.relabel l u = some t → accU d u = true → cmpL w.code u.code ≤ 0
theorem IsWit.uniq {d : Dt} {l : List Int} {t : Tr} : ∀ {o o' : Option Tr}, IsWit d l t o → IsWit d l t o' → o = o'
  | none, none, _, _ => rfl
  | none, some w, h, h' => by have := h w h'.1.1; rw [h'.1.2] at this; cases this
  | some w, none, h, h' => by have := h' w h.1.1; rw [h.1.2] at this; cases this
  | some w, some w', h, h' => by
    have h1 := h.2 w' h'.1.1 h'.1.2
    have h2 := h'.2 w h.1.1 h.1.2
    rw [cmpL_swap] at h2
    rw [code_inj t w w' h.1.1 h'.1.1 (cmpL_eq.1 (by omega))]
theorem wit_some {d : Dt} {l : List Int} {t : Tr} {tb : Tb} (g : TbG d l t tb) {j : Nat} (hj : j < tb.R.length) (hno : ∀ i (h : i < tb.R.length), i < j → d.acc.getD (tb.R[i]).toNat false = false) (hyes : d.acc.getD (tb.R[j]).toNat false = true) : IsWit d l t (some (tb.tree tb.R[j])) := by
  obtain ⟨h1, h2⟩ := g.is _ ((g.mem _).1 (List.getElem_mem hj))
  refine ⟨⟨h1, by unfold accU; rw [h2]; exact hyes⟩, fun u hu ha => ?_⟩
  obtain ⟨h3, h4⟩ := g.has u hu
  obtain ⟨i, hi⟩ := mem_idx ((g.mem _).2 h3)
  obtain ⟨hi2, e⟩ := List.getElem?_eq_some_iff.1 hi
  rcases Nat.lt_trichotomy i j with h | h | h
  · have := hno i hi2 h
    rw [e] at this
    unfold accU at ha
    rw [this] at ha; cases ha
  · subst h
    rw [e]; exact h4
  · have := idx_lt g.lt (List.getElem?_eq_getElem hj) hi h
    exact cmpL_le_trans (by omega) h4
theorem wit_none {d : Dt} {l : List Int} {t : Tr} {tb : Tb} (g : TbG d l t tb) (hno : ∀ i (h : i < tb.R.length), d.acc.getD (tb.R[i]).toNat false = false) : IsWit d l t none := by
  intro u hu
  obtain ⟨i, hi⟩ := mem_idx ((g.mem _).2 (g.has u hu).1)
  obtain ⟨hi2, e⟩ := List.getElem?_eq_some_iff.1 hi
  have := hno i hi2
  rw [e] at this
  exact this
section rules
variable {P : Program} {n : Nat} {c : Cx} {Q : Exit → Act → World → Prop} {l : KL} {hl : HL} {H : View}
theorem KQ_putrowE {x : Exit} {ti : TypeId} {en : Own} (A B : List (Rl × Value)) (p : Rl × Value) (he : en = row p.2 ti 1 p.1.args.length (ints p.1.args)) (h : KQ n c Q x l (many (rowsFrom ti (A ++ p :: B)) :: hl) H) : KQ n c Q x l (en :: many (rowsFrom ti (A ++ B)) :: hl) H := by
  subst he
  exact KQ_putrow A B p h
end rules
end Pal

/-
  All preimages, asx the reference goes through them, and the least of a list. Own work. No statement of the seat is proved here.
-/
namespace Pal
open Go Go.Proofs Go.Proofs.X
def stepA (l : List Int) (acc : List (List Tr)) (t : Tr) : List (List Tr) := acc.flatMap fun us => (preT l t).map fun u => us ++ [u]
theorem preTs_fold (l : List Int) : ∀ (ts : List Tr) (acc : List (List Tr)), preTs l ts acc = ts.foldl (stepA l) acc
  | [], acc => by rw [preTs]; rfl
  | t :: ts, acc => by rw [preTs, preTs_fold l ts]; rfl
def accL (l : List Int) (ts : List Tr) (i : Nat) : List (List Tr) := (ts.take i).foldl (stepA l) [[]]
theorem accL_succ (l : List Int) {ts : List Tr} {i : Nat} (hi : i < ts.length) : accL l ts (i + 1) = stepA l (accL l ts i) ts[i] := by
  unfold accL
  rw [List.take_succ_eq_append_getElem hi, List.foldl_append]; rfl
def moreL (P : List Tr) (acc : List (List Tr)) (j : Nat) : List (List Tr) := (acc.take j).flatMap fun us => P.map fun u => us ++ [u]
def moreK (P : List Tr) (us : List Tr) (k : Nat) : List (List Tr) := (P.take k).map fun u => us ++ [u]
theorem moreL_succ (P : List Tr) {acc : List (List Tr)} {j : Nat} (hj : j < acc.length) : moreL P acc (j + 1) = moreL P acc j ++ moreK P acc[j] P.length := by
  unfold moreL moreK
  rw [List.take_succ_eq_append_getElem hj, List.flatMap_append, List.take_length]
  simp
theorem moreK_succ {P : List Tr} (us : List Tr) {k : Nat} (hk : k < P.length) : moreK P us (k + 1) = moreK P us k ++ [us ++ [P[k]]] := by
  unfold moreK
  rw [List.take_succ_eq_append_getElem hk, List.map_append]; rfl
theorem moreL_all (l : List Int) (acc : List (List Tr)) (t : Tr) : moreL (preT l t) acc acc.length = stepA l acc t := by
  unfold moreL stepA; rw [List.take_length]
theorem moreL_len (P : List Tr) (acc : List (List Tr)) (j : Nat) : (moreL P acc j).length ≤ acc.length * P.length := by
  have h : ∀ A : List (List Tr), (A.flatMap fun us => P.map fun u => us ++ [u]).length = A.length * P.length := by
    intro A
    induction A with
    | nil => simp
    | cons a A ih => rw [List.flatMap_cons, List.length_append, ih, List.length_map, List.length_cons, Nat.succ_mul]; omega
  unfold moreL
  rw [h, List.length_take]
  exact Nat.mul_le_mul_right _ (Nat.min_le_right _ _)
theorem moreJ_len {P : List Tr} {acc : List (List Tr)} {j k : Nat} (hj : j < acc.length) (hk : k ≤ P.length) : (moreL P acc j).length + k ≤ acc.length * P.length := by
  have h := moreL_len P acc (j + 1)
  rw [moreL_succ P hj, List.length_append] at h
  have e : (moreK P acc[j] P.length).length = P.length := by unfold moreK; simp
  omega
def srcT (l : List Int) (y : Int) (k : Nat) : List Int := ((List.range k).filter fun (s : Nat) => decide (l.getD s 0 = y)).map fun (s : Nat) => (s : Int)
theorem srcT_succ (l : List Int) (y : Int) (k : Nat) : srcT l y (k + 1) = srcT l y k ++ if l.getD k 0 = y then [(k : Int)] else [] := by
  unfold srcT
  rw [List.range_succ, List.filter_append, List.map_append]
  by_cases h : l.getD k 0 = y
  · rw [if_pos h, List.filter_cons, decide_eq_true h]; rfl
  · rw [if_neg h, List.filter_cons, decide_eq_false h]; rfl
def outL (l : List Int) (y : Int) (ts : List Tr) (k : Nat) : List Tr := (srcT l y k).flatMap fun s => (accL l ts ts.length).map (Tr.node s)
theorem outL_yes {l : List Int} {y : Int} {ts : List Tr} {k : Nat} (h : l.getD k 0 = y) : outL l y ts (k + 1) = outL l y ts k ++ (accL l ts ts.length).map (Tr.node (k : Int)) := by
  unfold outL
  rw [srcT_succ, if_pos h, List.flatMap_append]; simp
theorem outL_no {l : List Int} {y : Int} {ts : List Tr} {k : Nat} (h : ¬ l.getD k 0 = y) : outL l y ts (k + 1) = outL l y ts k := by
  unfold outL
  rw [srcT_succ, if_neg h, List.append_nil]
theorem outL_all (l : List Int) (y : Int) (ts : List Tr) : outL l y ts l.length = preT l (.node y ts) := by
  unfold outL
  rw [preT, preTs_fold]
  unfold accL
  rw [List.take_length]; rfl
theorem srcT_len (l : List Int) (y : Int) (k : Nat) : (srcT l y k).length ≤ k := by
  unfold srcT; rw [List.length_map]; exact Nat.le_trans (List.length_filter_le _ _) (by simp)
theorem outL_len (l : List Int) (y : Int) (ts : List Tr) (k : Nat) : (outL l y ts k).length ≤ k * (accL l ts ts.length).length := by
  have h : ∀ A : List Int, (A.flatMap fun s => (accL l ts ts.length).map (Tr.node s)).length = A.length * (accL l ts ts.length).length := by
    intro A
    induction A with
    | nil => simp
    | cons a A ih => rw [List.flatMap_cons, List.length_append, ih, List.length_map, List.length_cons, Nat.succ_mul]; omega
  unfold outL
  rw [h]
  exact Nat.mul_le_mul_right _ (srcT_len l y k)
theorem stepA_len (l : List Int) (acc : List (List Tr)) (t : Tr) : (stepA l acc t).length ≤ acc.length * (preT l t).length := by rw [← moreL_all]; exact moreL_len _ _ _
mutual
theorem preT_len {l : List Int} (h8 : l.length ≤ 8) : ∀ t : Tr, (preT l t).length ≤ 8 ^ t.size
  | .node y ts => by
    have h1 := outL_len l y ts l.length
    rw [outL_all] at h1
    have h2 := accs_len h8 ts [[]]
    have e : accL l ts ts.length = ts.foldl (stepA l) [[]] := by unfold accL; rw [List.take_length]
    rw [e] at h1
    have h3 : (Tr.node y ts).size = 1 + Tr.sizes ts := rfl
    rw [h3, Nat.pow_add, Nat.pow_one]
    refine Nat.le_trans h1 (Nat.mul_le_mul h8 ?_)
    simpa using h2
theorem accs_len {l : List Int} (h8 : l.length ≤ 8) : ∀ (ts : List Tr) (acc : List (List Tr)), (ts.foldl (stepA l) acc).length ≤ acc.length * 8 ^ Tr.sizes ts
  | [], acc => by simp [Tr.sizes]
  | t :: ts, acc => by
    have h1 := accs_len h8 ts (stepA l acc t)
    have h2 := stepA_len l acc t
    have h3 := preT_len h8 t
    rw [List.foldl_cons, Tr.sizes, Nat.pow_add, ← Nat.mul_assoc]
    exact Nat.le_trans h1 (Nat.mul_le_mul_right _ (Nat.le_trans h2 (Nat.mul_le_mul_left _ h3)))
end
theorem accL_len {l : List Int} (h8 : l.length ≤ 8) (ts : List Tr) (i : Nat) : (accL l ts i).length ≤ 8 ^ Tr.sizes (ts.take i) := by
  have := accs_len h8 (ts.take i) [[]]
  simpa [accL] using this
theorem pow8 {n : Nat} (h : n ≤ 6) : 8 ^ n ≤ 262144 := Nat.le_trans (Nat.pow_le_pow_right (by decide) h) (by decide)
/-! ### The least of a list -/
def bestV : Option Nat → Int
  | none => -1
  | some b => (b : Int)
def BestI (d : Dt) (L : List Tr) (i : Nat) : Option Nat → Prop
  | none => ∀ k (h : k < L.length), k < i → accU d L[k] = false
  | some b => ∃ hb : b < L.length, b < i ∧ accU d L[b] = true ∧ ∀ k (h : k < L.length), k < i → accU d L[k] = true → cmpL (L[b]).code (L[k]).code ≤ 0
theorem BestI.zero (d : Dt) (L : List Tr) : BestI d L 0 none := fun k _ h => absurd h (Nat.not_lt_zero _)
theorem BestI.skip {d : Dt} {L : List Tr} {i : Nat} (hi : i < L.length) (ha : accU d L[i] = false) : ∀ {o : Option Nat}, BestI d L i o → BestI d L (i + 1) o
  | none, h => fun k hk h2 => by
    by_cases e : k = i
    · subst e; exact ha
    · exact h k hk (by omega)
  | some b, ⟨hb, h1, h2, h3⟩ => ⟨hb, by omega, h2, fun k hk h4 h5 => by
    by_cases e : k = i
    · subst e; rw [ha] at h5; cases h5
    · exact h3 k hk (by omega) h5⟩
theorem BestI.first {d : Dt} {L : List Tr} {i : Nat} (hi : i < L.length) (ha : accU d L[i] = true) (h : BestI d L i none) : BestI d L (i + 1) (some i) :=
  ⟨hi, by omega, ha, fun k hk h4 h5 => by
    by_cases e : k = i
    · subst e; rw [cmpL_self]; exact Int.le_refl _
    · have := h k hk (by omega); rw [this] at h5; cases h5⟩
theorem BestI.less {d : Dt} {L : List Tr} {i b : Nat} (hi : i < L.length) (ha : accU d L[i] = true) (hb : b < L.length) (hl : cmpL (L[i]).code (L[b]).code < 0) (h : BestI d L i (some b)) : BestI d L (i + 1) (some i) := by
  obtain ⟨_, h1, h2, h3⟩ := h
  refine ⟨hi, by omega, ha, fun k hk h4 h5 => ?_⟩
  by_cases e : k = i
  · subst e; rw [cmpL_self]; exact Int.le_refl _
  · exact cmpL_le_trans (by omega) (h3 k hk (by omega) h5)
theorem BestI.stay {d : Dt} {L : List Tr} {i b : Nat} (hi : i < L.length) (hb : b < L.length) (hl : ¬ cmpL (L[i]).code (L[b]).code < 0) (h : BestI d L i (some b)) : BestI d L (i + 1) (some b) := by
  obtain ⟨_, h1, h2, h3⟩ := h
  refine ⟨hb, by omega, h2, fun k hk h4 h5 => ?_⟩
  by_cases e : k = i
  · subst e; rw [cmpL_swap]; omega
  · exact h3 k hk (by omega) h5
theorem BestI.wit {d : Dt} {l : List Int} {t : Tr} : ∀ {o : Option Nat}, BestI d (preT l t) (preT l t).length o → IsWit d l t (o.bind fun b => (preT l t)[b]?)
  | none, h => fun u hu => by
    obtain ⟨k, hk, rfl⟩ := List.getElem_of_mem ((mem_preT t u).2 hu)
    exact h k hk hk
  | some b, ⟨hb, h1, h2, h3⟩ => by
    have e : ((some b).bind fun b => (preT l t)[b]?) = some (preT l t)[b] := by simp [hb]
    rw [e]
    refine ⟨⟨(mem_preT t _).1 (List.getElem_mem hb), h2⟩, fun u hu ha => ?_⟩
    obtain ⟨k, hk, rfl⟩ := List.getElem_of_mem ((mem_preT t u).2 hu)
    exact h3 k hk hk ha
end Pal
namespace Pal
open Go Go.Proofs Go.Proofs.X
theorem At.flat {H : View} {b off n sz : Nat} {f : Nat → List Value} (hsz : ∀ i, (f i).length = sz) (hn : 0 < n) (hz : 0 < sz) (h : ∀ i, i < n → At H b (off + i * sz) (f i)) : At H b off ((List.range n).flatMap f) := by
  obtain ⟨c, T, fz, e, _⟩ := h 0 hn
  refine ⟨c, T, fz, e, fun j v hj => ?_⟩
  have hl : ((List.range n).flatMap f).length = n * sz := by rw [flat_lenN hsz, List.length_range]
  have hjl : j < n * sz := by rw [← hl]; exact (List.getElem?_eq_some_iff.1 hj).1
  have hi : j / sz < n := by rw [Nat.div_lt_iff_lt_mul hz]; exact hjl
  have hm : j % sz < (f (j / sz)).length := by rw [hsz]; exact Nat.mod_lt _ hz
  have hrl : j / sz < (List.range n).length := by simpa using hi
  have h1 := flat_cell hsz (qs := List.range n) (k := j / sz) (j := j % sz) (off := j / sz * sz + j % sz) (v := (f (j / sz))[j % sz]) hrl rfl [] (by rw [List.getElem_range]; exact List.getElem?_eq_getElem hm)
  rw [List.append_nil, List.getElem?_toArray, Nat.mul_comm, Nat.div_add_mod] at h1
  rw [h1] at hj
  cases hj
  obtain ⟨c', T', fz', e', h2⟩ := h (j / sz) hi
  rw [e] at e'
  cases e'
  have h3 := h2 (j % sz) _ (List.getElem?_eq_getElem hm)
  have e2 : off + j / sz * sz + j % sz = off + j := by
    have := Nat.div_add_mod j sz
    rw [Nat.mul_comm] at this
    omega
  rwa [e2] at h3
theorem RepL.fn {R : Tr → List Value → Prop} {sz : Nat} {ts : List Tr} {f : Nat → List Value} (h : ∀ i (hi : i < ts.length), R ts[i] (f i) ∧ (f i).length = sz) : RepL R sz ts ((List.range ts.length).flatMap f) := by
  have key : ∀ k, k ≤ ts.length → RepL R sz (ts.take k) ((List.range k).flatMap f) := by
    intro k
    induction k with
    | zero => intro _; exact .nil
    | succ k ih =>
      intro hk
      rw [List.take_succ_eq_append_getElem (by omega), List.range_succ, List.flatMap_append]
      have := (ih (by omega)).snoc (h k (by omega)).1 (h k (by omega)).2
      simpa using this
  have := key ts.length (Nat.le_refl _)
  rwa [List.take_length] at this
theorem _root_.Pal.RepT.inv {H : View} {s : Int} {ts : List Tr} {cs : List Value} (h : RepT H (.node s ts) cs) : ∃ a cap cells, cs = [.int .i64 s, .slice a ts.length cap] ∧ SlAt H (.slice a ts.length cap) ts.length cells ∧ RepL (RepT H) 2 ts cells ∧ i64ok s := by
  cases h with | mk _ _ a cap b off cs' hs ha hA hr =>
  let f : Nat → List Value := fun i => if i < ts.length then cs' i else [.int .i64 0, .int .i64 0]
  have hf : ∀ i, i < ts.length → f i = cs' i := fun i hi => if_pos hi
  have hsz : ∀ i, (f i).length = 2 := fun i => by
    by_cases hi : i < ts.length
    · rw [hf i hi]; exact (hA i hi).1
    · show (if i < ts.length then cs' i else _).length = 2
      rw [if_neg hi]; rfl
  refine ⟨a, cap, (List.range ts.length).flatMap f, rfl, ?_, RepL.fn fun i hi => ⟨by rw [hf i hi]; exact hr i hi, hsz i⟩, hs⟩
  by_cases hn : ts = []
  · subst hn
    exact ⟨_, _, rfl, .inl ⟨rfl, rfl⟩⟩
  · refine ⟨_, _, rfl, .inr ⟨b, off, ha hn, At.flat hsz (List.length_pos_iff.2 hn) (by decide) fun i hi => ?_⟩⟩
    rw [hf i hi]; exact (hA i hi).2
end Pal
namespace Pal
open Go Go.Proofs Go.Proofs.X
theorem acc_mul {l : List Int} (h8 : l.length ≤ 8) {ts : List Tr} (hs : Tr.sizes ts ≤ 6) {i : Nat} (hi : i < ts.length) : (accL l ts i).length * (preT l ts[i]).length ≤ 262144 := by
  have h1 := accL_len h8 ts i
  have h2 := preT_len h8 ts[i]
  have h3 := Tr.sizes_take ts i hi
  have h4 := Tr.sizes_take_le ts (i + 1)
  refine Nat.le_trans (Nat.mul_le_mul h1 h2) ?_
  rw [← Nat.pow_add]
  exact pow8 (by omega)
theorem acc_b {l : List Int} (h8 : l.length ≤ 8) {ts : List Tr} (hs : Tr.sizes ts ≤ 6) (i : Nat) : (accL l ts i).length ≤ 262144 :=
  Nat.le_trans (accL_len h8 ts i) (pow8 (by have := Tr.sizes_take_le ts i; omega))
theorem acc_item {l : List Int} {ts : List Tr} : ∀ {i : Nat}, i ≤ ts.length → ∀ us ∈ accL l ts i, us.length = i
  | 0, _, us, h => by simp [accL] at h; subst h; rfl
  | i + 1, hi, us, h => by
    rw [accL_succ l (by omega)] at h
    obtain ⟨vs, h1, h2⟩ := List.mem_flatMap.1 h
    obtain ⟨u, _, rfl⟩ := List.mem_map.1 h2
    rw [List.length_append, acc_item (by omega) vs h1]; rfl
theorem out_b {l : List Int} (h8 : l.length ≤ 8) {ts : List Tr} (hs : Tr.sizes ts ≤ 6) {y : Int} {s : Nat} (h : s ≤ 8) : (outL l y ts s).length ≤ 2097152 :=
  Nat.le_trans (outL_len l y ts s) (Nat.le_trans (Nat.mul_le_mul h (acc_b h8 hs ts.length)) (by decide))
theorem moreK_len (P : List Tr) (us : List Tr) : (moreK P us P.length).length = P.length := by simp [moreK]
end Pal

/-
  DERIVED: THE SHELF's CONTRACTS AT THIS DUMP, IN PLAIN WORDS (tools/lay-plain.mjs out of 'LayZDs.lean', which tools/lay-shelf.mjs wrote): THE SAME DECLARATIONS UNDER THE SAME NAMES: 'import', 'namespace', 'open', 'def', 'theorem' AND NOTHING ELSE: no command of the shelf's: FOR A HAND-IN. Each laying: the table of numbers ('.._ren') and one theorem, a field a fact of the dump's own or the kernel's comparison; each contract: ONE APPLICATION.
-/
namespace Go.Proofs
open Go.Shelf
def Tryz.layW_ren : Go.Shelf.Ren := ⟨fun | 6 => 78 | 15 => 109 | 14 => 108 | 28 => 139 | 29 => 140 | 20 => 131 | 21 => 132 | 22 => 133 | 23 => 134 | 24 => 135 | 25 => 136 | 26 => 137 | 27 => 138 | 46 => 160 | 47 => 161 | 48 => 162 | 49 => 163 | 50 => 164 | 57 => 181 | n => n, fun | 22 => 22 | 24 => 3 | 25 => 91 | 3 => 3 | 39 => 173 | 0 => 0 | 53 => 195 | 55 => 97 | 4 => 4 | 46 => 189 | 45 => 188 | 50 => 185 | 5 => 5 | 9 => 9 | 66 => 212 | 70 => 216 | 76 => 230 | 77 => 141 | n => n, fun | n => n⟩
theorem Tryz.layW : Go.Proofs.SlLaysF.n6 Tryz.prog Tryz.layW_ren := {
  mixed := by kernel_rfl
  f6 := ⟨Tryz.f78.name, by decide, Tryz.func78.trans (congrArg some (by kernel_rfl))⟩
  f14 := ⟨Tryz.f108.name, by decide, Tryz.func108.trans (congrArg some (by kernel_rfl))⟩
  f15 := Tryz.func109.trans (congrArg some (by kernel_rfl))
  f20 := ⟨Tryz.f131.name, by decide, Tryz.func131.trans (congrArg some (by kernel_rfl))⟩
  f21 := ⟨Tryz.f132.name, by decide, Tryz.func132.trans (congrArg some (by kernel_rfl))⟩
  f22 := ⟨Tryz.f133.name, by decide, Tryz.func133.trans (congrArg some (by kernel_rfl))⟩
  f23 := ⟨Tryz.f134.name, by decide, Tryz.func134.trans (congrArg some (by kernel_rfl))⟩
  f24 := ⟨Tryz.f135.name, by decide, Tryz.func135.trans (congrArg some (by kernel_rfl))⟩
  f25 := ⟨Tryz.f136.name, by decide, Tryz.func136.trans (congrArg some (by kernel_rfl))⟩
  f26 := ⟨Tryz.f137.name, by decide, Tryz.func137.trans (congrArg some (by kernel_rfl))⟩
  f27 := ⟨Tryz.f138.name, by decide, Tryz.func138.trans (congrArg some (by kernel_rfl))⟩
  f28 := Tryz.func139.trans (congrArg some (by kernel_rfl))
  f29 := Tryz.func140.trans (congrArg some (by kernel_rfl))
  f46 := ⟨Tryz.f160.name, by decide, Tryz.func160.trans (congrArg some (by kernel_rfl))⟩
  f47 := Tryz.func161.trans (congrArg some (by kernel_rfl))
  f48 := Tryz.func162.trans (congrArg some (by kernel_rfl))
  f49 := ⟨Tryz.f163.name, by decide, Tryz.func163.trans (congrArg some (by kernel_rfl))⟩
  f50 := ⟨Tryz.f164.name, by decide, Tryz.func164.trans (congrArg some (by kernel_rfl))⟩
  f57 := ⟨Tryz.f181.name, by decide, Tryz.func181.trans (congrArg some (by kernel_rfl))⟩
  t0 := Tryz.underlying0
  a0 := Tryz.isAgg0
  z0 := Tryz.sizeOf0
  v0 := Tryz.zeroValue0
  t3 := Tryz.underlying3
  a3 := Tryz.isAgg3
  z3 := Tryz.sizeOf3
  v3 := Tryz.zeroValue3
  t4 := Tryz.underlying4
  a4 := Tryz.isAgg4
  z4 := Tryz.sizeOf4
  v4 := Tryz.zeroValue4
  t5 := Tryz.underlying5
  a5 := Tryz.isAgg5
  z5 := Tryz.sizeOf5
  v5 := Tryz.zeroValue5
  t9 := Tryz.underlying9
  a9 := Tryz.isAgg9
  z9 := Tryz.sizeOf9
  v9 := Tryz.zeroValue9
  t22 := Tryz.underlying22
  a22 := Tryz.isAgg22
  z22 := Tryz.sizeOf22
  v22 := Tryz.zeroValue22
  a24 := Tryz.isAgg3
  z24 := Tryz.sizeOf3
  t25 := Tryz.underlying91
  a25 := Tryz.isAgg91
  z25 := Tryz.sizeOf91
  v25 := Tryz.zeroValue91
  t39 := Tryz.underlying173
  a39 := Tryz.isAgg173
  z39 := Tryz.sizeOf173
  v39 := Tryz.zeroValue173
  t45 := Tryz.underlying188
  a45 := Tryz.isAgg188
  z45 := Tryz.sizeOf188
  v45 := Tryz.zeroValue188
  t46 := Tryz.underlying189
  a46 := Tryz.isAgg189
  z46 := Tryz.sizeOf189
  v46 := Tryz.zeroValue189
  t50 := Tryz.underlying185
  a50 := Tryz.isAgg185
  z50 := Tryz.sizeOf185
  v50 := Tryz.zeroValue185
  t53 := Tryz.underlying195
  a53 := Tryz.isAgg195
  z53 := Tryz.sizeOf195
  v53 := Tryz.zeroValue195
  t55 := Tryz.underlying97
  a55 := Tryz.isAgg97
  z55 := Tryz.sizeOf97
  v55 := Tryz.zeroValue97
  t66 := Tryz.underlying212
  a66 := Tryz.isAgg212
  z66 := Tryz.sizeOf212
  v66 := Tryz.zeroValue212
  t70 := Tryz.underlying216
  a70 := Tryz.isAgg216
  z70 := Tryz.sizeOf216
  v70 := Tryz.zeroValue216
  t76 := Tryz.underlying230
  a76 := Tryz.isAgg230
  z76 := Tryz.sizeOf230
  v76 := Tryz.zeroValue230
  t77 := Tryz.underlying141
  a77 := Tryz.isAgg141
  z77 := Tryz.sizeOf141
  v77 := Tryz.zeroValue141 }
end Go.Proofs

/-
  The numbers that functions and types have in this seat, under names that are the same in every seat. Own work.
-/
namespace Go.Proofs.X
open Go
abbrev F0 : FuncId := 0
abbrev F2 : FuncId := 2
abbrev F7 : FuncId := 6
abbrev F8 : FuncId := 8
abbrev F9 : FuncId := 40
abbrev F11 : FuncId := 11
abbrev F13 : FuncId := 18
abbrev F14 : FuncId := 19
abbrev F16 : FuncId := 30
abbrev F18 : FuncId := 24
abbrev F22 : FuncId := 31
abbrev F26 : FuncId := 7
abbrev F28 : FuncId := 10
abbrev F29 : FuncId := 12
abbrev F36 : FuncId := 13
abbrev F37 : FuncId := 14
abbrev F39 : FuncId := 15
abbrev F41 : FuncId := 45
abbrev F42 : FuncId := 47
abbrev F43 : FuncId := 67
abbrev F44 : FuncId := 48
abbrev F45 : FuncId := 49
abbrev F46 : FuncId := 50
abbrev F47 : FuncId := 51
abbrev F48 : FuncId := 52
abbrev F49 : FuncId := 53
abbrev F50 : FuncId := 54
abbrev F60 : FuncId := 68
abbrev F63 : FuncId := 32
abbrev F66 : FuncId := 39
abbrev F72 : FuncId := 33
abbrev F73 : FuncId := 34
abbrev F75 : FuncId := 41
abbrev F77 : FuncId := 82
abbrev F78 : FuncId := 83
abbrev F79 : FuncId := 84
abbrev F80 : FuncId := 102
abbrev F81 : FuncId := 103
abbrev F82 : FuncId := 85
abbrev F83 : FuncId := 86
abbrev F84 : FuncId := 87
abbrev F85 : FuncId := 69
abbrev F86 : FuncId := 58
abbrev F87 : FuncId := 70
abbrev F88 : FuncId := 71
abbrev F95 : FuncId := 72
abbrev F96 : FuncId := 73
abbrev F97 : FuncId := 74
abbrev F98 : FuncId := 35
abbrev F100 : FuncId := 112
abbrev F101 : FuncId := 113
abbrev F102 : FuncId := 114
abbrev F103 : FuncId := 115
abbrev F104 : FuncId := 127
abbrev F105 : FuncId := 128
abbrev F106 : FuncId := 129
abbrev F107 : FuncId := 130
abbrev F108 : FuncId := 116
abbrev F109 : FuncId := 117
abbrev F110 : FuncId := 95
abbrev F112 : FuncId := 104
abbrev F113 : FuncId := 105
abbrev F114 : FuncId := 75
abbrev F115 : FuncId := 76
abbrev F116 : FuncId := 142
abbrev F117 : FuncId := 159
abbrev F118 : FuncId := 106
abbrev F119 : FuncId := 107
abbrev F120 : FuncId := 165
abbrev F2071 : FuncId := 111
abbrev F2076 : FuncId := 110
abbrev F2089 : FuncId := 141
abbrev F2111 : FuncId := 3
abbrev F2114 : FuncId := 9
abbrev F2115 : FuncId := 16
abbrev F2116 : FuncId := 17
abbrev F2119 : FuncId := 36
abbrev F2120 : FuncId := 37
abbrev F2121 : FuncId := 38
abbrev F2122 : FuncId := 42
abbrev F2123 : FuncId := 43
abbrev F2124 : FuncId := 44
abbrev F2125 : FuncId := 77
abbrev F2126 : FuncId := 78
abbrev F2127 : FuncId := 79
abbrev F2128 : FuncId := 80
abbrev F2129 : FuncId := 81
abbrev T2 : TypeId := 2
abbrev T3 : TypeId := 3
abbrev T4 : TypeId := 4
abbrev T5 : TypeId := 5
abbrev T22 : TypeId := 27
abbrev T24 : TypeId := 29
abbrev T25 : TypeId := 22
abbrev T28 : TypeId := 33
abbrev T30 : TypeId := 35
abbrev T44 : TypeId := 24
abbrev T47 : TypeId := 39
abbrev T48 : TypeId := 60
abbrev T50 : TypeId := 62
abbrev T52 : TypeId := 23
abbrev T54 : TypeId := 41
abbrev T63 : TypeId := 26
abbrev T85 : TypeId := 73
abbrev T87 : TypeId := 94
abbrev T90 : TypeId := 102
abbrev T91 : TypeId := 103
abbrev T92 : TypeId := 104
abbrev T93 : TypeId := 105
abbrev T95 : TypeId := 107
abbrev T96 : TypeId := 97
abbrev T98 : TypeId := 99
abbrev T106 : TypeId := 111
abbrev T108 : TypeId := 113
abbrev T155 : TypeId := 229
abbrev T2101 : TypeId := 82
abbrev T2102 : TypeId := 83
abbrev T2108 : TypeId := 131
abbrev T2109 : TypeId := 132
abbrev T2111 : TypeId := 134
abbrev T2113 : TypeId := 136
abbrev T2115 : TypeId := 138
end Go.Proofs.X

namespace Go.Proofs.X
open Go Pal Go.Proofs
attribute [local irreducible] Pal.KO Pal.KC Pal.KQ Pal.KD
theorem mixed : Tryz.prog.follows .mixedOrders = true := by kernel_rfl
theorem ty3 : Ty Tryz.prog T3 false 1 := .of (by kernel_rfl)
theorem ty5 : Ty Tryz.prog T5 false 1 := .of (by kernel_rfl)
theorem ty25 : Ty Tryz.prog T25 false 1 := .of (by kernel_rfl)
theorem ty96 : Ty Tryz.prog T96 false 1 := .of (by kernel_rfl)
theorem ty98 : Ty Tryz.prog T98 true 16 := .of (by kernel_rfl)
theorem sl25 : slcOk Tryz.prog T25 T3 := by unfold slcOk; kernel_rfl
theorem z3 : zeroOk Tryz.prog T3 (.int .i64 0) := .of (by kernel_rfl)
theorem z98 : zeroOk Tryz.prog T98 (setV 0) := .of (by kernel_rfl)
theorem ar98 : Tryz.prog.underlying T98 = some (.array 16 T96) := by kernel_rfl
theorem ar155 : Tryz.prog.underlying T155 = some (.array 64 T5) := by kernel_rfl
theorem c80 : callable Tryz.prog F80 = true := by kernel_rfl
theorem c81 : callable Tryz.prog F81 = true := by kernel_rfl
theorem c82 : callable Tryz.prog F82 = true := by kernel_rfl
theorem c104 : callable Tryz.prog F104 = true := by kernel_rfl
theorem c105 : callable Tryz.prog F105 = true := by kernel_rfl
theorem c106 : callable Tryz.prog F106 = true := by kernel_rfl
theorem c107 : callable Tryz.prog F107 = true := by kernel_rfl
theorem c108 : callable Tryz.prog F108 = true := by kernel_rfl
theorem c109 : callable Tryz.prog F109 = true := by kernel_rfl
theorem c117 : callable Tryz.prog F117 = true := by kernel_rfl
theorem ap25 : App Tryz.prog T25 T3 1 8 := .of sl25 (by kernel_rfl)
theorem kl98 : WideMaps.KeyLaw Tryz.prog T98 := deep_law_laid (m := 2) (by kernel_rfl) (by decide) (Nat.le_of_ble_eq_true (by kernel_rfl)) (by kernel_rfl) (by kernel_rfl)
theorem set98 : SetT Tryz.prog T98 T96 := ⟨by unfold arrOk; kernel_rfl, by kernel_rfl, by kernel_rfl, by kernel_rfl, by kernel_rfl, by kernel_rfl, kl98, by kernel_rfl, ⟨252, by kernel_rfl⟩⟩
theorem fits_spec (i : Int) (H : View) : Sat Tryz.prog F108 #[.int .i64 i] H (fun v _ => v = .bool (decide (0 ≤ i ∧ i < 1024))) := by
  refine enterO (n := 9) (args := [.int .i64 i]) Tryz.func116 rfl rfl rfl fun w0 => ?_
  refine K_seq ?_
  refine K_region ?_
  refine KV (R_assign rfl) rfl ?_
  refine K_nil ?_
  refine Q_then ?_
  refine K_seq ?_
  refine K_region ?_
  refine KV (R_move rfl) rfl ?_
  refine KV (R_cmp rfl rfl rfl) rfl ?_
  refine KV (R_move rfl) rfl ?_
  refine K_split ?_ ?_
  ·
    intro h5
    refine K_gyes rfl rfl ?_
    refine KV (R_move rfl) rfl ?_
    refine K_gyes rfl rfl ?_
    refine KV (R_cmp rfl rfl rfl) rfl ?_
    refine KV (R_pickT rfl rfl) rfl ?_
    refine KV (R_assign rfl) rfl ?_
    refine K_nil ?_
    refine Q_then ?_
    refine K_ret ?_
    refine results_gen (rs := [.tmp 2]) (vs := [_]) rfl ⟨rfl, trivial⟩ ?_
    simp [tupV, h5]
  ·
    intro h5
    refine K_gno rfl rfl rfl rfl ?_
    refine K_gno rfl rfl rfl rfl ?_
    refine KV (R_pickF rfl rfl) rfl ?_
    refine KV (R_assign rfl) rfl ?_
    refine K_nil ?_
    refine Q_then ?_
    refine K_ret ?_
    refine results_gen (rs := [.tmp 2]) (vs := [_]) rfl ⟨rfl, trivial⟩ ?_
    simp [tupV, h5]

theorem bit_spec (k : Nat) (H : View) : Sat Tryz.prog F109 #[.int .i64 (k : Int)] H (fun v _ => v = .int .u64 ((2 ^ (k % 64) : Nat) : Int)) := by
  refine enterO (n := 6) (args := [.int .i64 (k : Int)]) Tryz.func117 rfl rfl rfl fun w0 => ?_
  refine K_seq ?_
  refine K_region ?_
  refine KV (R_assign rfl) rfl ?_
  refine K_nil ?_
  refine Q_then ?_
  refine K_seq ?_
  refine K_region ?_
  refine KV (R_move rfl) rfl ?_
  refine KV (R_rem rfl rfl (by decide)) rfl ?_
  refine KV (R_shl1U (k := k % 64) rfl rfl (by rw [Int.tmod_eq_emod_of_nonneg (by omega)]; omega) (Nat.mod_lt _ (by decide))) rfl ?_
  refine KV (R_assign rfl) rfl ?_
  refine K_nil ?_
  refine Q_then ?_
  refine K_ret ?_
  refine results_gen (rs := [.tmp 2]) (vs := [_]) rfl ⟨rfl, trivial⟩ ?_
  rfl

theorem with_spec (s : Nat) (i : Int) (H : View) : Sat Tryz.prog F82 #[setV s, .int .i64 i] H (fun v _ => v = setV (if 0 ≤ i ∧ i < 1024 then s ||| 2 ^ i.toNat else s)) := by
  refine enterO (n := 16) (args := [setV s, .int .i64 i]) Tryz.func85 rfl rfl rfl fun w0 => ?_
  refine K_seq ?_
  refine K_region ?_
  refine KA (A_box rfl) rfl fun b2 => ?_
  refine KA (A_alloc z98) rfl fun b4 => ?_
  refine K_nil ?_
  refine Q_then ?_
  refine K_seq ?_
  refine K_seq ?_
  refine K_region ?_
  refine KV (R_move rfl) rfl ?_
  refine K_call c108 rfl rfl (fits_spec i H) ?_
  rintro _ V' hle1 rfl
  refine K_nil ?_
  refine Q_then ?_
  refine K_if rfl (fun h6 => ?_) (fun h6 => ?_)
  ·
    obtain ⟨k, rfl⟩ : ∃ k : Nat, i = k := ⟨i.toNat, by omega⟩
    rw [if_pos h6]
    have hk : k / 64 < 16 := by omega
    have hk64 : (2 : Nat) ^ (k % 64) < 18446744073709551616 := by rw [two64]; exact Nat.pow_lt_pow_right (by decide) (Nat.mod_lt _ (by decide))
    simp only [Int.toNat_natCast]
    refine K_regionD (fin := true) (R := [0, 1, 2, 3, 4, 5, 6, 7, 8]) (by kernel_rfl) mixed (.cons _ (.cons_cons _ (List.nil_sublist _))) ?_
    refine D_val rfl rfl rfl (R_move rfl) ?_
    refine D_val rfl rfl rfl (R_quo (r := ((k / 64 : Nat) : Int)) rfl rfl (by decide) (by rw [wrap64 (by rw [Int.tdiv_eq_ediv_of_nonneg (by omega)]; omega), Int.tdiv_eq_ediv_of_nonneg (by omega)]; omega)) ?_
    refine D_val rfl rfl rfl (R_indexArr ar98 ty96 rfl rfl ⟨by omega, by omega⟩) ?_
    refine D_val rfl rfl rfl (R_loadC ty96 0 rfl rfl (cells_get s (k / 64) (by omega) hk)) ?_
    refine D_val rfl rfl rfl (R_move rfl) ?_
    refine D_call rfl rfl c109 rfl ⟨⟨1, rfl⟩, trivial⟩ (bit_spec k V') ?_
    rintro _ V'' hle2 rfl
    refine D_val rfl rfl rfl (R_bitsU rfl rfl (wd_lt _ _) hk64 (.inr (.inl ⟨rfl, rfl⟩))) ?_
    refine D_val rfl rfl rfl (R_indexArr ar98 ty96 rfl rfl ⟨by omega, by omega⟩) ?_
    refine D_lastStoreE ty96 1 rfl rfl rfl rfl rfl rfl (cells_fit s (k / 64) (by omega) hk) rfl (cells_put (s := s) (t := s ||| 2 ^ k) (k := k / 64) (by omega) hk (fun i _ => by rw [wd_or]; split <;> simp_all)) ?_
    refine Q_then ?_
    refine K_seq ?_
    refine K_region ?_
    refine KV (R_loadW ty98 1 rfl rfl rfl rfl) rfl ?_
    refine K_storeW ty98 0 rfl rfl rfl rfl rfl rfl rfl ?_
    refine K_nil ?_
    refine Q_then ?_
    refine K_ret ?_
    refine results_gen (rs := [.cell 4 99]) (vs := [_]) rfl ⟨⟨_, _, _, _, _, _, 0, rfl, rfl, ty98, (fun e => by cases e), rfl, rfl⟩, trivial⟩ ?_
    rfl
  ·
    rw [if_neg h6]
    refine K_skip ?_
    refine Q_then ?_
    refine K_seq ?_
    refine K_region ?_
    refine KV (R_loadW ty98 1 rfl rfl rfl rfl) rfl ?_
    refine K_storeW ty98 0 rfl rfl rfl rfl rfl rfl rfl ?_
    refine K_nil ?_
    refine Q_then ?_
    refine K_ret ?_
    refine results_gen (rs := [.cell 4 99]) (vs := [_]) rfl ⟨⟨_, _, _, _, _, _, 0, rfl, rfl, ty98, (fun e => by cases e), rfl, rfl⟩, trivial⟩ ?_
    rfl

theorem without_spec (s : Nat) (i : Int) (H : View) : Sat Tryz.prog F107 #[setV s, .int .i64 i] H (fun v _ => v = setV (if 0 ≤ i ∧ i < 1024 then clr s i.toNat else s)) := by
  refine enterO (n := 16) (args := [setV s, .int .i64 i]) Tryz.func130 rfl rfl rfl fun w0 => ?_
  refine K_seq ?_
  refine K_region ?_
  refine KA (A_box rfl) rfl fun b2 => ?_
  refine KA (A_alloc z98) rfl fun b4 => ?_
  refine K_nil ?_
  refine Q_then ?_
  refine K_seq ?_
  refine K_seq ?_
  refine K_region ?_
  refine KV (R_move rfl) rfl ?_
  refine K_call c108 rfl rfl (fits_spec i H) ?_
  rintro _ V' hle1 rfl
  refine K_nil ?_
  refine Q_then ?_
  refine K_if rfl (fun h6 => ?_) (fun h6 => ?_)
  ·
    obtain ⟨k, rfl⟩ : ∃ k : Nat, i = k := ⟨i.toNat, by omega⟩
    rw [if_pos h6]
    have hk : k / 64 < 16 := by omega
    have hk64 : (2 : Nat) ^ (k % 64) < 18446744073709551616 := by rw [two64]; exact Nat.pow_lt_pow_right (by decide) (Nat.mod_lt _ (by decide))
    simp only [Int.toNat_natCast]
    refine K_regionD (fin := true) (R := [0, 1, 2, 3, 4, 5, 6, 7, 8]) (by kernel_rfl) mixed (.cons _ (.cons_cons _ (List.nil_sublist _))) ?_
    refine D_val rfl rfl rfl (R_move rfl) ?_
    refine D_val rfl rfl rfl (R_quo (r := ((k / 64 : Nat) : Int)) rfl rfl (by decide) (by rw [wrap64 (by rw [Int.tdiv_eq_ediv_of_nonneg (by omega)]; omega), Int.tdiv_eq_ediv_of_nonneg (by omega)]; omega)) ?_
    refine D_val rfl rfl rfl (R_indexArr ar98 ty96 rfl rfl ⟨by omega, by omega⟩) ?_
    refine D_val rfl rfl rfl (R_loadC ty96 0 rfl rfl (cells_get s (k / 64) (by omega) hk)) ?_
    refine D_val rfl rfl rfl (R_move rfl) ?_
    refine D_call rfl rfl c109 rfl ⟨⟨1, rfl⟩, trivial⟩ (bit_spec k V') ?_
    rintro _ V'' hle2 rfl
    refine D_val rfl rfl rfl (R_bitsU rfl rfl (wd_lt _ _) hk64 (.inr (.inr ⟨rfl, rfl⟩))) ?_
    refine D_val rfl rfl rfl (R_indexArr ar98 ty96 rfl rfl ⟨by omega, by omega⟩) ?_
    refine D_lastStoreE ty96 1 rfl rfl rfl rfl rfl rfl (cells_fit s (k / 64) (by omega) hk) rfl (cells_put (s := s) (t := clr s k) (k := k / 64) (by omega) hk (fun i _ => by rw [wd_clr]; split <;> simp_all)) ?_
    refine Q_then ?_
    refine K_seq ?_
    refine K_region ?_
    refine KV (R_loadW ty98 1 rfl rfl rfl rfl) rfl ?_
    refine K_storeW ty98 0 rfl rfl rfl rfl rfl rfl rfl ?_
    refine K_nil ?_
    refine Q_then ?_
    refine K_ret ?_
    refine results_gen (rs := [.cell 4 99]) (vs := [_]) rfl ⟨⟨_, _, _, _, _, _, 0, rfl, rfl, ty98, (fun e => by cases e), rfl, rfl⟩, trivial⟩ ?_
    rfl
  ·
    rw [if_neg h6]
    refine K_skip ?_
    refine Q_then ?_
    refine K_seq ?_
    refine K_region ?_
    refine KV (R_loadW ty98 1 rfl rfl rfl rfl) rfl ?_
    refine K_storeW ty98 0 rfl rfl rfl rfl rfl rfl rfl ?_
    refine K_nil ?_
    refine Q_then ?_
    refine K_ret ?_
    refine results_gen (rs := [.cell 4 99]) (vs := [_]) rfl ⟨⟨_, _, _, _, _, _, 0, rfl, rfl, ty98, (fun e => by cases e), rfl, rfl⟩, trivial⟩ ?_
    rfl

theorem has_spec (s : Nat) (i : Int) (H : View) : Sat Tryz.prog F120 #[setV s, .int .i64 i] H (fun v _ => v = .bool (decide (0 ≤ i ∧ i < 1024) && s.testBit i.toNat)) := by
  refine enterO (n := 17) (args := [setV s, .int .i64 i]) Tryz.func165 rfl rfl rfl fun w0 => ?_
  refine K_seq ?_
  refine K_region ?_
  refine KA (A_box rfl) rfl fun b2 => ?_
  refine KV (R_assign rfl) rfl ?_
  refine K_nil ?_
  refine Q_then ?_
  refine K_seq ?_
  refine K_regionD (fin := false) (R := [0, 1, 2, 3, 4, 5, 6, 7, 8, 9, 10, 11, 12]) (by kernel_rfl) mixed (.cons_cons _ (List.nil_sublist _)) ?_
  refine D_val rfl rfl rfl (R_move rfl) ?_
  refine D_call rfl rfl c108 rfl ⟨⟨0, rfl⟩, trivial⟩ (fits_spec i H) ?_
  rintro _ V' hle1 rfl
  refine D_val rfl rfl rfl (R_move rfl) ?_
  refine D_split ?_ ?_
  ·
    intro h6
    obtain ⟨k, rfl⟩ : ∃ k : Nat, i = k := ⟨i.toNat, by omega⟩
    have hk : k / 64 < 16 := by omega
    have hk64 : (2 : Nat) ^ (k % 64) < 18446744073709551616 := by rw [two64]; exact Nat.pow_lt_pow_right (by decide) (Nat.mod_lt _ (by decide))
    refine D_val rfl rfl rfl (R_move rfl) ?_
    refine D_val rfl rfl rfl (R_quo (r := ((k / 64 : Nat) : Int)) rfl rfl (by decide) (by rw [wrap64 (by rw [Int.tdiv_eq_ediv_of_nonneg (by omega)]; omega), Int.tdiv_eq_ediv_of_nonneg (by omega)]; omega)) ?_
    refine D_val rfl rfl rfl (R_indexArr ar98 ty96 rfl rfl ⟨by omega, by omega⟩) ?_
    refine D_val rfl rfl rfl (R_loadC ty96 0 rfl rfl (cells_get s (k / 64) (by omega) hk)) ?_
    refine D_val rfl rfl rfl (R_move rfl) ?_
    refine D_call rfl rfl c109 rfl ⟨⟨0, rfl⟩, trivial⟩ (bit_spec k V') ?_
    rintro _ V'' hle2 rfl
    refine D_val rfl rfl rfl (R_bitsU rfl rfl (wd_lt _ _) hk64 (.inl ⟨rfl, rfl⟩)) ?_
    refine D_val rfl rfl rfl (R_cmp rfl rfl rfl) ?_
    refine D_val rfl rfl rfl (R_pickT rfl rfl) ?_
    refine D_val rfl rfl rfl (R_assign rfl) ?_
    refine D_done ?_
    refine Q_then ?_
    refine K_ret ?_
    refine results_gen (rs := [.tmp 4]) (vs := [_]) rfl ⟨rfl, trivial⟩ ?_
    have h1 := has_word s k
    simp only [tupV]
    refine congrArg Value.bool ?_
    rw [decide_eq_true h6]
    simp only [Int.toNat_natCast, Bool.true_and]
    cases hb : s.testBit k
    · rw [hb] at h1; simp at h1 ⊢; omega
    · rw [hb] at h1; simp at h1 ⊢; omega
  ·
    intro h6
    refine D_skip rfl rfl ?_
    refine D_skip rfl rfl ?_
    refine D_skip rfl rfl ?_
    refine D_skip rfl rfl ?_
    refine D_skip rfl rfl ?_
    refine D_skip rfl rfl ?_
    refine D_skip rfl rfl ?_
    refine D_skip rfl rfl ?_
    refine D_val rfl rfl rfl (R_pickF rfl rfl) ?_
    refine D_val rfl rfl rfl (R_assign rfl) ?_
    refine D_done ?_
    refine Q_then ?_
    refine K_ret ?_
    refine results_gen (rs := [.tmp 4]) (vs := [_]) rfl ⟨rfl, trivial⟩ ?_
    simp [tupV, h6]

theorem isEmpty_spec (s : Nat) (hs : s < big) (H : View) : Sat Tryz.prog F47 #[setV s] H (fun v _ => v = .bool (decide (s = 0))) := by
  refine enterO (n := 6) (args := [setV s]) Tryz.func51 rfl rfl rfl fun w0 => ?_
  refine K_seq ?_
  refine K_region ?_
  refine KA (A_box rfl) rfl fun b1 => ?_
  refine KV (R_assign rfl) rfl ?_
  refine K_nil ?_
  refine Q_then ?_
  refine K_seq ?_
  refine K_region ?_
  refine KV (R_loadW ty98 0 rfl rfl rfl rfl) rfl ?_
  refine KV (R_buildArr z98 ar98 ty96 rfl rfl) rfl ?_
  refine KV (R_eqSet (s := s) (u := 0) set98 hs zero_big rfl rfl) rfl ?_
  refine KV (R_assign rfl) rfl ?_
  refine K_nil ?_
  refine Q_then ?_
  refine K_ret ?_
  refine results_gen (rs := [.tmp 2]) (vs := [_]) rfl ⟨rfl, trivial⟩ ?_
  rfl

theorem inter_spec (s t : Nat) (hs : s < big) (H : View) : Sat Tryz.prog F46 #[setV s, setV t] H (fun v _ => v = setV (s &&& t)) := by
  refine enterO (n := 19) (args := [setV s, setV t]) Tryz.func50 rfl rfl rfl fun w0 => ?_
  refine K_seq ?_
  refine K_region ?_
  refine KA (A_box rfl) rfl fun b2 => ?_
  refine KA (A_box rfl) rfl fun b3 => ?_
  refine KA (A_alloc z98) rfl fun b4 => ?_
  refine K_nil ?_
  refine Q_then ?_
  refine K_seq ?_
  refine K_seq ?_
  refine K_region ?_
  refine KV (R_move rfl) rfl ?_
  refine K_nil ?_
  refine Q_then ?_
  refine K_block ?_
  refine K_loop (G := Nat) ⟨fun g => [(2, ptr b2), (3, ptr b3), (4, ptr b4), (6, .int .i64 (g : Int))], fun g => [blk b4 (.cells (setV 0).cells T98 (0, 0)), blk b3 (.cells (setV t).cells T98 (0, 0)), blk b2 (.cells (setV (upto s t g)).cells T98 (0, 0))], fun g => H, fun g => g ≤ 16, fun g => 16 - g⟩ 0 (Nat.zero_le _) ⟨rfl, rfl, rfl, rfl, trivial⟩ (by dsimp only; rw [upto_zero]) rfl ?_
  rintro k hk
  dsimp only at hk ⊢
  refine K_seq ?_
  refine K_region ?_
  refine KV (R_cmp rfl rfl rfl) rfl ?_
  refine K_nil ?_
  refine Q_then ?_
  refine K_seq ?_
  refine K_if rfl (fun h7 => ?_) (fun h7 => ?_)
  ·
    have hk16 : k < 16 := by omega
    refine K_skip ?_
    refine Q_then ?_
    refine K_seq ?_
    refine K_block ?_
    refine K_seq ?_
    refine K_region ?_
    refine KV (R_move rfl) rfl ?_
    refine KV (R_assign rfl) rfl ?_
    refine K_nil ?_
    refine Q_then ?_
    refine K_regionD (fin := true) (R := [0, 1, 2, 3, 4, 5, 6, 7, 8]) (by kernel_rfl) mixed (.cons_cons _ (.cons_cons _ (.cons_cons _ (List.nil_sublist _)))) ?_
    refine D_val rfl rfl rfl (R_move rfl) ?_
    refine D_val rfl rfl rfl (R_indexArr ar98 ty96 rfl rfl ⟨by omega, by omega⟩) ?_
    refine D_val rfl rfl rfl (R_loadC ty96 2 rfl rfl (cells_get (upto s t k) k (by omega) hk16)) ?_
    refine D_val rfl rfl rfl (R_move rfl) ?_
    refine D_val rfl rfl rfl (R_indexArr ar98 ty96 rfl rfl ⟨by omega, by omega⟩) ?_
    refine D_val rfl rfl rfl (R_loadC ty96 1 rfl rfl (cells_get t k (by omega) hk16)) ?_
    refine D_val rfl rfl rfl (R_bitsU rfl rfl (wd_lt _ _) (wd_lt _ _) (.inl ⟨rfl, rfl⟩)) ?_
    refine D_val rfl rfl rfl (R_indexArr ar98 ty96 rfl rfl ⟨by omega, by omega⟩) ?_
    refine D_lastStoreE ty96 2 rfl rfl rfl rfl rfl rfl (cells_fit (upto s t k) k (by omega) hk16) rfl (cells_put (s := upto s t k) (t := upto s t (k + 1)) (k := k) (by omega) hk16 (fun i _ => wd_upto_succ s t k i)) ?_
    refine Q_block ?_
    refine Q_then ?_
    refine K_region ?_
    refine KV (R_add rfl rfl (by omega)) rfl ?_
    refine KV (R_move rfl) rfl ?_
    refine K_nil ?_
    exact Q_next (k + 1) hk16 (by dsimp only; omega) ⟨rfl, rfl, rfl, rfl, trivial⟩ rfl rfl
  ·
    have hk16 : k = 16 := by omega
    subst hk16
    rw [upto_all hs]
    refine K_exit ?_
    refine Q_then_exit ?_
    refine Q_then_exit ?_
    refine Q_block_exit ?_
    refine Q_then ?_
    refine K_seq ?_
    refine K_region ?_
    refine KV (R_loadW ty98 2 rfl rfl rfl rfl) rfl ?_
    refine K_storeW ty98 0 rfl rfl rfl rfl rfl rfl rfl ?_
    refine K_nil ?_
    refine Q_then ?_
    refine K_ret ?_
    refine results_gen (rs := [.cell 4 99]) (vs := [_]) rfl ⟨⟨_, _, _, _, _, _, 0, rfl, rfl, ty98, (fun e => by cases e), rfl, rfl⟩, trivial⟩ ?_
    rfl

theorem of_spec (xs : List Int) (v : Value) (H : View) (hv : SI H v xs) (hb : xs.length ≤ 1099511627776) : Sat Tryz.prog F44 #[v] H (fun v _ => v = setV (ofL xs)) := by
  obtain ⟨a, cap, rfl⟩ := hv.shape
  refine enterO (n := 17) (args := [.slice a xs.length cap]) Tryz.func48 rfl rfl rfl fun w0 => ?_
  refine K_seq ?_
  refine K_region ?_
  refine KA (A_alloc z98) rfl fun b2 => ?_
  refine K_nil ?_
  refine Q_then ?_
  refine K_seq ?_
  refine K_region ?_
  refine KA (A_alloc z98) rfl fun b3 => ?_
  refine K_nil ?_
  refine Q_then ?_
  refine K_seq ?_
  refine K_seq ?_
  refine K_region ?_
  refine KV (R_move rfl) rfl ?_
  refine KV (R_len sl25 rfl) rfl ?_
  refine KV (R_move rfl) rfl ?_
  refine K_nil ?_
  refine Q_then ?_
  refine K_block ?_
  refine K_loop (G := Nat × View) ⟨fun g => [(2, ptr b2), (3, ptr b3), (6, .slice a xs.length cap), (7, .int .i64 xs.length), (8, .int .i64 (g.1 : Int))], fun g => [blk b3 (.cells (setV (ofL (xs.take g.1))).cells T98 (0, 0)), blk b2 (.cells (setV 0).cells T98 (0, 0))], fun g => g.2, fun g => g.1 ≤ xs.length ∧ VLe H g.2, fun g => xs.length - g.1⟩ (0, H) ⟨Nat.zero_le _, VLe.refl H⟩ ⟨rfl, rfl, rfl, rfl, rfl, trivial⟩ rfl rfl ?_
  rintro ⟨k, V⟩ ⟨hk, hV⟩
  dsimp only at hk hV ⊢
  refine K_seq ?_
  refine K_region ?_
  refine KV (R_cmp rfl rfl rfl) rfl ?_
  refine K_nil ?_
  refine Q_then ?_
  refine K_seq ?_
  refine K_if rfl (fun h9 => ?_) (fun h9 => ?_)
  ·
    have hk' : k < xs.length := by omega
    obtain ⟨tb, to_, rfl, hta⟩ := (hv.mono hV).get hk'
    refine K_skip ?_
    refine Q_then ?_
    refine K_seq ?_
    refine K_block ?_
    refine K_seq ?_
    refine K_region ?_
    refine KV (R_indexN sl25 ty3 rfl rfl (by omega)) rfl ?_
    refine KV (R_loadH ty3 rfl (hta) rfl (fun _ => rfl) rfl) rfl ?_
    refine KV (R_assign rfl) rfl ?_
    refine K_nil ?_
    refine Q_then ?_
    refine K_region ?_
    refine KV (R_loadW ty98 0 rfl rfl rfl rfl) rfl ?_
    refine KV (R_move rfl) rfl ?_
    refine K_call c82 rfl rfl (with_spec _ _ V) ?_
    rintro _ V' hle rfl
    refine K_storeW ty98 0 rfl rfl rfl rfl rfl rfl rfl ?_
    refine K_nil ?_
    refine Q_block ?_
    refine Q_then ?_
    refine K_region ?_
    refine KV (R_add rfl rfl (by omega)) rfl ?_
    refine KV (R_move rfl) rfl ?_
    refine K_nil ?_
    exact Q_next (k + 1, V') ⟨hk', hV.trans hle⟩ (by dsimp only; omega) ⟨rfl, rfl, rfl, rfl, rfl, trivial⟩ (by dsimp only; rw [ofL_take xs k hk']; rfl) rfl
  ·
    have hk' : k = xs.length := by omega
    subst hk'
    rw [List.take_length]
    refine K_exit ?_
    refine Q_then_exit ?_
    refine Q_then_exit ?_
    refine Q_block_exit ?_
    refine Q_then ?_
    refine K_seq ?_
    refine K_region ?_
    refine KV (R_loadW ty98 0 rfl rfl rfl rfl) rfl ?_
    refine K_storeW ty98 1 rfl rfl rfl rfl rfl rfl rfl ?_
    refine K_nil ?_
    refine Q_then ?_
    refine K_ret ?_
    refine results_gen (rs := [.cell 2 99]) (vs := [_]) rfl ⟨⟨_, _, _, _, _, _, 1, rfl, rfl, ty98, (fun e => by cases e), rfl, rfl⟩, trivial⟩ ?_
    rfl

theorem tz_spec (x : Nat) (h0 : x ≠ 0) (hx : x < 18446744073709551616) (H : View) (hT : Tab H) : Sat Tryz.prog F117 #[.int .u64 (x : Int)] H (fun v _ => v = .int .i64 ((low x 64 0 : Nat) : Int)) := by
  obtain ⟨g1, _, g3, g4⟩ := low_spec x 64 0 (by obtain ⟨j, h1, h2⟩ := exists_bit h0 (show x < 2 ^ 64 from two64 ▸ hx); exact ⟨j, Nat.zero_le _, by omega, h2⟩)
  generalize low x 64 0 = k at g1 g3 g4 ⊢
  have hk : k < 64 := by omega
  have hlow := lowbit hx g1 (fun j hj => g4 j (Nat.zero_le _) hj)
  have hil := bruijn_lt k
  refine enterO (n := 14) (args := [.int .u64 (x : Int)]) Tryz.func159 rfl rfl rfl fun w0 => ?_
  refine K_seq ?_
  refine K_region ?_
  refine KV (R_assign rfl) rfl ?_
  refine K_nil ?_
  refine Q_then ?_
  refine K_seq ?_
  refine K_seq ?_
  refine K_region ?_
  refine KV (R_move rfl) rfl ?_
  refine KV (R_cmp rfl rfl rfl) rfl ?_
  refine K_nil ?_
  refine Q_then ?_
  refine K_if rfl (fun h4 => ?_) (fun h4 => ?_)
  ·
    exact absurd h4 (by omega)
  ·
    refine K_skip ?_
    refine Q_then ?_
    refine K_seq ?_
    refine K_region ?_
    refine KV (R_move rfl) rfl ?_
    refine KV (R_move rfl) rfl ?_
    refine KV (R_negU rfl (by omega) hx) rfl ?_
    refine KV (R_bitsU rfl rfl hx (by omega) (.inl ⟨rfl, hlow⟩)) rfl ?_
    refine KV (R_mulU (b := 285870213051353865) rfl rfl) rfl ?_
    refine KV (R_shrU (k := 58) rfl rfl (by decide)) rfl ?_
    refine KV (R_indexG (sz := 1) ar155 ty5 rfl ⟨by omega, by omega⟩) rfl ?_
    refine KV (R_loadH ty5 rfl (hT.get hil (bruijn_ok k hk) (by omega)) rfl (fun _ => rfl) rfl) rfl ?_
    refine KV (R_convII (by kernel_rfl) ⟨_, Tryz.underlying5⟩ rfl (wrap64 (by omega))) rfl ?_
    refine KV (R_assign rfl) rfl ?_
    refine K_nil ?_
    refine Q_then ?_
    refine K_ret ?_
    refine results_gen (rs := [.tmp 2]) (vs := [_]) rfl ⟨rfl, trivial⟩ ?_
    rfl

theorem min_spec (s : Nat) (hs : s < big) (H : View) (hT : Tab H) : Sat Tryz.prog F106 #[setV s] H (fun v _ => v = .tuple #[.int .i64 (minS s), .bool (decide (s ≠ 0))]) := by
  refine enterO (n := 19) (args := [setV s]) Tryz.func129 rfl rfl rfl fun w0 => ?_
  refine K_seq ?_
  refine K_region ?_
  refine KA (A_box rfl) rfl fun b1 => ?_
  refine KV (R_assign rfl) rfl ?_
  refine KV (R_assign rfl) rfl ?_
  refine K_nil ?_
  refine Q_then ?_
  refine K_seq ?_
  refine K_seq ?_
  refine K_region ?_
  refine KV (R_loadW ty98 0 rfl rfl rfl rfl) rfl ?_
  refine KV (R_move rfl) rfl ?_
  refine K_nil ?_
  refine Q_then ?_
  refine K_block ?_
  refine K_loop (G := Nat) ⟨fun g => [(1, ptr b1), (6, setV s), (7, .int .i64 (g : Int)), (2, .int .i64 0), (3, .bool false)], fun g => [blk b1 (.cells (setV s).cells T98 (0, 0))], fun g => H, fun g => g ≤ 16 ∧ ∀ i, i < g → wd s i = 0, fun g => 16 - g⟩ 0 ⟨Nat.zero_le _, fun i hi => by omega⟩ ⟨rfl, rfl, rfl, rfl, rfl, trivial⟩ rfl rfl ?_
  rintro k ⟨hk, hz⟩
  dsimp only at hk hz ⊢
  refine K_seq ?_
  refine K_region ?_
  refine KV (R_cmp rfl rfl rfl) rfl ?_
  refine K_nil ?_
  refine Q_then ?_
  refine K_seq ?_
  refine K_if rfl (fun h8 => ?_) (fun h8 => ?_)
  ·
    have hk16 : k < 16 := by omega
    refine K_skip ?_
    refine Q_then ?_
    refine K_seq ?_
    refine K_block ?_
    refine K_seq ?_
    refine K_region ?_
    refine KV (R_move rfl) rfl ?_
    refine KV (R_indexV (i := k) ar98 ty96 rfl rfl hk16 (cells_get s k rfl hk16)) rfl ?_
    refine KV (R_assign rfl) rfl ?_
    refine KV (R_assign rfl) rfl ?_
    refine K_nil ?_
    refine Q_then ?_
    refine K_seq ?_
    refine K_region ?_
    refine KV (R_move rfl) rfl ?_
    refine KV (R_cmp rfl rfl rfl) rfl ?_
    refine K_nil ?_
    refine Q_then ?_
    refine K_if rfl (fun h12 => ?_) (fun h12 => ?_)
    ·
      have hne : wd s k ≠ 0 := by omega
      have hmin := minS_word hk16 hz hne
      have hmin2 := hmin.2.2
      refine K_seq ?_
      refine K_region ?_
      refine KV (R_move rfl) rfl ?_
      refine KV (R_mul rfl rfl (by omega)) rfl ?_
      refine KV (R_move rfl) rfl ?_
      refine K_call c117 rfl rfl (tz_spec _ (by omega) (wd_lt _ _) H hT) ?_
      rintro _ V' hle rfl
      refine KV (R_add rfl rfl (by omega)) rfl ?_
      refine KV (R_assign rfl) rfl ?_
      refine KV (R_assign rfl) rfl ?_
      refine K_nil ?_
      refine Q_then ?_
      refine K_ret ?_
      refine Q_block_ret ?_
      refine Q_then_ret ?_
      refine Q_then_ret ?_
      refine Q_block_ret ?_
      refine Q_then_ret ?_
      refine results_gen (rs := [.tmp 2, .tmp 3]) (vs := [_, _]) rfl ⟨rfl, ⟨rfl, trivial⟩⟩ ?_
      simp only [tupV, hmin.1, decide_eq_true hmin.2.1]
    ·
      have hz2 : ∀ i, i < k + 1 → wd s i = 0 := by
        intro i hi
        by_cases e : i = k
        · subst e; omega
        · exact hz i (by omega)
      refine K_skip ?_
      refine Q_block ?_
      refine Q_then ?_
      refine K_region ?_
      refine KV (R_add rfl rfl (by omega)) rfl ?_
      refine KV (R_move rfl) rfl ?_
      refine K_nil ?_
      exact Q_next (k + 1) ⟨hk16, hz2⟩ (by dsimp only; omega) ⟨rfl, rfl, rfl, rfl, rfl, trivial⟩ rfl rfl
  ·
    have hk16 : k = 16 := by omega
    subst hk16
    refine K_exit ?_
    refine Q_then_exit ?_
    refine Q_then_exit ?_
    refine Q_block_exit ?_
    refine Q_then ?_
    refine K_seq ?_
    refine K_region ?_
    refine KV (R_assign rfl) rfl ?_
    refine KV (R_assign rfl) rfl ?_
    refine K_nil ?_
    refine Q_then ?_
    refine K_ret ?_
    refine results_gen (rs := [.tmp 2, .tmp 3]) (vs := [_, _]) rfl ⟨rfl, ⟨rfl, trivial⟩⟩ ?_
    rw [zero_of_words hs hz]
    rfl

theorem all_spec (s : Nat) (H : View) : Sat Tryz.prog F81 #[setV s] H (fun v H' => ∃ b, v = .func (.func F105) #[] #[ptr b] ∧ At H' b 0 (setL s)) := by
  refine enterO (n := 4) (args := [setV s]) Tryz.func103 rfl rfl rfl fun w0 => ?_
  refine K_seq ?_
  refine K_region ?_
  refine KA (A_box rfl) rfl fun b1 => ?_
  refine KV (R_assign rfl) rfl ?_
  refine K_nil ?_
  refine Q_then ?_
  refine K_seq ?_
  refine K_region ?_
  refine KV (R_makeFunc rfl rfl) rfl ?_
  refine KV (R_assign rfl) rfl ?_
  refine K_nil ?_
  refine Q_then ?_
  refine K_ret ?_
  refine KQ_publish (by simp [feet]) ?_
  refine results_gen (rs := [.tmp 2]) (vs := [_]) rfl ⟨rfl, trivial⟩ ?_
  exact ⟨b1, rfl, _, T98, (0, 0), vadd_self _ _ _, fun j v h => by simpa [setV, Value.cells] using h⟩

theorem alliter_spec (s b L : Nat) (hs : s < big) (E : List Value → HL → Prop) (p0 : HL) (hp0 : E [] p0) (hY : Pal.Yields Tryz.prog L ((els s).map (.int .i64)) E) (H : View) (hT : Tab H) (hb : At H b 0 (setL s)) :
    SatO Tryz.prog F105 #[.func (.yield L) #[] #[], ptr b] H p0 (fun _ _ q => E ((els s).map (.int .i64)) q) := by
  refine enterO (n := 25) (args := [.func (.yield L) #[] #[], ptr b]) Tryz.func128 rfl rfl rfl fun w0 => ?_
  refine K_seq ?_
  refine K_region ?_
  refine KV (R_loadH ty98 rfl (hb) rfl (fun e => by cases e) rfl) rfl ?_
  refine KA (A_alloc z98) rfl fun b3 => ?_
  refine K_storeW ty98 0 rfl rfl rfl rfl rfl rfl rfl ?_
  refine K_nil ?_
  refine Q_then ?_
  refine K_seq ?_
  refine K_region ?_
  refine KV (R_loadW ty98 0 rfl rfl rfl rfl) rfl ?_
  refine K_call c106 rfl rfl (min_spec s hs H hT) ?_
  rintro _ V' hle rfl
  refine KV (R_move rfl) rfl ?_
  refine KV (R_extract rfl rfl) rfl ?_
  refine KV (R_extract rfl rfl) rfl ?_
  refine KV (R_assign rfl) rfl ?_
  refine KV (R_assign rfl) rfl ?_
  refine K_nil ?_
  refine Q_then ?_
  refine K_block ?_
  refine K_loop (G := List Value × Nat × View × HL) ⟨fun g => [(0, .func (.yield L) #[] #[]), (3, ptr b3), (4, .int .i64 (minS g.2.1)), (5, .bool (decide (g.2.1 ≠ 0)))], fun g => blk b3 (.cells (setV g.2.1).cells T98 (0, 0)) :: g.2.2.2, fun g => g.2.2.1, fun g => g.2.1 < big ∧ g.1 ++ (els g.2.1).map (.int .i64) = (els s).map (.int .i64) ∧ VLe H g.2.2.1 ∧ E g.1 g.2.2.2, fun g => (els g.2.1).length⟩ ([], s, V', p0) ⟨hs, (by dsimp only; rw [List.nil_append]), hle, hp0⟩ ⟨rfl, rfl, rfl, rfl, trivial⟩ rfl rfl ?_
  rintro ⟨pre, u, V, p⟩ ⟨hu, hpre, hV, hE⟩
  dsimp only at hu hpre hV hE ⊢
  refine K_seq ?_
  refine K_seq ?_
  refine K_region ?_
  refine KV (R_move rfl) rfl ?_
  refine K_nil ?_
  refine Q_then ?_
  refine K_if rfl (fun h12 => ?_) (fun h12 => ?_)
  ·
    have hst := els_step hu h12
    have hpf : pre ++ [Value.int .i64 (minS u)] <+: (els s).map (.int .i64) := ⟨(els (clr u (low u 1024 0))).map (.int .i64), by rw [← hpre, hst]; simp⟩
    obtain ⟨_, hlw, _⟩ := zero_or_bit hu h12
    have hcl : (if 0 ≤ minS u ∧ minS u < 1024 then clr u (minS u).toNat else u) = clr u (low u 1024 0) := by
      have hm : minS u = ((low u 1024 0 : Nat) : Int) := by rw [minS, if_neg h12]
      rw [hm, if_pos ⟨by omega, by omega⟩, Int.toNat_natCast]
    refine K_skip ?_
    refine Q_then ?_
    refine K_seq ?_
    refine K_block ?_
    refine K_seq ?_
    refine K_seq ?_
    refine K_regionX ?_
    refine X_val (R_move rfl) rfl ?_
    refine X_val (R_move rfl) rfl ?_
    refine X_yield rfl rfl (List.perm_append_comm (l₁ := [_])) (hY pre _ _ hE hpf) rfl fun V1 q1 hle1 hZ1 => ?_
    refine X_perm (_ :: q1) (List.perm_append_comm (l₂ := [_])) ?_
    refine X_val (R_not rfl) rfl ?_
    refine X_nil ?_
    refine Q_then ?_
    refine K_ifF rfl ?_
    refine K_skip ?_
    refine Q_then ?_
    refine K_region ?_
    refine KV (R_loadW ty98 0 rfl rfl rfl rfl) rfl ?_
    refine KV (R_move rfl) rfl ?_
    refine K_call c107 rfl rfl (without_spec _ _ V1) ?_
    rintro _ V2 hle2 rfl
    rw [hcl]
    refine K_storeW ty98 0 rfl rfl rfl rfl rfl rfl rfl ?_
    refine K_nil ?_
    refine Q_block ?_
    refine Q_then ?_
    refine K_region ?_
    refine KV (R_loadW ty98 0 rfl rfl rfl rfl) rfl ?_
    refine K_call c106 rfl rfl (min_spec _ (clr_big _ hu) V2 (hT.mono ((hV.trans hle1).trans hle2))) ?_
    rintro _ V'' hle3 rfl
    refine KV (R_move rfl) rfl ?_
    refine KV (R_extract rfl rfl) rfl ?_
    refine KV (R_extract rfl rfl) rfl ?_
    refine KV (R_assign rfl) rfl ?_
    refine KV (R_assign rfl) rfl ?_
    refine K_nil ?_
    exact Q_next (pre ++ [.int .i64 (minS u)], clr u (low u 1024 0), V'', q1) ⟨clr_big _ hu, by rw [← hpre, hst]; simp, (hV.trans hle1).trans (hle2.trans hle3), hZ1⟩ (by dsimp only; rw [hst]; simp) ⟨rfl, rfl, rfl, rfl, trivial⟩ rfl rfl
  ·
    have hu0 : u = 0 := by omega
    subst hu0
    rw [els_zero] at hpre
    simp only [List.map_nil, List.append_nil] at hpre
    refine K_exit ?_
    refine Q_then_exit ?_
    refine Q_then_exit ?_
    refine Q_block_exit ?_
    refine Q_fall ?_
    refine KQ_own _ (List.Sublist.cons _ (List.Sublist.refl _)) ?_
    refine results_gen (rs := []) (vs := []) rfl trivial ?_
    rw [← hpre]; exact hE

theorem collect_spec (gf : Nat) (cap : List Value) (ys : List Int) (hys : ∀ y ∈ ys, i64ok y) (hyl : ys.length ≤ 1099511627776) (H : View) (hcal : callable Tryz.prog gf = true)
    (hit : ∀ L E p, E [] p → Pal.Yields Tryz.prog L (ys.map (.int .i64)) E → SatO Tryz.prog gf ([] ++ [Value.func (.yield L) #[] #[]] ++ cap).toArray H p (fun _ _ q => E (ys.map (.int .i64)) q)) :
    Sat Tryz.prog F104 #[.slice none 0 0, .func (.func gf) #[] cap.toArray] H (fun v H' => SI H' v ys) := by
  refine enterM (n := 13) (args := [.slice none 0 0, .func (.func gf) #[] cap.toArray]) Tryz.func127 rfl rfl rfl fun w0 => ?_
  refine K_seq ?_
  refine K_region ?_
  refine KA (A_box rfl) rfl fun b2 => ?_
  refine KV (R_assign rfl) rfl ?_
  refine K_nil ?_
  refine Q_then ?_
  refine K_seq ?_
  refine K_seq ?_
  refine K_region ?_
  refine KV (R_move rfl) rfl ?_
  refine K_nil ?_
  refine Q_then ?_
  refine K_nilrow T3 1 ?_
  refine K_rangeFunc (p := [row nilS T3 1 0 [], blk b2 (.cells #[.slice none 0 0] T25 (0, 0))]) (r := []) (first := []) (cap := cap)
    (R := fun _ q' => ∃ sv, q' = [row sv T3 1 ys.length (ys.map (.int .i64)), blk b2 (.cells #[sv] T25 (0, 0))]) hcal rfl (List.Perm.refl _) ?_ ?_
  · intro fn D L ρ hm
    refine SatO.mono' (hit L (fun pre q => ∃ sv, q = [blk L (.loop (rec0 fn (fr 13 ρ).tmps #[7] _ _ D)), row sv T3 1 pre.length pre, blk b2 (.cells #[sv] T25 (0, 0))]) _ ⟨nilS, rfl⟩ ?_) ?_
    · rintro pre x p ⟨sv, rfl⟩ hpf
      have hlen : pre.length + 1 ≤ ys.length := by have := hpf.length_le; simpa using this
      obtain ⟨i, rfl⟩ : ∃ i, x = .int .i64 i := by
        have : x ∈ ys.map (Value.int .i64) := hpf.subset (by simp)
        obtain ⟨i, _, rfl⟩ := List.mem_map.1 this
        exact ⟨i, rfl⟩
      refine yok (n := 13) (pt := 7) (ρ0 := ρ) (L1 := [(2, ptr b2), (5, .int .i64 i)]) rfl rfl rfl rfl rfl hm rfl rfl rfl rfl ?_ ?_
      · intro c H
        refine KV (R_assign rfl) rfl ?_
        refine K_nil ?_
        exact Q_out ⟨rfl, rfl, rfl, rfl, trivial⟩
      · intro c H
        refine KV (R_loadO ty25 2 rfl rfl rfl rfl (fun _ => rfl) rfl) rfl ?_
        refine KV (R_move rfl) rfl ?_
        refine KA (A_buildSlice (vs := [_]) sl25 ty3 z3 rfl rfl (by simp [Value.cells]) (by simp) rfl (by decide)) rfl fun b10 => ?_
        refine K_append1 1 ap25 rfl rfl rfl rfl rfl rfl ⟨by omega, by omega⟩ rfl fun a11 k11 hn11 => ?_
        refine K_store ty25 2 rfl rfl rfl rfl rfl rfl ?_
        refine K_nil ?_
        refine KQ_sel [1, 0, 0] rfl ?_
        exact Q_out ⟨_, rfl, .slice a11 (pre.length + 1) k11, by rw [List.length_append]; rfl⟩
    · rintro v H' q ⟨sv, rfl⟩
      exact ⟨_, rfl, sv, by rw [List.length_map]⟩
  · rintro D H' q' hle ⟨sv, rfl⟩ ρ w hm ho
    refine wp_endM (hl := [row sv T3 1 ys.length (ys.map (.int .i64)), blk b2 (.cells #[sv] T25 (0, 0))]) (rs := [.tmp 4]) (vs := [sv])
      (S := fun l hl1 H1 => Pal.look l 4 = some sv ∧ hl1 = [blk D (.deferred (some [])), row sv T3 1 ys.length (ys.map (.int .i64)), blk b2 (.cells #[sv] T25 (0, 0))] ∧ H1 = H') rfl hm ho ?_ ?_
    · refine KV (R_loadO ty25 2 rfl rfl rfl rfl (fun _ => rfl) rfl) rfl ?_
      refine KV (R_assign rfl) rfl ?_
      refine K_nil ?_
      exact Q_out ⟨rfl, rfl, rfl⟩
    · rintro l' hl' H1 ⟨h1, rfl, rfl⟩
      refine ⟨_, [sv], rfl, rfl, ⟨h1, trivial⟩, fun w' ho' => ?_⟩
      obtain ⟨H2, hle2, hrow, ho2⟩ := Ok.pubrow ho' (by simp [feet])
      exact ⟨H2, _, ho2, hrow.sl, hys⟩

theorem collect80_spec (gf : Nat) (cap : List Value) (ys : List Int) (hys : ∀ y ∈ ys, i64ok y) (hyl : ys.length ≤ 1099511627776) (H : View) (hcal : callable Tryz.prog gf = true)
    (hit : ∀ L E p, E [] p → Pal.Yields Tryz.prog L (ys.map (.int .i64)) E → SatO Tryz.prog gf ([] ++ [Value.func (.yield L) #[] #[]] ++ cap).toArray H p (fun _ _ q => E (ys.map (.int .i64)) q)) :
    Sat Tryz.prog F80 #[.func (.func gf) #[] cap.toArray] H (fun v H' => SI H' v ys) := by
  refine enterO (n := 5) (args := [.func (.func gf) #[] cap.toArray]) Tryz.func102 rfl rfl rfl fun w0 => ?_
  refine K_seq ?_
  refine K_region ?_
  refine KV (R_assign rfl) rfl ?_
  refine K_nil ?_
  refine Q_then ?_
  refine K_seq ?_
  refine K_region ?_
  refine KV (R_move rfl) rfl ?_
  refine K_call c104 rfl rfl (collect_spec gf cap ys hys hyl H hcal hit) ?_
  rintro u V' hle hu
  refine KV (R_assign rfl) rfl ?_
  refine K_nil ?_
  refine Q_then ?_
  refine K_ret ?_
  refine results_gen (rs := [.tmp 2]) (vs := [_]) rfl ⟨rfl, trivial⟩ ?_
  exact hu

theorem elements_spec (s : Nat) (hs : s < big) (H : View) (hT : Tab H) : Sat Tryz.prog F43 #[setV s] H (fun v H' => SI H' v (els s)) := by
  refine enterO (n := 6) (args := [setV s]) Tryz.func67 rfl rfl rfl fun w0 => ?_
  refine K_seq ?_
  refine K_region ?_
  refine KA (A_box rfl) rfl fun b1 => ?_
  refine KV (R_assign rfl) rfl ?_
  refine K_nil ?_
  refine Q_then ?_
  refine K_seq ?_
  refine K_region ?_
  refine KV (R_loadW ty98 0 rfl rfl rfl rfl) rfl ?_
  refine K_call c81 rfl rfl (all_spec s H) ?_
  rintro _ V' hle ⟨b, rfl, hb⟩
  refine K_call c80 rfl rfl (collect80_spec F105 [ptr b] (els s) (els_ok s) (els_len s) V' c105 (fun L E p hE hY => alliter_spec s b L hs E p hE hY V' (hT.mono hle) hb)) ?_
  rintro u V'' hle2 hu
  refine KV (R_assign rfl) rfl ?_
  refine K_nil ?_
  refine Q_then ?_
  refine K_ret ?_
  refine results_gen (rs := [.tmp 2]) (vs := [_]) rfl ⟨rfl, trivial⟩ ?_
  exact hu
end Go.Proofs.X

namespace Go.Proofs.X
open Go Pal Go.Proofs
attribute [local irreducible] Pal.KO Pal.KC Pal.KQ Pal.KD
theorem ty47 : Ty Tryz.prog T47 false 1 := .of (by kernel_rfl)
theorem ty48 : Ty Tryz.prog T48 false 1 := .of (by kernel_rfl)
theorem ty50 : Ty Tryz.prog T50 true 4 := .of (by kernel_rfl)
theorem ty85 : Ty Tryz.prog T85 true 3 := .of (by kernel_rfl)
theorem ty108 : Ty Tryz.prog T108 false 1 := .of (by kernel_rfl)
theorem sl47 : slcOk Tryz.prog T47 T3 := by unfold slcOk; kernel_rfl
theorem sl48 : slcOk Tryz.prog T48 T85 := by unfold slcOk; kernel_rfl
theorem fd50_0 : fldOk Tryz.prog T50 0 0 = true := by kernel_rfl
theorem fd50_1 : fldOk Tryz.prog T50 1 1 = true := by kernel_rfl
theorem fd50_2 : fldOk Tryz.prog T50 2 2 = true := by kernel_rfl
theorem fd50_3 : fldOk Tryz.prog T50 3 3 = true := by kernel_rfl
theorem fd85_0 : fldOk Tryz.prog T85 0 0 = true := by kernel_rfl
theorem fd85_1 : fldOk Tryz.prog T85 1 1 = true := by kernel_rfl
theorem fd85_2 : fldOk Tryz.prog T85 2 2 = true := by kernel_rfl
theorem z85 : zeroOk Tryz.prog T85 (.agg #[.int .i64 0, .slice none 0 0, .int .i64 0]) := .of (by kernel_rfl)
theorem z108 : zeroOk Tryz.prog T108 (.nilFunc) := .of (by kernel_rfl)
theorem c72 : callable Tryz.prog F72 = true := by kernel_rfl
theorem c83 : callable Tryz.prog F83 = true := by kernel_rfl
theorem c84 : callable Tryz.prog F84 = true := by kernel_rfl
theorem c86 : callable Tryz.prog F86 = true := by kernel_rfl
theorem c95 : callable Tryz.prog F95 = true := by kernel_rfl
theorem c96 : callable Tryz.prog F96 = true := by kernel_rfl
theorem c97 : callable Tryz.prog F97 = true := by kernel_rfl
theorem c100 : callable Tryz.prog F100 = true := by kernel_rfl
theorem c101 : callable Tryz.prog F101 = true := by kernel_rfl
theorem c110 : callable Tryz.prog F110 = true := by kernel_rfl
theorem c112 : callable Tryz.prog F112 = true := by kernel_rfl
theorem c113 : callable Tryz.prog F113 = true := by kernel_rfl
theorem siidx_spec (f : Nat) (cap : List Value) (p : Int → Bool) (xs : List Int) (v : Value) (H : View) (hv : SI H v xs) (hl : xs.length ≤ 1099511627776) (hcal : callable Tryz.prog f = true)
    (hp : ∀ x V, x ∈ xs → VLe H V → Sat Tryz.prog f ([] ++ [Value.int .i64 x] ++ cap).toArray V (fun r _ => r = .bool (p x))) :
    Sat Tryz.prog F110 #[v, .func (.func f) #[] cap.toArray] H (fun r _ => ∃ i : Int, r = .int .i64 i ∧ (0 ≤ i ↔ ∃ x ∈ xs, p x = true)) := by
  obtain ⟨a, cp, rfl⟩ := hv.shape
  refine enterO (n := 19) (args := [.slice a xs.length cp, .func (.func f) #[] cap.toArray]) Tryz.func95 rfl rfl rfl fun w0 => ?_
  refine K_seq ?_
  refine K_region ?_
  refine KV (R_assign rfl) rfl ?_
  refine K_nil ?_
  refine Q_then ?_
  refine K_seq ?_
  refine K_seq ?_
  refine K_region ?_
  refine KV (R_move rfl) rfl ?_
  refine KV (R_len sl25 rfl) rfl ?_
  refine KV (R_move rfl) rfl ?_
  refine K_nil ?_
  refine Q_then ?_
  refine K_block ?_
  refine K_loop (G := Nat × View) ⟨fun g => [(0, .slice a xs.length cp), (1, .func (.func f) #[] cap.toArray), (7, .int .i64 xs.length), (8, .int .i64 (g.1 : Int))], fun g => [], fun g => g.2, fun g => g.1 ≤ xs.length ∧ VLe H g.2 ∧ ∀ j (h : j < xs.length), j < g.1 → p xs[j] = false, fun g => xs.length - g.1⟩ (0, H) ⟨Nat.zero_le _, VLe.refl H, fun j _ h => by simp at h⟩ ⟨rfl, rfl, rfl, rfl, trivial⟩ rfl rfl ?_
  rintro ⟨k, V⟩ ⟨hk, hV, hno⟩
  dsimp only at hk hV hno ⊢
  refine K_seq ?_
  refine K_region ?_
  refine KV (R_cmp rfl rfl rfl) rfl ?_
  refine K_nil ?_
  refine Q_then ?_
  refine K_seq ?_
  refine K_if rfl (fun h9 => ?_) (fun h9 => ?_)
  ·
    have hk' : k < xs.length := by omega
    obtain ⟨tb, to_, rfl, hta⟩ := (hv.mono hV).get hk'
    refine K_skip ?_
    refine Q_then ?_
    refine K_seq ?_
    refine K_block ?_
    refine K_seq ?_
    refine K_region ?_
    refine KV (R_move rfl) rfl ?_
    refine KV (R_assign rfl) rfl ?_
    refine K_nil ?_
    refine Q_then ?_
    refine K_seq ?_
    refine K_region ?_
    refine KV (R_move rfl) rfl ?_
    refine KV (R_move rfl) rfl ?_
    refine KV (R_move rfl) rfl ?_
    refine KV (R_indexN sl25 ty3 rfl rfl (by omega)) rfl ?_
    refine KV (R_loadH ty3 rfl (hta) rfl (fun _ => rfl) rfl) rfl ?_
    refine K_callO (first := []) [] [] (List.Perm.refl _) hcal rfl rfl rfl (hp xs[k] V (List.getElem_mem hk') hV) ?_
    rintro _ V' q hle rfl
    refine KO_own [] (List.nil_sublist _) ?_
    refine K_nil ?_
    refine Q_then ?_
    refine K_ifB rfl (fun h16 => ?_) (fun h16 => ?_)
    ·
      refine K_seq ?_
      refine K_region ?_
      refine KV (R_move rfl) rfl ?_
      refine KV (R_assign rfl) rfl ?_
      refine K_nil ?_
      refine Q_then ?_
      refine K_ret ?_
      refine Q_block_ret ?_
      refine Q_then_ret ?_
      refine Q_then_ret ?_
      refine Q_block_ret ?_
      refine Q_then_ret ?_
      refine results_gen (rs := [.tmp 4]) (vs := [_]) rfl ⟨rfl, trivial⟩ ?_
      exact ⟨k, rfl, ⟨fun _ => ⟨_, List.getElem_mem hk', h16⟩, fun _ => by omega⟩⟩
    ·
      have hno2 : ∀ j (h : j < xs.length), j < k + 1 → p xs[j] = false := by
        intro j h hj
        by_cases e : j = k
        · subst e; exact h16
        · exact hno j h (by omega)
      refine K_skip ?_
      refine Q_block ?_
      refine Q_then ?_
      refine K_region ?_
      refine KV (R_add rfl rfl (by omega)) rfl ?_
      refine KV (R_move rfl) rfl ?_
      refine K_nil ?_
      exact Q_next (k + 1, V') ⟨hk', hV.trans hle, hno2⟩ (by dsimp only; omega) ⟨rfl, rfl, rfl, rfl, trivial⟩ rfl rfl
  ·
    have hk' : k = xs.length := by omega
    refine K_exit ?_
    refine Q_then_exit ?_
    refine Q_then_exit ?_
    refine Q_block_exit ?_
    refine Q_then ?_
    refine K_seq ?_
    refine K_region ?_
    refine KV (R_assign rfl) rfl ?_
    refine K_nil ?_
    refine Q_then ?_
    refine K_ret ?_
    refine results_gen (rs := [.tmp 4]) (vs := [_]) rfl ⟨rfl, trivial⟩ ?_
    refine ⟨-1, rfl, ⟨fun h => by omega, ?_⟩⟩
    rintro ⟨x, hx, hpx⟩
    obtain ⟨j, hj, rfl⟩ := List.getElem_of_mem hx
    rw [hno j hj (by omega)] at hpx; cases hpx

theorem sicon_spec (f : Nat) (cap : List Value) (p : Int → Bool) (xs : List Int) (v : Value) (H : View) (hv : SI H v xs) (hl : xs.length ≤ 1099511627776) (hcal : callable Tryz.prog f = true)
    (hp : ∀ x V, x ∈ xs → VLe H V → Sat Tryz.prog f ([] ++ [Value.int .i64 x] ++ cap).toArray V (fun r _ => r = .bool (p x))) :
    Sat Tryz.prog F86 #[v, .func (.func f) #[] cap.toArray] H (fun r _ => r = .bool (xs.any p)) := by
  obtain ⟨a, cp, rfl⟩ := hv.shape
  refine enterO (n := 9) (args := [.slice a xs.length cp, .func (.func f) #[] cap.toArray]) Tryz.func58 rfl rfl rfl fun w0 => ?_
  refine K_seq ?_
  refine K_region ?_
  refine KV (R_assign rfl) rfl ?_
  refine K_nil ?_
  refine Q_then ?_
  refine K_seq ?_
  refine K_region ?_
  refine KV (R_move rfl) rfl ?_
  refine KV (R_move rfl) rfl ?_
  refine K_call c110 rfl rfl (siidx_spec f cap p xs _ H hv hl hcal hp) ?_
  rintro _ V' hle ⟨i, rfl, hi⟩
  refine KV (R_cmp rfl rfl rfl) rfl ?_
  refine KV (R_assign rfl) rfl ?_
  refine K_nil ?_
  refine Q_then ?_
  refine K_ret ?_
  refine results_gen (rs := [.tmp 4]) (vs := [_]) rfl ⟨rfl, trivial⟩ ?_
  refine congrArg Value.bool ?_
  by_cases h : 0 ≤ i
  · rw [decide_eq_true h]; exact (List.any_eq_true.2 (hi.1 h)).symm
  · rw [decide_eq_false h]; exact (Bool.eq_false_iff.2 fun h2 => h (hi.2 (List.any_eq_true.1 h2))).symm

theorem saidx_spec (f : Nat) (cap : List Value) (p : Int → Bool) (xs : List Int) (v : Value) (H : View) (hv : SI H v xs) (hl : xs.length ≤ 1099511627776) (hcal : callable Tryz.prog f = true)
    (hp : ∀ x V, x ∈ xs → VLe H V → Sat Tryz.prog f ([] ++ [Value.int .i64 x] ++ cap).toArray V (fun r _ => r = .bool (p x))) :
    Sat Tryz.prog F112 #[v, .func (.func f) #[] cap.toArray] H (fun r _ => ∃ i : Int, r = .int .i64 i ∧ (0 ≤ i ↔ ∃ x ∈ xs, p x = true)) := by
  obtain ⟨a, cp, rfl⟩ := hv.shape
  refine enterO (n := 19) (args := [.slice a xs.length cp, .func (.func f) #[] cap.toArray]) Tryz.func104 rfl rfl rfl fun w0 => ?_
  refine K_seq ?_
  refine K_region ?_
  refine KV (R_assign rfl) rfl ?_
  refine K_nil ?_
  refine Q_then ?_
  refine K_seq ?_
  refine K_seq ?_
  refine K_region ?_
  refine KV (R_move rfl) rfl ?_
  refine KV (R_len sl47 rfl) rfl ?_
  refine KV (R_move rfl) rfl ?_
  refine K_nil ?_
  refine Q_then ?_
  refine K_block ?_
  refine K_loop (G := Nat × View) ⟨fun g => [(0, .slice a xs.length cp), (1, .func (.func f) #[] cap.toArray), (7, .int .i64 xs.length), (8, .int .i64 (g.1 : Int))], fun g => [], fun g => g.2, fun g => g.1 ≤ xs.length ∧ VLe H g.2 ∧ ∀ j (h : j < xs.length), j < g.1 → p xs[j] = false, fun g => xs.length - g.1⟩ (0, H) ⟨Nat.zero_le _, VLe.refl H, fun j _ h => by simp at h⟩ ⟨rfl, rfl, rfl, rfl, trivial⟩ rfl rfl ?_
  rintro ⟨k, V⟩ ⟨hk, hV, hno⟩
  dsimp only at hk hV hno ⊢
  refine K_seq ?_
  refine K_region ?_
  refine KV (R_cmp rfl rfl rfl) rfl ?_
  refine K_nil ?_
  refine Q_then ?_
  refine K_seq ?_
  refine K_if rfl (fun h9 => ?_) (fun h9 => ?_)
  ·
    have hk' : k < xs.length := by omega
    obtain ⟨tb, to_, rfl, hta⟩ := (hv.mono hV).get hk'
    refine K_skip ?_
    refine Q_then ?_
    refine K_seq ?_
    refine K_block ?_
    refine K_seq ?_
    refine K_region ?_
    refine KV (R_move rfl) rfl ?_
    refine KV (R_assign rfl) rfl ?_
    refine K_nil ?_
    refine Q_then ?_
    refine K_seq ?_
    refine K_region ?_
    refine KV (R_move rfl) rfl ?_
    refine KV (R_move rfl) rfl ?_
    refine KV (R_move rfl) rfl ?_
    refine KV (R_indexN sl47 ty3 rfl rfl (by omega)) rfl ?_
    refine KV (R_loadH ty3 rfl (hta) rfl (fun _ => rfl) rfl) rfl ?_
    refine K_callO (first := []) [] [] (List.Perm.refl _) hcal rfl rfl rfl (hp xs[k] V (List.getElem_mem hk') hV) ?_
    rintro _ V' q hle rfl
    refine KO_own [] (List.nil_sublist _) ?_
    refine K_nil ?_
    refine Q_then ?_
    refine K_ifB rfl (fun h16 => ?_) (fun h16 => ?_)
    ·
      refine K_seq ?_
      refine K_region ?_
      refine KV (R_move rfl) rfl ?_
      refine KV (R_assign rfl) rfl ?_
      refine K_nil ?_
      refine Q_then ?_
      refine K_ret ?_
      refine Q_block_ret ?_
      refine Q_then_ret ?_
      refine Q_then_ret ?_
      refine Q_block_ret ?_
      refine Q_then_ret ?_
      refine results_gen (rs := [.tmp 4]) (vs := [_]) rfl ⟨rfl, trivial⟩ ?_
      exact ⟨k, rfl, ⟨fun _ => ⟨_, List.getElem_mem hk', h16⟩, fun _ => by omega⟩⟩
    ·
      have hno2 : ∀ j (h : j < xs.length), j < k + 1 → p xs[j] = false := by
        intro j h hj
        by_cases e : j = k
        · subst e; exact h16
        · exact hno j h (by omega)
      refine K_skip ?_
      refine Q_block ?_
      refine Q_then ?_
      refine K_region ?_
      refine KV (R_add rfl rfl (by omega)) rfl ?_
      refine KV (R_move rfl) rfl ?_
      refine K_nil ?_
      exact Q_next (k + 1, V') ⟨hk', hV.trans hle, hno2⟩ (by dsimp only; omega) ⟨rfl, rfl, rfl, rfl, trivial⟩ rfl rfl
  ·
    have hk' : k = xs.length := by omega
    refine K_exit ?_
    refine Q_then_exit ?_
    refine Q_then_exit ?_
    refine Q_block_exit ?_
    refine Q_then ?_
    refine K_seq ?_
    refine K_region ?_
    refine KV (R_assign rfl) rfl ?_
    refine K_nil ?_
    refine Q_then ?_
    refine K_ret ?_
    refine results_gen (rs := [.tmp 4]) (vs := [_]) rfl ⟨rfl, trivial⟩ ?_
    refine ⟨-1, rfl, ⟨fun h => by omega, ?_⟩⟩
    rintro ⟨x, hx, hpx⟩
    obtain ⟨j, hj, rfl⟩ := List.getElem_of_mem hx
    rw [hno j hj (by omega)] at hpx; cases hpx

theorem sacon_spec (f : Nat) (cap : List Value) (p : Int → Bool) (xs : List Int) (v : Value) (H : View) (hv : SI H v xs) (hl : xs.length ≤ 1099511627776) (hcal : callable Tryz.prog f = true)
    (hp : ∀ x V, x ∈ xs → VLe H V → Sat Tryz.prog f ([] ++ [Value.int .i64 x] ++ cap).toArray V (fun r _ => r = .bool (p x))) :
    Sat Tryz.prog F95 #[v, .func (.func f) #[] cap.toArray] H (fun r _ => r = .bool (xs.any p)) := by
  obtain ⟨a, cp, rfl⟩ := hv.shape
  refine enterO (n := 9) (args := [.slice a xs.length cp, .func (.func f) #[] cap.toArray]) Tryz.func72 rfl rfl rfl fun w0 => ?_
  refine K_seq ?_
  refine K_region ?_
  refine KV (R_assign rfl) rfl ?_
  refine K_nil ?_
  refine Q_then ?_
  refine K_seq ?_
  refine K_region ?_
  refine KV (R_move rfl) rfl ?_
  refine KV (R_move rfl) rfl ?_
  refine K_call c112 rfl rfl (saidx_spec f cap p xs _ H hv hl hcal hp) ?_
  rintro _ V' hle ⟨i, rfl, hi⟩
  refine KV (R_cmp rfl rfl rfl) rfl ?_
  refine KV (R_assign rfl) rfl ?_
  refine K_nil ?_
  refine Q_then ?_
  refine K_ret ?_
  refine results_gen (rs := [.tmp 4]) (vs := [_]) rfl ⟨rfl, trivial⟩ ?_
  refine congrArg Value.bool ?_
  by_cases h : 0 ≤ i
  · rw [decide_eq_true h]; exact (List.any_eq_true.2 (hi.1 h)).symm
  · rw [decide_eq_false h]; exact (Bool.eq_false_iff.2 fun h2 => h (hi.2 (List.any_eq_true.1 h2))).symm

theorem rank_spec (x : Int) (H : View) : Sat Tryz.prog F96 #[.int .i64 x] H (fun v _ => v = .bool (decide (x < 0 ∨ 2 < x))) := by
  refine enterO (n := 9) (args := [.int .i64 x]) Tryz.func73 rfl rfl rfl fun w0 => ?_
  refine K_seq ?_
  refine K_region ?_
  refine KV (R_assign rfl) rfl ?_
  refine K_nil ?_
  refine Q_then ?_
  refine K_seq ?_
  refine K_region ?_
  refine KV (R_move rfl) rfl ?_
  refine KV (R_cmp rfl rfl rfl) rfl ?_
  refine KV (R_move rfl) rfl ?_
  refine K_split ?_ ?_
  ·
    intro h5
    refine K_gno rfl rfl rfl rfl ?_
    refine K_gno rfl rfl rfl rfl ?_
    refine KV (R_pickT rfl rfl) rfl ?_
    refine KV (R_assign rfl) rfl ?_
    refine K_nil ?_
    refine Q_then ?_
    refine K_ret ?_
    refine results_gen (rs := [.tmp 2]) (vs := [_]) rfl ⟨rfl, trivial⟩ ?_
    simp [tupV, h5]
  ·
    intro h5
    refine K_gyes rfl rfl ?_
    refine KV (R_move rfl) rfl ?_
    refine K_gyes rfl rfl ?_
    refine KV (R_cmp rfl rfl rfl) rfl ?_
    refine KV (R_pickF rfl rfl) rfl ?_
    refine KV (R_assign rfl) rfl ?_
    refine K_nil ?_
    refine Q_then ?_
    refine K_ret ?_
    refine results_gen (rs := [.tmp 2]) (vs := [_]) rfl ⟨rfl, trivial⟩ ?_
    simp [tupV, h5]

theorem idx_spec (y : Int) (xs : List Int) (v : Value) (H : View) (hv : SI H v xs) (hl : xs.length ≤ 1099511627776) : Sat Tryz.prog F113 #[v, .int .i64 y] H (fun r _ => ∃ i : Int, r = .int .i64 i ∧ (0 ≤ i ↔ y ∈ xs)) := by
  obtain ⟨a, cp, rfl⟩ := hv.shape
  refine enterO (n := 19) (args := [.slice a xs.length cp, .int .i64 y]) Tryz.func105 rfl rfl rfl fun w0 => ?_
  refine K_seq ?_
  refine K_region ?_
  refine KV (R_assign rfl) rfl ?_
  refine K_nil ?_
  refine Q_then ?_
  refine K_seq ?_
  refine K_seq ?_
  refine K_region ?_
  refine KV (R_move rfl) rfl ?_
  refine KV (R_len sl47 rfl) rfl ?_
  refine KV (R_move rfl) rfl ?_
  refine K_nil ?_
  refine Q_then ?_
  refine K_block ?_
  refine K_loop (G := Nat) ⟨fun g => [(0, .slice a xs.length cp), (1, .int .i64 y), (7, .int .i64 xs.length), (8, .int .i64 (g : Int))], fun g => [], fun g => H, fun g => g ≤ xs.length ∧ ∀ j (h : j < xs.length), j < g → xs[j] ≠ y, fun g => xs.length - g⟩ 0 ⟨Nat.zero_le _, fun j _ h => by simp at h⟩ ⟨rfl, rfl, rfl, rfl, trivial⟩ rfl rfl ?_
  rintro k ⟨hk, hno⟩
  dsimp only at hk hno ⊢
  refine K_seq ?_
  refine K_region ?_
  refine KV (R_cmp rfl rfl rfl) rfl ?_
  refine K_nil ?_
  refine Q_then ?_
  refine K_seq ?_
  refine K_if rfl (fun h9 => ?_) (fun h9 => ?_)
  ·
    have hk' : k < xs.length := by omega
    obtain ⟨tb, to_, rfl, hta⟩ := hv.get hk'
    refine K_skip ?_
    refine Q_then ?_
    refine K_seq ?_
    refine K_block ?_
    refine K_seq ?_
    refine K_region ?_
    refine KV (R_move rfl) rfl ?_
    refine KV (R_assign rfl) rfl ?_
    refine K_nil ?_
    refine Q_then ?_
    refine K_seq ?_
    refine K_region ?_
    refine KV (R_move rfl) rfl ?_
    refine KV (R_move rfl) rfl ?_
    refine KV (R_move rfl) rfl ?_
    refine KV (R_indexN sl47 ty3 rfl rfl (by omega)) rfl ?_
    refine KV (R_loadH ty3 rfl (hta) rfl (fun _ => rfl) rfl) rfl ?_
    refine KV (R_cmp rfl rfl rfl) rfl ?_
    refine K_nil ?_
    refine Q_then ?_
    refine K_if rfl (fun h16 => ?_) (fun h16 => ?_)
    ·
      refine K_seq ?_
      refine K_region ?_
      refine KV (R_move rfl) rfl ?_
      refine KV (R_assign rfl) rfl ?_
      refine K_nil ?_
      refine Q_then ?_
      refine K_ret ?_
      refine Q_block_ret ?_
      refine Q_then_ret ?_
      refine Q_then_ret ?_
      refine Q_block_ret ?_
      refine Q_then_ret ?_
      refine results_gen (rs := [.tmp 4]) (vs := [_]) rfl ⟨rfl, trivial⟩ ?_
      exact ⟨k, rfl, ⟨fun _ => h16 ▸ List.getElem_mem hk', fun _ => by omega⟩⟩
    ·
      have hno2 : ∀ j (h : j < xs.length), j < k + 1 → xs[j] ≠ y := by
        intro j h hj
        by_cases e : j = k
        · subst e; exact fun e => h16 e.symm
        · exact hno j h (by omega)
      refine K_skip ?_
      refine Q_block ?_
      refine Q_then ?_
      refine K_region ?_
      refine KV (R_add rfl rfl (by omega)) rfl ?_
      refine KV (R_move rfl) rfl ?_
      refine K_nil ?_
      exact Q_next (k + 1) ⟨hk', hno2⟩ (by dsimp only; omega) ⟨rfl, rfl, rfl, rfl, trivial⟩ rfl rfl
  ·
    have hk' : k = xs.length := by omega
    refine K_exit ?_
    refine Q_then_exit ?_
    refine Q_then_exit ?_
    refine Q_block_exit ?_
    refine Q_then ?_
    refine K_seq ?_
    refine K_region ?_
    refine KV (R_assign rfl) rfl ?_
    refine K_nil ?_
    refine Q_then ?_
    refine K_ret ?_
    refine results_gen (rs := [.tmp 4]) (vs := [_]) rfl ⟨rfl, trivial⟩ ?_
    refine ⟨-1, rfl, ⟨fun h => by omega, ?_⟩⟩
    intro hx
    obtain ⟨j, hj, e⟩ := List.getElem_of_mem hx
    exact absurd e (hno j hj (by omega))

theorem mem_spec (y : Int) (xs : List Int) (v : Value) (H : View) (hv : SI H v xs) (hl : xs.length ≤ 1099511627776) : Sat Tryz.prog F97 #[v, .int .i64 y] H (fun r _ => r = .bool (decide (y ∈ xs))) := by
  obtain ⟨a, cp, rfl⟩ := hv.shape
  refine enterO (n := 9) (args := [.slice a xs.length cp, .int .i64 y]) Tryz.func74 rfl rfl rfl fun w0 => ?_
  refine K_seq ?_
  refine K_region ?_
  refine KV (R_assign rfl) rfl ?_
  refine K_nil ?_
  refine Q_then ?_
  refine K_seq ?_
  refine K_region ?_
  refine KV (R_move rfl) rfl ?_
  refine KV (R_move rfl) rfl ?_
  refine K_call c113 rfl rfl (idx_spec y xs _ H hv hl) ?_
  rintro _ V' hle ⟨i, rfl, hi⟩
  refine KV (R_cmp rfl rfl rfl) rfl ?_
  refine KV (R_assign rfl) rfl ?_
  refine K_nil ?_
  refine Q_then ?_
  refine K_ret ?_
  refine results_gen (rs := [.tmp 4]) (vs := [_]) rfl ⟨rfl, trivial⟩ ?_
  refine congrArg Value.bool ?_
  simp only [decide_eq_decide]
  exact hi

theorem acheck_spec (xs : List Int) (v : Value) (H : View) (hv : SI H v xs) (hl : xs.length ≤ 1099511627776) : Sat Tryz.prog F72 #[v] H (fun r _ => r = .int .i64 (ranksErr xs)) := by
  obtain ⟨a, cp, rfl⟩ := hv.shape
  refine enterO (n := 19) (args := [.slice a xs.length cp]) Tryz.func33 rfl rfl rfl fun w0 => ?_
  refine K_seq ?_
  refine K_region ?_
  refine KV (R_assign rfl) rfl ?_
  refine K_nil ?_
  refine Q_then ?_
  refine K_seq ?_
  refine K_block ?_
  refine K_seq ?_
  refine K_region ?_
  refine KV (R_move rfl) rfl ?_
  refine KV (R_len sl47 rfl) rfl ?_
  refine KV (R_cmp rfl rfl rfl) rfl ?_
  refine KV (R_move rfl) rfl ?_
  refine K_split ?_ ?_
  ·
    intro h7
    refine K_gno rfl rfl rfl rfl ?_
    refine K_gno rfl rfl rfl rfl ?_
    refine K_gno rfl rfl rfl rfl ?_
    refine KV (R_pickT rfl rfl) rfl ?_
    refine KV (R_assign rfl) rfl ?_
    refine K_nil ?_
    refine Q_then ?_
    refine K_ifT rfl ?_
    refine K_seq ?_
    refine K_region ?_
    refine KV (R_assign rfl) rfl ?_
    refine K_nil ?_
    refine Q_then ?_
    refine K_ret ?_
    refine Q_block_ret ?_
    refine Q_then_ret ?_
    refine results_gen (rs := [.tmp 2]) (vs := [_]) rfl ⟨rfl, trivial⟩ ?_
    simp only [tupV, ranksErr]
    rw [if_pos (.inl h7)]
  ·
    intro h7
    refine K_gyes rfl rfl ?_
    refine KV (R_move rfl) rfl ?_
    refine K_gyes rfl rfl ?_
    refine KV (R_len sl47 rfl) rfl ?_
    refine K_gyes rfl rfl ?_
    refine KV (R_cmp rfl rfl rfl) rfl ?_
    refine KV (R_pickF rfl rfl) rfl ?_
    refine K_split ?_ ?_
    ·
      intro h11
      refine KV (R_assign rfl) rfl ?_
      refine K_nil ?_
      refine Q_then ?_
      refine K_ifT rfl ?_
      refine K_seq ?_
      refine K_region ?_
      refine KV (R_assign rfl) rfl ?_
      refine K_nil ?_
      refine Q_then ?_
      refine K_ret ?_
      refine Q_block_ret ?_
      refine Q_then_ret ?_
      refine results_gen (rs := [.tmp 2]) (vs := [_]) rfl ⟨rfl, trivial⟩ ?_
      simp only [tupV, ranksErr]
      rw [if_pos (.inr h11)]
    ·
      intro h11
      refine KV (R_assign rfl) rfl ?_
      refine K_nil ?_
      refine Q_then ?_
      refine K_ifF rfl ?_
      refine K_seq ?_
      refine K_region ?_
      refine KV (R_move rfl) rfl ?_
      refine K_call c95 rfl rfl (sacon_spec F96 [] (fun x => decide (x < 0 ∨ 2 < x)) xs _ H hv hl c96 (fun x V _ _ => rank_spec x V)) ?_
      rintro _ V1 hle1 rfl
      refine KV (R_assign rfl) rfl ?_
      refine K_nil ?_
      refine Q_then ?_
      refine K_ifB rfl (fun h12 => ?_) (fun h12 => ?_)
      ·
        refine K_seq ?_
        refine K_region ?_
        refine KV (R_assign rfl) rfl ?_
        refine K_nil ?_
        refine Q_then ?_
        refine K_ret ?_
        refine Q_block_ret ?_
        refine Q_then_ret ?_
        refine results_gen (rs := [.tmp 2]) (vs := [_]) rfl ⟨rfl, trivial⟩ ?_
        simp only [tupV, ranksErr]
        rw [if_neg (by omega), if_pos h12]
      ·
        refine K_seq ?_
        refine K_region ?_
        refine KV (R_move rfl) rfl ?_
        refine K_call c97 rfl rfl (mem_spec 0 xs _ V1 (hv.mono hle1) hl) ?_
        rintro _ V2 hle2 rfl
        refine KV (R_notP rfl) rfl ?_
        refine KV (R_assign rfl) rfl ?_
        refine K_nil ?_
        refine Q_then ?_
        refine K_if rfl (fun h15 => ?_) (fun h15 => ?_)
        ·
          refine K_seq ?_
          refine K_region ?_
          refine KV (R_assign rfl) rfl ?_
          refine K_nil ?_
          refine Q_then ?_
          refine K_ret ?_
          refine Q_block_ret ?_
          refine Q_then_ret ?_
          refine results_gen (rs := [.tmp 2]) (vs := [_]) rfl ⟨rfl, trivial⟩ ?_
          simp only [tupV, ranksErr]
          rw [if_neg (by omega), if_neg (by rw [h12]; simp), if_pos h15]
        ·
          refine K_skip ?_
          refine Q_block ?_
          refine Q_then ?_
          refine K_seq ?_
          refine K_region ?_
          refine KV (R_assign rfl) rfl ?_
          refine K_nil ?_
          refine Q_then ?_
          refine K_ret ?_
          refine results_gen (rs := [.tmp 2]) (vs := [_]) rfl ⟨rfl, trivial⟩ ?_
          simp only [tupV, ranksErr]
          rw [if_neg (by omega), if_neg (by rw [h12]; simp), if_neg h15]

theorem nhas_spec (vr vu vf : Value) (n q : Int) (H : View) : Sat Tryz.prog F101 #[.agg #[vr, .int .i64 n, vu, vf], .int .i64 q] H (fun r _ => r = .bool (decide (0 ≤ q ∧ q < n))) := by
  refine enterO (n := 13) (args := [.agg #[vr, .int .i64 n, vu, vf], .int .i64 q]) Tryz.func113 rfl rfl rfl fun w0 => ?_
  refine K_seq ?_
  refine K_region ?_
  refine KA (A_box rfl) rfl fun b2 => ?_
  refine KV (R_assign rfl) rfl ?_
  refine K_nil ?_
  refine Q_then ?_
  refine K_seq ?_
  refine K_region ?_
  refine KV (R_move rfl) rfl ?_
  refine KV (R_cmp rfl rfl rfl) rfl ?_
  refine KV (R_move rfl) rfl ?_
  refine K_split ?_ ?_
  ·
    intro h7
    refine K_gyes rfl rfl ?_
    refine KV (R_move rfl) rfl ?_
    refine K_gyes rfl rfl ?_
    refine KV (R_fieldAddr 1 fd50_1 rfl) rfl ?_
    refine K_gyes rfl rfl ?_
    refine KV (R_loadO ty3 0 rfl rfl rfl rfl (fun _ => rfl) rfl) rfl ?_
    refine K_gyes rfl rfl ?_
    refine KV (R_cmp rfl rfl rfl) rfl ?_
    refine KV (R_pickT rfl rfl) rfl ?_
    refine KV (R_assign rfl) rfl ?_
    refine K_nil ?_
    refine Q_then ?_
    refine K_ret ?_
    refine results_gen (rs := [.tmp 4]) (vs := [_]) rfl ⟨rfl, trivial⟩ ?_
    simp [tupV, h7]
  ·
    intro h7
    refine K_gno rfl rfl rfl rfl ?_
    refine K_gno rfl rfl rfl rfl ?_
    refine K_gno rfl rfl rfl rfl ?_
    refine K_gno rfl rfl rfl rfl ?_
    refine KV (R_pickF rfl rfl) rfl ?_
    refine KV (R_assign rfl) rfl ?_
    refine K_nil ?_
    refine Q_then ?_
    refine K_ret ?_
    refine results_gen (rs := [.tmp 4]) (vs := [_]) rfl ⟨rfl, trivial⟩ ?_
    simp [tupV, h7]

theorem nbad_spec (vr vu vf : Value) (n : Int) (b : Nat) (q : Int) (H : View) (hb : At H b 0 [vr, .int .i64 n, vu, vf]) : Sat Tryz.prog F100 #[.int .i64 q, ptr b] H (fun r _ => r = .bool (badQ n q)) := by
  refine enterO (n := 8) (args := [.int .i64 q, ptr b]) Tryz.func112 rfl rfl rfl fun w0 => ?_
  refine K_seq ?_
  refine K_region ?_
  refine KV (R_assign rfl) rfl ?_
  refine K_nil ?_
  refine Q_then ?_
  refine K_seq ?_
  refine K_region ?_
  refine KV (R_loadH ty50 rfl (hb) rfl (fun e => by cases e) rfl) rfl ?_
  refine KV (R_move rfl) rfl ?_
  refine K_call c101 rfl rfl (nhas_spec vr vu vf n q H) ?_
  rintro _ V' hle rfl
  refine KV (R_not rfl) rfl ?_
  refine KV (R_assign rfl) rfl ?_
  refine K_nil ?_
  refine Q_then ?_
  refine K_ret ?_
  refine results_gen (rs := [.tmp 3]) (vs := [_]) rfl ⟨rfl, trivial⟩ ?_
  rfl

theorem ncheck_spec (a : Au) (vr vu vf : Value) (H : View) (ha : RepAu H a vr vu vf) : Sat Tryz.prog F77 #[.agg #[vr, .int .i64 a.states, vu, vf]] H (fun r _ => r = .int .i64 (auErr a)) := by
  obtain ⟨ra, rcp, rfl⟩ := ha.r.shape
  obtain ⟨fa, fcp, rfl⟩ := ha.f.shape
  obtain ⟨ua, ucp, rfl⟩ := ha.ushape
  have hrl := ha.rl
  have hul := ha.ul
  have hfl := ha.fl
  refine enterO (n := 74) (args := [.agg #[.slice ra a.ranks.length rcp, .int .i64 a.states, .slice ua a.rules.length ucp, .slice fa a.final.length fcp]]) Tryz.func82 rfl rfl rfl fun w0 => ?_
  refine K_seq ?_
  refine K_region ?_
  refine KA (A_box rfl) rfl fun b1 => ?_
  refine KV (R_assign rfl) rfl ?_
  refine K_nil ?_
  refine KQ_pubblk (by intro x hx; simp [feet] at hx) fun V0 hle0 hb1 => ?_
  have hA := At.of hb1
  have hA0 := hA.one (j := 0) rfl
  have hA1 := hA.one (j := 1) rfl
  have hA2 := hA.one (j := 2) rfl
  have hA3 := hA.one (j := 3) rfl
  refine Q_then ?_
  refine K_seq ?_
  refine K_seq ?_
  refine K_region ?_
  refine KV (R_fieldAddr 0 fd50_0 rfl) rfl ?_
  refine KV (R_loadH ty47 rfl (hA0) rfl (fun _ => rfl) rfl) rfl ?_
  refine K_call c72 rfl rfl (acheck_spec a.ranks _ V0 (ha.r.mono hle0) hrl) ?_
  rintro _ V1 hle1 rfl
  refine KV (R_assign rfl) rfl ?_
  refine K_nil ?_
  refine Q_then ?_
  refine K_seq ?_
  refine K_region ?_
  refine KV (R_move rfl) rfl ?_
  refine KV (R_cmp rfl rfl rfl) rfl ?_
  refine K_nil ?_
  refine Q_then ?_
  refine K_if rfl (fun h11 => ?_) (fun h11 => ?_)
  ·
    refine K_seq ?_
    refine K_region ?_
    refine KV (R_move rfl) rfl ?_
    refine KV (R_assign rfl) rfl ?_
    refine K_nil ?_
    refine Q_then ?_
    refine K_ret ?_
    refine Q_then_ret ?_
    refine results_gen (rs := [.tmp 2]) (vs := [_]) rfl ⟨rfl, trivial⟩ ?_
    simp only [tupV, auErr]
    rw [if_pos h11]
  ·
    refine K_skip ?_
    refine Q_then ?_
    refine K_seq ?_
    refine K_seq ?_
    refine K_region ?_
    refine KV (R_fieldAddr 1 fd50_1 rfl) rfl ?_
    refine KV (R_loadH ty3 rfl (hA1.mono hle1) rfl (fun _ => rfl) rfl) rfl ?_
    refine KV (R_cmp rfl rfl rfl) rfl ?_
    refine KV (R_move rfl) rfl ?_
    refine K_split ?_ ?_
    ·
      intro h16
      refine K_gno rfl rfl rfl rfl ?_
      refine K_gno rfl rfl rfl rfl ?_
      refine K_gno rfl rfl rfl rfl ?_
      refine KV (R_pickT rfl rfl) rfl ?_
      refine KV (R_move rfl) rfl ?_
      refine K_gno rfl rfl rfl rfl ?_
      refine K_gno rfl rfl rfl rfl ?_
      refine K_gno rfl rfl rfl rfl ?_
      refine K_gno rfl rfl rfl rfl ?_
      refine KV (R_pickT rfl rfl) rfl ?_
      refine K_nil ?_
      refine Q_then ?_
      refine K_ifT rfl ?_
      refine K_seq ?_
      refine K_region ?_
      refine KV (R_assign rfl) rfl ?_
      refine K_nil ?_
      refine Q_then ?_
      refine K_ret ?_
      refine Q_then_ret ?_
      refine results_gen (rs := [.tmp 2]) (vs := [_]) rfl ⟨rfl, trivial⟩ ?_
      simp only [tupV, auErr]
      rw [if_neg h11, if_pos (.inl h16)]
    ·
      intro h16
      refine K_gyes rfl rfl ?_
      refine KV (R_fieldAddr 1 fd50_1 rfl) rfl ?_
      refine K_gyes rfl rfl ?_
      refine KV (R_loadH ty3 rfl (hA1.mono hle1) rfl (fun _ => rfl) rfl) rfl ?_
      refine K_gyes rfl rfl ?_
      refine KV (R_cmp rfl rfl rfl) rfl ?_
      refine KV (R_pickF rfl rfl) rfl ?_
      refine KV (R_move rfl) rfl ?_
      refine K_split ?_ ?_
      ·
        intro h21
        refine K_gno rfl rfl rfl rfl ?_
        refine K_gno rfl rfl rfl rfl ?_
        refine K_gno rfl rfl rfl rfl ?_
        refine K_gno rfl rfl rfl rfl ?_
        refine KV (R_pickT rfl rfl) rfl ?_
        refine K_nil ?_
        refine Q_then ?_
        refine K_ifT rfl ?_
        refine K_seq ?_
        refine K_region ?_
        refine KV (R_assign rfl) rfl ?_
        refine K_nil ?_
        refine Q_then ?_
        refine K_ret ?_
        refine Q_then_ret ?_
        refine results_gen (rs := [.tmp 2]) (vs := [_]) rfl ⟨rfl, trivial⟩ ?_
        simp only [tupV, auErr]
        rw [if_neg h11, if_pos (.inr (.inl h21))]
      ·
        intro h21
        refine K_gyes rfl rfl ?_
        refine KV (R_fieldAddr 2 fd50_2 rfl) rfl ?_
        refine K_gyes rfl rfl ?_
        refine KV (R_loadH ty48 rfl (hA2.mono hle1) rfl (fun _ => rfl) rfl) rfl ?_
        refine K_gyes rfl rfl ?_
        refine KV (R_len sl48 rfl) rfl ?_
        refine K_gyes rfl rfl ?_
        refine KV (R_cmp rfl rfl rfl) rfl ?_
        refine KV (R_pickF rfl rfl) rfl ?_
        refine K_nil ?_
        refine Q_then ?_
        refine K_if rfl (fun h26 => ?_) (fun h26 => ?_)
        ·
          refine K_seq ?_
          refine K_region ?_
          refine KV (R_assign rfl) rfl ?_
          refine K_nil ?_
          refine Q_then ?_
          refine K_ret ?_
          refine Q_then_ret ?_
          refine results_gen (rs := [.tmp 2]) (vs := [_]) rfl ⟨rfl, trivial⟩ ?_
          simp only [tupV, auErr]
          rw [if_neg h11, if_pos (.inr (.inr h26))]
        ·
          refine K_skip ?_
          refine Q_then ?_
          refine K_seq ?_
          refine K_region ?_
          refine KV (R_makeFunc rfl rfl) rfl ?_
          refine KV (R_assign rfl) rfl ?_
          refine K_nil ?_
          refine Q_then ?_
          refine K_seq ?_
          refine K_seq ?_
          refine K_region ?_
          refine KV (R_fieldAddr 2 fd50_2 rfl) rfl ?_
          refine KV (R_loadH ty48 rfl (hA2.mono hle1) rfl (fun _ => rfl) rfl) rfl ?_
          refine KV (R_len sl48 rfl) rfl ?_
          refine KV (R_move rfl) rfl ?_
          refine K_nil ?_
          refine Q_then ?_
          refine K_block ?_
          refine K_loop (G := Nat × View) ⟨fun g => [(1, ptr b1), (4, .func (.func F100) #[] #[ptr b1]), (29, .slice ua a.rules.length ucp), (30, .int .i64 a.rules.length), (31, .int .i64 (g.1 : Int))], fun g => [], fun g => g.2, fun g => g.1 ≤ a.rules.length ∧ VLe V0 g.2 ∧ ∀ j (hj : j < a.rules.length), j < g.1 → ruleErr a a.rules[j] = 0, fun g => a.rules.length - g.1⟩ (0, V1) ⟨Nat.zero_le _, hle1, fun j _ h => by simp at h⟩ ⟨rfl, rfl, rfl, rfl, rfl, trivial⟩ rfl rfl ?_
          rintro ⟨k, V⟩ ⟨hk, hV, hno⟩
          dsimp only at hk hV hno ⊢
          have hbase : auErr a = if rulesErr a a.rules ≠ 0 then rulesErr a a.rules else if (a.final.any (badQ a.states)) = true then 2 else 0 := by
            unfold auErr
            rw [if_neg h11, if_neg (by omega)]
          refine K_seq ?_
          refine K_region ?_
          refine KV (R_cmp rfl rfl rfl) rfl ?_
          refine K_nil ?_
          refine Q_then ?_
          refine K_seq ?_
          refine K_if rfl (fun h32 => ?_) (fun h32 => ?_)
          ·
            have hk' : k < a.rules.length := by omega
            obtain ⟨ub, uo, ucp2, xa, xcp, hue, hrc, hsr, hsym, hto, hal⟩ := (ha.mono (hle0.trans hV)).rule hk'
            cases hue
            have hre : ruleErr a a.rules[k] ≠ 0 → auErr a = ruleErr a a.rules[k] := fun h => by rw [hbase, rulesErr_take hno hk' h, if_pos h]
            refine K_skip ?_
            refine Q_then ?_
            refine K_seq ?_
            refine K_block ?_
            refine K_seq ?_
            refine K_region ?_
            refine KV (R_indexN sl48 ty85 rfl rfl (by omega)) rfl ?_
            refine KV (R_loadH ty85 rfl (hrc) rfl (fun e => by cases e) rfl) rfl ?_
            refine KA (A_alloc z85) rfl fun b6 => ?_
            refine K_store ty85 0 rfl rfl rfl rfl rfl rfl ?_
            refine K_nil ?_
            refine Q_then ?_
            refine K_block ?_
            refine K_seq ?_
            refine K_region ?_
            refine KV (R_fieldAddr 0 fd85_0 rfl) rfl ?_
            refine KV (R_loadO ty3 0 rfl rfl rfl rfl (fun _ => rfl) rfl) rfl ?_
            refine KV (R_cmp rfl rfl rfl) rfl ?_
            refine KV (R_move rfl) rfl ?_
            refine K_split ?_ ?_
            ·
              intro h39
              refine K_gno rfl rfl rfl rfl ?_
              refine K_gno rfl rfl rfl rfl ?_
              refine K_gno rfl rfl rfl rfl ?_
              refine K_gno rfl rfl rfl rfl ?_
              refine K_gno rfl rfl rfl rfl ?_
              refine K_gno rfl rfl rfl rfl ?_
              refine KV (R_pickT rfl rfl) rfl ?_
              refine KV (R_assign rfl) rfl ?_
              refine K_nil ?_
              refine Q_then ?_
              refine K_ifT rfl ?_
              refine K_seq ?_
              refine K_region ?_
              refine KV (R_assign rfl) rfl ?_
              refine K_nil ?_
              refine Q_then ?_
              refine K_ret ?_
              refine Q_block_ret ?_
              refine Q_block_ret ?_
              refine Q_then_ret ?_
              refine Q_then_ret ?_
              refine Q_block_ret ?_
              refine Q_then_ret ?_
              refine results_gen (rs := [.tmp 2]) (vs := [_]) rfl ⟨rfl, trivial⟩ ?_
              have e : ruleErr a a.rules[k] = 6 := by
                simp only [ruleErr]
                rw [if_pos (.inl h39)]
              rw [hre (by rw [e]; decide), e]
              rfl
            ·
              intro h39
              have hs0 : 0 ≤ a.rules[k].sym := by omega
              refine K_gyes rfl rfl ?_
              refine KV (R_fieldAddr 0 fd85_0 rfl) rfl ?_
              refine K_gyes rfl rfl ?_
              refine KV (R_loadO ty3 0 rfl rfl rfl rfl (fun _ => rfl) rfl) rfl ?_
              refine K_gyes rfl rfl ?_
              refine KV (R_fieldAddr 0 fd50_0 rfl) rfl ?_
              refine K_gyes rfl rfl ?_
              refine KV (R_loadH ty47 rfl (hA0.mono hV) rfl (fun _ => rfl) rfl) rfl ?_
              refine K_gyes rfl rfl ?_
              refine KV (R_len sl47 rfl) rfl ?_
              refine K_gyes rfl rfl ?_
              refine KV (R_cmp rfl rfl rfl) rfl ?_
              refine KV (R_pickF rfl rfl) rfl ?_
              refine KV (R_assign rfl) rfl ?_
              refine K_nil ?_
              refine Q_then ?_
              refine K_if rfl (fun h35 => ?_) (fun h35 => ?_)
              ·
                refine K_seq ?_
                refine K_region ?_
                refine KV (R_assign rfl) rfl ?_
                refine K_nil ?_
                refine Q_then ?_
                refine K_ret ?_
                refine Q_block_ret ?_
                refine Q_block_ret ?_
                refine Q_then_ret ?_
                refine Q_then_ret ?_
                refine Q_block_ret ?_
                refine Q_then_ret ?_
                refine results_gen (rs := [.tmp 2]) (vs := [_]) rfl ⟨rfl, trivial⟩ ?_
                have e : ruleErr a a.rules[k] = 6 := by
                  simp only [ruleErr]
                  rw [if_pos (.inr h35)]
                rw [hre (by rw [e]; decide), e]
                rfl
              ·
                have hs1 : a.rules[k].sym < a.ranks.length := by omega
                have hs2 : a.rules[k].sym.toNat < a.ranks.length := by omega
                obtain ⟨rb, ro, rfl, hrk⟩ := (ha.mono (hle0.trans hV)).r.get hs2
                have hgd : a.ranks.getD a.rules[k].sym.toNat 0 = a.ranks[a.rules[k].sym.toNat] := by simp [List.getD, hs2]
                refine K_seq ?_
                refine K_regionD (fin := false) (R := [0, 1, 2, 3, 4, 5, 6, 7, 8, 9, 10]) (by kernel_rfl) mixed (.cons_cons _ (List.nil_sublist _)) ?_
                refine D_val rfl rfl rfl (R_fieldAddr 1 fd85_1 rfl) ?_
                refine D_val rfl rfl rfl (R_loadO ty25 0 rfl rfl rfl rfl (fun _ => rfl) rfl) ?_
                refine D_val rfl rfl rfl (R_len sl25 rfl) ?_
                refine D_val rfl rfl rfl (R_fieldAddr 0 fd50_0 rfl) ?_
                refine D_val rfl rfl rfl (R_loadH ty47 rfl (hA0.mono hV) rfl (fun _ => rfl) rfl) ?_
                refine D_val rfl rfl rfl (R_fieldAddr 0 fd85_0 rfl) ?_
                refine D_val rfl rfl rfl (R_loadO ty3 0 rfl rfl rfl rfl (fun _ => rfl) rfl) ?_
                refine D_val rfl rfl rfl (R_index sl47 ty3 rfl rfl ⟨hs0, hs1⟩) ?_
                refine D_val rfl rfl rfl (R_loadH ty3 rfl (hrk) rfl (fun _ => rfl) rfl) ?_
                refine D_val rfl rfl rfl (R_cmp rfl rfl rfl) ?_
                refine D_val rfl rfl rfl (R_assign rfl) ?_
                refine D_done ?_
                refine Q_then ?_
                refine K_if rfl (fun h47 => ?_) (fun h47 => ?_)
                ·
                  refine K_seq ?_
                  refine K_region ?_
                  refine KV (R_assign rfl) rfl ?_
                  refine K_nil ?_
                  refine Q_then ?_
                  refine K_ret ?_
                  refine Q_block_ret ?_
                  refine Q_block_ret ?_
                  refine Q_then_ret ?_
                  refine Q_then_ret ?_
                  refine Q_block_ret ?_
                  refine Q_then_ret ?_
                  refine results_gen (rs := [.tmp 2]) (vs := [_]) rfl ⟨rfl, trivial⟩ ?_
                  have e : ruleErr a a.rules[k] = 3 := by
                    simp only [ruleErr]
                    rw [if_neg (by omega), hgd, if_pos h47]
                  rw [hre (by rw [e]; decide), e]
                  rfl
                ·
                  refine K_seq ?_
                  refine K_region ?_
                  refine KV (R_fieldAddr 1 fd85_1 rfl) rfl ?_
                  refine KV (R_loadO ty25 0 rfl rfl rfl rfl (fun _ => rfl) rfl) rfl ?_
                  refine KV (R_move rfl) rfl ?_
                  refine K_call c86 rfl rfl (sicon_spec F100 [ptr b1] (badQ a.states) a.rules[k].args _ V hsr hal c100 (fun x W _ hW => nbad_spec _ _ _ a.states b1 x W (hA.mono (hV.trans hW)))) ?_
                  rintro _ V2 hle2 rfl
                  refine KV (R_move rfl) rfl ?_
                  refine K_splitB ?_ ?_
                  ·
                    intro h63
                    refine K_gno rfl rfl rfl rfl ?_
                    refine K_gno rfl rfl rfl rfl ?_
                    refine K_gno rfl rfl rfl rfl ?_
                    refine K_gno rfl rfl rfl rfl ?_
                    refine KV (R_pickT rfl rfl) rfl ?_
                    refine KV (R_assign rfl) rfl ?_
                    refine K_nil ?_
                    refine Q_then ?_
                    refine K_ifT rfl ?_
                    refine K_seq ?_
                    refine K_region ?_
                    refine KV (R_assign rfl) rfl ?_
                    refine K_nil ?_
                    refine Q_then ?_
                    refine K_ret ?_
                    refine Q_block_ret ?_
                    refine Q_block_ret ?_
                    refine Q_then_ret ?_
                    refine Q_then_ret ?_
                    refine Q_block_ret ?_
                    refine Q_then_ret ?_
                    refine results_gen (rs := [.tmp 2]) (vs := [_]) rfl ⟨rfl, trivial⟩ ?_
                    have e : ruleErr a a.rules[k] = 2 := by
                      simp only [ruleErr]
                      rw [if_neg (by omega), hgd, if_neg h47, h63]; rfl
                    rw [hre (by rw [e]; decide), e]
                    rfl
                  ·
                    intro h63
                    refine K_gyes rfl rfl ?_
                    refine KV (R_move rfl) rfl ?_
                    refine K_gyes rfl rfl ?_
                    refine KV (R_fieldAddr 2 fd85_2 rfl) rfl ?_
                    refine K_gyes rfl rfl ?_
                    refine KV (R_loadO ty3 0 rfl rfl rfl rfl (fun _ => rfl) rfl) rfl ?_
                    refine K_gyes rfl rfl ?_
                    refine K_callO (first := []) [] _ (List.Perm.refl _) c100 rfl rfl rfl (nbad_spec _ _ _ a.states b1 a.rules[k].to V2 (hA.mono (hV.trans hle2))) ?_
                    rintro _ V3 q hle3 rfl
                    refine KO_own _ (List.sublist_append_right q _) ?_
                    refine KV (R_pickF rfl rfl) rfl ?_
                    refine KV (R_assign rfl) rfl ?_
                    refine K_nil ?_
                    refine Q_then ?_
                    refine K_ifB rfl (fun h58 => ?_) (fun h58 => ?_)
                    ·
                      refine K_seq ?_
                      refine K_region ?_
                      refine KV (R_assign rfl) rfl ?_
                      refine K_nil ?_
                      refine Q_then ?_
                      refine K_ret ?_
                      refine Q_block_ret ?_
                      refine Q_block_ret ?_
                      refine Q_then_ret ?_
                      refine Q_then_ret ?_
                      refine Q_block_ret ?_
                      refine Q_then_ret ?_
                      refine results_gen (rs := [.tmp 2]) (vs := [_]) rfl ⟨rfl, trivial⟩ ?_
                      have e : ruleErr a a.rules[k] = 2 := by
                        simp only [ruleErr]
                        rw [if_neg (by omega), hgd, if_neg h47, h63, h58]; rfl
                      rw [hre (by rw [e]; decide), e]
                      rfl
                    ·
                      have hno2 : ∀ j (hj : j < a.rules.length), j < k + 1 → ruleErr a a.rules[j] = 0 := by
                        intro j hj hjk
                        by_cases e : j = k
                        · subst e
                          simp only [ruleErr]
                          rw [if_neg (by omega), hgd, if_neg h47, h63, h58]
                          simp
                        · exact hno j hj (by omega)
                      refine K_skip ?_
                      refine Q_block ?_
                      refine Q_block ?_
                      refine Q_then ?_
                      refine K_region ?_
                      refine KV (R_add rfl rfl (by omega)) rfl ?_
                      refine KV (R_move rfl) rfl ?_
                      refine K_nil ?_
                      refine KQ_sel [] rfl ?_
                      exact Q_next (k + 1, V3) ⟨hk', hV.trans (hle2.trans hle3), hno2⟩ (by dsimp only; omega) ⟨rfl, rfl, rfl, rfl, rfl, trivial⟩ rfl rfl
          ·
            have hk' : k = a.rules.length := by omega
            subst hk'
            have hrz : rulesErr a a.rules = 0 := rulesErr_zero fun j hj => hno j hj hj
            rw [hrz, if_neg (by decide)] at hbase
            refine K_exit ?_
            refine Q_then_exit ?_
            refine Q_then_exit ?_
            refine Q_block_exit ?_
            refine Q_then ?_
            refine K_seq ?_
            refine K_seq ?_
            refine K_region ?_
            refine KV (R_fieldAddr 3 fd50_3 rfl) rfl ?_
            refine KV (R_loadH ty25 rfl (hA3.mono hV) rfl (fun _ => rfl) rfl) rfl ?_
            refine KV (R_move rfl) rfl ?_
            refine K_call c86 rfl rfl (sicon_spec F100 [ptr b1] (badQ a.states) a.final _ V ((ha.mono (hle0.trans hV)).f) hfl c100 (fun x W _ hW => nbad_spec _ _ _ a.states b1 x W (hA.mono (hV.trans hW)))) ?_
            rintro _ V2 hle2 rfl
            refine K_nil ?_
            refine Q_then ?_
            refine K_ifB rfl (fun h73 => ?_) (fun h73 => ?_)
            ·
              refine K_seq ?_
              refine K_region ?_
              refine KV (R_assign rfl) rfl ?_
              refine K_nil ?_
              refine Q_then ?_
              refine K_ret ?_
              refine Q_then_ret ?_
              refine results_gen (rs := [.tmp 2]) (vs := [_]) rfl ⟨rfl, trivial⟩ ?_
              rw [hbase, if_pos h73]
              rfl
            ·
              refine K_skip ?_
              refine Q_then ?_
              refine K_seq ?_
              refine K_region ?_
              refine KV (R_assign rfl) rfl ?_
              refine K_nil ?_
              refine Q_then ?_
              refine K_ret ?_
              refine results_gen (rs := [.tmp 2]) (vs := [_]) rfl ⟨rfl, trivial⟩ ?_
              rw [hbase, h73]
              rfl

theorem clip_spec (a : Option Addr) (k cap : Nat) (h : k ≤ cap) (H : View) : Sat Tryz.prog F84 #[.slice a k cap] H (fun v _ => v = .slice a k k) := by
  refine enterO (n := 9) (args := [.slice a k cap]) Tryz.func87 rfl rfl rfl fun w0 => ?_
  refine K_seq ?_
  refine K_region ?_
  refine KV (R_assign rfl) rfl ?_
  refine K_nil ?_
  refine Q_then ?_
  refine K_seq ?_
  refine K_region ?_
  refine KV (R_move rfl) rfl ?_
  refine KV (R_move rfl) rfl ?_
  refine KV (R_len sl25 rfl) rfl ?_
  refine KV (R_move rfl) rfl ?_
  refine KV (R_len sl25 rfl) rfl ?_
  refine KV (R_clip sl25 ty3 rfl rfl rfl h) rfl ?_
  refine KV (R_assign rfl) rfl ?_
  refine K_nil ?_
  refine Q_then ?_
  refine K_ret ?_
  refine results_gen (rs := [.tmp 2]) (vs := [_]) rfl ⟨rfl, trivial⟩ ?_
  simp [tupV]

theorem visit_spec (n k gf : Nat) (cap : List Value) (T : List (List Int)) (E : List (List Int) → HL → Prop) (F : HL → Prop) (H0 : View) (hV : VisitOk Tryz.prog gf cap H0 T E F) (hcal : callable Tryz.prog gf = true) (hk : k ≤ 1099511627776) (hn : n ≤ 1099511627776)
    (b1 b2 b3 b4 : Nat) : ∀ m xs pre a len cp H p, xs.length = len → VLe H0 H → len + m = n → SI H (.slice a len cp) xs → len ≤ cp → E pre p → (pre ++ ext k m xs) <+: T →
    At H b1 0 [.int .i64 (n : Int)] → At H b2 0 [.func (.func gf) #[] cap.toArray] → At H b3 0 [.int .i64 (k : Int)] → At H b4 0 [.func (.func F83) #[] #[ptr b1, ptr b2, ptr b3, ptr b4]] →
    SatO Tryz.prog F83 #[.slice a len cp, ptr b1, ptr b2, ptr b3, ptr b4] H p (fun v _ q => ∃ r : Bool, v = .bool r ∧ (r = true → E (pre ++ ext k m xs) q) ∧ (r = false → F q)) := by
  intro m
  induction m using Nat.strongRecOn with | _ m ih =>
  intro xs pre a len cp H p hlen h0 hm hs hcp hE hpf h1 h2 h3 h4
  refine enterO (n := 28) (args := [.slice a len cp, ptr b1, ptr b2, ptr b3, ptr b4]) Tryz.func86 rfl rfl rfl fun w0 => ?_
  refine K_seq ?_
  refine K_region ?_
  refine KV (R_assign rfl) rfl ?_
  refine K_nil ?_
  refine Q_then ?_
  refine K_seq ?_
  refine K_seq ?_
  refine K_region ?_
  refine KV (R_move rfl) rfl ?_
  refine KV (R_len sl25 rfl) rfl ?_
  refine KV (R_loadH ty3 rfl (h1) rfl (fun _ => rfl) rfl) rfl ?_
  refine KV (R_cmp rfl rfl rfl) rfl ?_
  refine K_nil ?_
  refine Q_then ?_
  refine K_if rfl (fun h11 => ?_) (fun h11 => ?_)
  ·
    have hm0 : m = 0 := by omega
    subst hm0
    refine K_seq ?_
    refine K_region ?_
    refine KV (R_loadH ty108 rfl (h2) rfl (fun _ => rfl) rfl) rfl ?_
    refine KV (R_move rfl) rfl ?_
    refine K_callO (first := []) p [] (by rw [List.append_nil]) hcal rfl rfl rfl (hV H pre xs a len cp p hlen h0 hE hpf hs hcp) ?_
    rintro _ V1 q hle ⟨r, rfl, hr1, hr2⟩
    refine KV (R_assign rfl) rfl ?_
    refine K_nil ?_
    refine Q_then ?_
    refine K_ret ?_
    refine Q_then_ret ?_
    refine results_gen (rs := [.tmp 6]) (vs := [_]) rfl ⟨rfl, trivial⟩ ?_
    refine ⟨r, rfl, ?_, ?_⟩
    · rw [List.append_nil]; exact hr1
    · rw [List.append_nil]; exact hr2
  ·
    obtain ⟨m, rfl⟩ : ∃ m', m = m' + 1 := ⟨m - 1, by omega⟩
    refine K_skip ?_
    refine Q_then ?_
    refine K_seq ?_
    refine K_seq ?_
    refine K_region ?_
    refine KV (R_loadH ty3 rfl (h3) rfl (fun _ => rfl) rfl) rfl ?_
    refine KV (R_move rfl) rfl ?_
    refine K_nil ?_
    refine Q_then ?_
    refine K_block ?_
    refine K_loop (G := Nat × View × HL) ⟨fun g => [(0, .slice a len cp), (1, ptr b1), (2, ptr b2), (3, ptr b3), (4, ptr b4), (15, .int .i64 (k : Int)), (16, .int .i64 (g.1 : Int))], fun g => g.2.2, fun g => g.2.1, fun g => g.1 ≤ k ∧ VLe H g.2.1 ∧ E (pre ++ extTo k m xs g.1) g.2.2, fun g => k - g.1⟩ (0, H, p) ⟨Nat.zero_le _, VLe.refl H, by simpa [extTo] using hE⟩ ⟨rfl, rfl, rfl, rfl, rfl, rfl, rfl, trivial⟩ rfl rfl ?_
    rintro ⟨i, V, p'⟩ ⟨hi0, hV1, hE1⟩
    dsimp only at hi0 hV1 hE1 ⊢
    refine K_seq ?_
    refine K_region ?_
    refine KV (R_cmp rfl rfl rfl) rfl ?_
    refine K_nil ?_
    refine Q_then ?_
    refine K_seq ?_
    refine K_if rfl (fun h17 => ?_) (fun h17 => ?_)
    ·
      have hi : i < k := by omega
      refine K_skip ?_
      refine Q_then ?_
      refine K_seq ?_
      refine K_block ?_
      refine K_seq ?_
      refine K_region ?_
      refine KV (R_move rfl) rfl ?_
      refine KV (R_assign rfl) rfl ?_
      refine K_nil ?_
      refine Q_then ?_
      refine K_seq ?_
      refine K_regionD (fin := false) (R := [0, 1, 3, 2, 4, 5, 6, 7]) (by kernel_rfl) mixed (List.nil_sublist _) ?_
      refine D_val rfl rfl rfl (R_loadH ty108 rfl (h4.mono hV1) rfl (fun _ => rfl) rfl) ?_
      refine D_val rfl rfl rfl (R_move rfl) ?_
      refine D_val rfl rfl rfl (R_move rfl) ?_
      refine D_call rfl rfl c84 rfl trivial (clip_spec a len cp hcp V) ?_
      rintro _ V2 hle2 rfl
      refine D_alloc rfl rfl rfl (A_buildSlice (vs := [.int .i64 (i : Int)]) sl25 ty3 z3 rfl rfl (by simp [Value.cells]) (by simp) rfl (by decide)) fun b23 => ?_
      refine D_appendPub1 ap25 rfl rfl rfl ((hlen ▸ hs.1.mono (hV1.trans hle2)).recap len) (by simp [ints, hlen]) rfl rfl trivial rfl ⟨by omega, by omega⟩ fun v24 V3 hle3 hv24 => ?_
      obtain ⟨hsl, a24, c24, rfl, hc24⟩ := hv24
      refine D_callO (first := []) p' [] rfl rfl c83 rfl rfl (by rw [List.append_nil]) trivial (ih m (by omega) (xs ++ [(i : Int)]) (pre ++ extTo k m xs i) a24 (len + 1) c24 V3 p' (by simp [hlen]) (h0.trans (hV1.trans (hle2.trans hle3))) (by omega) (by subst hlen; exact SI.snoc hs.2 (by omega) hsl) hc24 hE1 ?_ (h1.mono (hV1.trans (hle2.trans hle3))) (h2.mono (hV1.trans (hle2.trans hle3))) (h3.mono (hV1.trans (hle2.trans hle3))) (h4.mono (hV1.trans (hle2.trans hle3)))) ?_
      · exact ext_prefix hi hpf
      rintro _ V4 q hle4 ⟨r, rfl, hr1, hr2⟩
      refine D_val rfl rfl rfl (R_not rfl) ?_
      refine D_done ?_
      refine Q_then ?_
      cases r with
      | false =>
        refine K_ifT rfl ?_
        refine K_seq ?_
        refine K_region ?_
        refine KV (R_assign rfl) rfl ?_
        refine K_nil ?_
        refine Q_then ?_
        refine K_ret ?_
        refine Q_block_ret ?_
        refine Q_then_ret ?_
        refine Q_then_ret ?_
        refine Q_block_ret ?_
        refine Q_then_ret ?_
        refine results_gen (rs := [.tmp 6]) (vs := [_]) rfl ⟨rfl, trivial⟩ ?_
        refine ⟨false, rfl, (fun e => by cases e), fun _ => ?_⟩
        rw [List.append_nil]; exact hr2 rfl
      | true =>
        refine K_ifF rfl ?_
        refine K_skip ?_
        refine Q_block ?_
        refine Q_then ?_
        refine K_region ?_
        refine KV (R_add rfl rfl (by omega)) rfl ?_
        refine KV (R_move rfl) rfl ?_
        refine K_nil ?_
        refine Q_next (i + 1, V4, q) ⟨hi, hV1.trans (hle2.trans (hle3.trans hle4)), ?_⟩ (by dsimp only; omega) ⟨rfl, rfl, rfl, rfl, rfl, rfl, rfl, trivial⟩ (List.append_nil _) rfl
        rw [extTo_succ, ← List.append_assoc]
        exact hr1 rfl
    ·
      have hi : i = k := by omega
      subst hi
      refine K_exit ?_
      refine Q_then_exit ?_
      refine Q_then_exit ?_
      refine Q_block_exit ?_
      refine Q_then ?_
      refine K_seq ?_
      refine K_region ?_
      refine KV (R_assign rfl) rfl ?_
      refine K_nil ?_
      refine Q_then ?_
      refine K_ret ?_
      refine results_gen (rs := [.tmp 6]) (vs := [_]) rfl ⟨rfl, trivial⟩ ?_
      exact ⟨true, rfl, fun _ => hE1, fun e => by cases e⟩

theorem tuples_spec (n k gf : Nat) (cap : List Value) (E : List (List Int) → HL → Prop) (F : HL → Prop) (H : View) (p : HL) (hV : VisitOk Tryz.prog gf cap H (ext k n []) E F) (hcal : callable Tryz.prog gf = true) (hk : k ≤ 1099511627776) (hn : n ≤ 1099511627776) (hE : E [] p) :
    SatO Tryz.prog F48 #[.int .i64 (n : Int), .int .i64 (k : Int), .func (.func gf) #[] cap.toArray] H p (fun v _ q => ∃ r : Bool, v = .bool r ∧ (r = true → E (ext k n []) q) ∧ (r = false → F q)) := by
  refine enterO (n := 11) (args := [.int .i64 (n : Int), .int .i64 (k : Int), .func (.func gf) #[] cap.toArray]) Tryz.func52 rfl rfl rfl fun w0 => ?_
  refine K_seq ?_
  refine K_region ?_
  refine KA (A_box rfl) rfl fun b3 => ?_
  refine KA (A_box rfl) rfl fun b4 => ?_
  refine KA (A_box rfl) rfl fun b5 => ?_
  refine KV (R_assign rfl) rfl ?_
  refine K_nil ?_
  refine Q_then ?_
  refine K_seq ?_
  refine K_region ?_
  refine KA (A_alloc z108) rfl fun b7 => ?_
  refine K_nil ?_
  refine Q_then ?_
  refine K_seq ?_
  refine K_region ?_
  refine KV (R_makeFunc rfl rfl) rfl ?_
  refine K_store ty108 0 rfl rfl rfl rfl rfl rfl ?_
  refine K_nil ?_
  refine KQ_pubblk (by intro x hx; simp only [feet_cons]; simp [hx]) fun V1 hle1 hb7 => ?_
  refine KQ_pubblk (by intro x hx; simp only [feet_cons]; simp [hx]) fun V2 hle2 hb5 => ?_
  refine KQ_pubblk (by intro x hx; simp only [feet_cons]; simp [hx]) fun V3 hle3 hb4 => ?_
  refine KQ_pubblk (by intro x hx; exact hx) fun V4 hle4 hb3 => ?_
  refine Q_then ?_
  refine K_seq ?_
  refine K_region ?_
  refine KV (R_loadH ty108 rfl ((At.of hb7).mono (hle2.trans (hle3.trans hle4))) rfl (fun _ => rfl) rfl) rfl ?_
  refine K_callO (first := []) p [] (by rw [List.append_nil]) c83 rfl rfl rfl (visit_spec n k gf cap (ext k n []) E F H hV hcal hk hn b3 b5 b4 b7 n [] [] none 0 0 V4 p rfl (hle1.trans (hle2.trans (hle3.trans hle4))) (by omega) ⟨⟨none, 0, rfl, .inl ⟨rfl, rfl⟩⟩, by simp⟩ (Nat.le_refl _) hE (List.prefix_refl _) (At.of hb3) ((At.of hb5).mono (hle3.trans hle4)) ((At.of hb4).mono hle4) ((At.of hb7).mono (hle2.trans (hle3.trans hle4)))) ?_
  rintro _ V5 q hle5 ⟨r, rfl, hr1, hr2⟩
  refine KV (R_assign rfl) rfl ?_
  refine K_nil ?_
  refine Q_then ?_
  refine K_ret ?_
  refine results_gen (rs := [.tmp 6]) (vs := [_]) rfl ⟨rfl, trivial⟩ ?_
  refine ⟨r, rfl, ?_, ?_⟩
  · rw [List.append_nil]; exact hr1
  · rw [List.append_nil]; exact hr2
end Go.Proofs.X

namespace Go.Proofs.X
open Go Pal Go.Proofs
attribute [local irreducible] Pal.KO Pal.KC Pal.KQ Pal.KD
theorem ty87 : Ty Tryz.prog T87 false 1 := .of (by kernel_rfl)
theorem ty90 : Ty Tryz.prog T90 false 1 := .of (by kernel_rfl)
theorem ty91 : Ty Tryz.prog T91 false 1 := .of (by kernel_rfl)
theorem ty92 : Ty Tryz.prog T92 false 1 := .of (by kernel_rfl)
theorem ty93 : Ty Tryz.prog T93 false 1 := .of (by kernel_rfl)
theorem ty106 : Ty Tryz.prog T106 true 3 := .of (by kernel_rfl)
theorem sl90 : slcOk Tryz.prog T90 T48 := by unfold slcOk; kernel_rfl
theorem sl92 : slcOk Tryz.prog T92 T98 := by unfold slcOk; kernel_rfl
theorem fd95_0 : fldOk Tryz.prog T95 0 0 = true := by kernel_rfl
theorem fd95_1 : fldOk Tryz.prog T95 1 4 = true := by kernel_rfl
theorem fd95_2 : fldOk Tryz.prog T95 2 5 = true := by kernel_rfl
theorem fd95_3 : fldOk Tryz.prog T95 3 6 = true := by kernel_rfl
theorem fd95_4 : fldOk Tryz.prog T95 4 7 = true := by kernel_rfl
theorem fd106_1 : fldOk Tryz.prog T106 1 1 = true := by kernel_rfl
theorem fd106_2 : fldOk Tryz.prog T106 2 2 = true := by kernel_rfl
theorem z106 : zeroOk Tryz.prog T106 (.agg #[.int .i64 0, .int .i64 0, .int .i64 0]) := .of (by kernel_rfl)
theorem pl106 : placesOk Tryz.prog T106 [(0, 1), (1, 1), (2, 1)] := ⟨_, Tryz.underlying111, by kernel_rfl⟩
theorem c48 : callable Tryz.prog F48 = true := by kernel_rfl
theorem c50 : callable Tryz.prog F50 = true := by kernel_rfl
theorem c102 : callable Tryz.prog F102 = true := by kernel_rfl
theorem c103 : callable Tryz.prog F103 = true := by kernel_rfl
theorem c116 : callable Tryz.prog F116 = true := by kernel_rfl
theorem c120 : callable Tryz.prog F120 = true := by kernel_rfl
theorem ap92 : App Tryz.prog T92 T98 16 128 := .of sl92 (by kernel_rfl)
theorem mt91 : Tryz.prog.underlying T91 = some (.map T98 T3) := by kernel_rfl
theorem mt93 : Tryz.prog.underlying T93 = some (.map T106 T3) := by kernel_rfl
theorem kl106 : WideMaps.KeyLaw Tryz.prog T106 := deep_law_laid (m := 2) (by kernel_rfl) (by decide) (Nat.le_of_ble_eq_true (by kernel_rfl)) (by kernel_rfl) (by kernel_rfl)
theorem tri106 : TriT Tryz.prog T106 T3 := ⟨⟨_, _, _, Tryz.underlying111, ⟨by decide, rfl, rfl⟩, ⟨by decide, rfl, rfl⟩, ⟨by decide, rfl, rfl⟩⟩, by kernel_rfl, by kernel_rfl, by kernel_rfl, by kernel_rfl, kl106, ⟨252, by kernel_rfl⟩⟩
theorem key_spec (sym : Int) (args : List Int) (v : Value) (H : View) (hv : SI H v args) : Sat Tryz.prog F50 #[.int .i64 sym, v] H (fun r _ => r = keyV (keyM sym args)) := by
  obtain ⟨a, cp, rfl⟩ := hv.shape
  refine enterO (n := 23) (args := [.int .i64 sym, .slice a args.length cp]) Tryz.func54 rfl rfl rfl fun w0 => ?_
  refine K_seq ?_
  refine K_region ?_
  refine KA (A_alloc z106) rfl fun b4 => ?_
  refine K_nil ?_
  refine Q_then ?_
  refine K_seq ?_
  refine K_region ?_
  refine KV (R_move rfl) rfl ?_
  refine KV (R_build z106 pl106 rfl rfl) rfl ?_
  refine KA (A_alloc z106) rfl fun b5 => ?_
  refine K_store ty106 0 rfl rfl rfl rfl rfl rfl ?_
  refine K_nil ?_
  refine Q_then ?_
  refine K_seq ?_
  refine K_seq ?_
  refine K_region ?_
  refine KV (R_move rfl) rfl ?_
  refine KV (R_len sl25 rfl) rfl ?_
  refine KV (R_cmp rfl rfl rfl) rfl ?_
  refine K_nil ?_
  refine Q_then ?_
  refine K_if rfl (fun h10 => ?_) (fun h10 => ?_)
  ·
    have hl0 : 0 < args.length := by omega
    obtain ⟨tb, to_, rfl, hta⟩ := hv.get hl0
    refine K_region ?_
    refine KV (R_move rfl) rfl ?_
    refine KV (R_index sl25 ty3 rfl rfl ⟨by omega, by omega⟩) rfl ?_
    refine KV (R_loadH ty3 rfl (hta) rfl (fun _ => rfl) rfl) rfl ?_
    refine KV (R_fieldAddr 1 fd106_1 rfl) rfl ?_
    refine K_store ty3 0 rfl rfl rfl rfl rfl rfl ?_
    refine K_nil ?_
    refine Q_then ?_
    refine K_seq ?_
    refine K_seq ?_
    refine K_region ?_
    refine KV (R_move rfl) rfl ?_
    refine KV (R_len sl25 rfl) rfl ?_
    refine KV (R_cmp rfl rfl rfl) rfl ?_
    refine K_nil ?_
    refine Q_then ?_
    refine K_if rfl (fun h17 => ?_) (fun h17 => ?_)
    ·
      have hl1 : 1 < args.length := by omega
      obtain ⟨tb2, to2, he2, htb⟩ := hv.get hl1
      cases he2
      refine K_region ?_
      refine KV (R_move rfl) rfl ?_
      refine KV (R_index sl25 ty3 rfl rfl ⟨by omega, by omega⟩) rfl ?_
      refine KV (R_loadH ty3 rfl (htb) rfl (fun _ => rfl) rfl) rfl ?_
      refine KV (R_fieldAddr 2 fd106_2 rfl) rfl ?_
      refine K_store ty3 0 rfl rfl rfl rfl rfl rfl ?_
      refine K_nil ?_
      refine Q_then ?_
      refine K_seq ?_
      refine K_region ?_
      refine KV (R_loadO ty106 0 rfl rfl rfl rfl (fun e => by cases e) rfl) rfl ?_
      refine K_store ty106 1 rfl rfl rfl rfl rfl rfl ?_
      refine K_nil ?_
      refine Q_then ?_
      refine K_ret ?_
      refine results_gen (rs := [.cell 4 111]) (vs := [_]) rfl ⟨⟨_, _, _, _, _, _, 1, rfl, rfl, ty106, (fun e => by cases e), rfl, rfl⟩, trivial⟩ ?_
      show Value.agg #[.int .i64 sym, .int .i64 args[0], .int .i64 args[1]] = _
      simp [keyV, keyM, List.getD, hl0, hl1]
    ·
      refine K_skip ?_
      refine Q_then ?_
      refine K_seq ?_
      refine K_region ?_
      refine KV (R_loadO ty106 0 rfl rfl rfl rfl (fun e => by cases e) rfl) rfl ?_
      refine K_store ty106 1 rfl rfl rfl rfl rfl rfl ?_
      refine K_nil ?_
      refine Q_then ?_
      refine K_ret ?_
      refine results_gen (rs := [.cell 4 111]) (vs := [_]) rfl ⟨⟨_, _, _, _, _, _, 1, rfl, rfl, ty106, (fun e => by cases e), rfl, rfl⟩, trivial⟩ ?_
      show Value.agg #[.int .i64 sym, .int .i64 args[0], .int .i64 0] = _
      have hl1 : args.length ≤ 1 := by omega
      simp [keyV, keyM, List.getD, hl0, hl1]
  ·
    refine K_skip ?_
    refine Q_then ?_
    refine K_seq ?_
    refine K_seq ?_
    refine K_region ?_
    refine KV (R_move rfl) rfl ?_
    refine KV (R_len sl25 rfl) rfl ?_
    refine KV (R_cmp rfl rfl rfl) rfl ?_
    refine K_nil ?_
    refine Q_then ?_
    refine K_if rfl (fun h17 => ?_) (fun h17 => ?_)
    ·
      have hl1 : 1 < args.length := by omega
      obtain ⟨tb2, to2, he2, htb⟩ := hv.get hl1
      cases he2
      refine K_region ?_
      refine KV (R_move rfl) rfl ?_
      refine KV (R_index sl25 ty3 rfl rfl ⟨by omega, by omega⟩) rfl ?_
      refine KV (R_loadH ty3 rfl (htb) rfl (fun _ => rfl) rfl) rfl ?_
      refine KV (R_fieldAddr 2 fd106_2 rfl) rfl ?_
      refine K_store ty3 0 rfl rfl rfl rfl rfl rfl ?_
      refine K_nil ?_
      refine Q_then ?_
      refine K_seq ?_
      refine K_region ?_
      refine KV (R_loadO ty106 0 rfl rfl rfl rfl (fun e => by cases e) rfl) rfl ?_
      refine K_store ty106 1 rfl rfl rfl rfl rfl rfl ?_
      refine K_nil ?_
      refine Q_then ?_
      refine K_ret ?_
      refine results_gen (rs := [.cell 4 111]) (vs := [_]) rfl ⟨⟨_, _, _, _, _, _, 1, rfl, rfl, ty106, (fun e => by cases e), rfl, rfl⟩, trivial⟩ ?_
      omega
    ·
      refine K_skip ?_
      refine Q_then ?_
      refine K_seq ?_
      refine K_region ?_
      refine KV (R_loadO ty106 0 rfl rfl rfl rfl (fun e => by cases e) rfl) rfl ?_
      refine K_store ty106 1 rfl rfl rfl rfl rfl rfl ?_
      refine K_nil ?_
      refine Q_then ?_
      refine K_ret ?_
      refine results_gen (rs := [.cell 4 111]) (vs := [_]) rfl ⟨⟨_, _, _, _, _, _, 1, rfl, rfl, ty106, (fun e => by cases e), rfl, rfl⟩, trivial⟩ ?_
      show Value.agg #[.int .i64 sym, .int .i64 0, .int .i64 0] = _
      have hl0 : args = [] := List.eq_nil_of_length_eq_zero (by omega)
      subst hl0
      rfl

theorem succ_spec (a : Au) (subs : List Nat) (sym : Nat) (args : List Int) (B m1 m2 : Nat) (vr vu vf vrules vsub v : Value) (H : View) (hby : RepBy H a vrules) (hvs : subsV vsub subs.length) (hv : SI H v args) (hsym : sym < a.ranks.length)
    (hrl : a.ranks.length ≤ 1099511627776) (hul : (rulesOf a sym).length ≤ 1099511627776) (hral : ∀ r ∈ rulesOf a sym, r.args.length = args.length) (har : ∀ x ∈ args, 0 ≤ x ∧ x < subs.length) :
    SatO Tryz.prog F116 #[ptr B, .int .i64 (sym : Int), v] H [blk B (.cells #[vr, .int .i64 a.states, vu, vf, vrules, mp m1, vsub, mp m2] T95 (0, 0)), row vsub T98 16 subs.length (subCells subs)]
      (fun r _ q => r = setV (succM a subs sym args) ∧ q = [blk B (.cells #[vr, .int .i64 a.states, vu, vf, vrules, mp m1, vsub, mp m2] T95 (0, 0)), row vsub T98 16 subs.length (subCells subs)]) := by
  obtain ⟨aa, acp, rfl⟩ := hv.shape
  obtain ⟨rb, ro, rcp, rfl, hrb⟩ := hby
  obtain ⟨ua, ucp, cells, hua, hus, hur⟩ := hrb sym hsym
  unfold succM
  generalize rulesOf a sym = rs at hul hral hua hus hur ⊢
  refine enterO (n := 56) (args := [ptr B, .int .i64 (sym : Int), .slice aa args.length acp]) Tryz.func142 rfl rfl rfl fun w0 => ?_
  refine K_seq ?_
  refine K_region ?_
  refine KA (A_alloc z98) rfl fun b6 => ?_
  refine K_nil ?_
  refine Q_then ?_
  refine K_seq ?_
  refine K_region ?_
  refine KA (A_alloc z98) rfl fun b7 => ?_
  refine K_nil ?_
  refine Q_then ?_
  refine K_seq ?_
  refine K_seq ?_
  refine K_region ?_
  refine KV (R_move rfl) rfl ?_
  refine KV (R_nilCheck rfl) rfl ?_
  refine KV (R_fieldAddr 4 fd95_1 rfl) rfl ?_
  refine KV (R_loadO ty90 2 rfl rfl rfl rfl (fun _ => rfl) rfl) rfl ?_
  refine KV (R_move rfl) rfl ?_
  refine KV (R_index sl90 ty48 rfl rfl ⟨by omega, by omega⟩) rfl ?_
  refine KV (R_loadH ty48 rfl (hua) rfl (fun _ => rfl) rfl) rfl ?_
  refine KV (R_len sl48 rfl) rfl ?_
  refine KV (R_move rfl) rfl ?_
  refine K_nil ?_
  refine Q_then ?_
  refine K_block ?_
  refine K_loop (G := Nat × View) ⟨fun g => [(0, ptr B), (2, .slice aa args.length acp), (6, ptr b6), (7, ptr b7), (19, .slice ua rs.length ucp), (20, .int .i64 rs.length), (21, .int .i64 (g.1 : Int))], fun g => [blk b7 (.cells (setV (succTo subs args rs g.1)).cells T98 (0, 0)), blk b6 (.cells (setV 0).cells T98 (0, 0)), blk B (.cells #[vr, .int .i64 a.states, vu, vf, .slice (some ⟨rb, ro, none⟩) a.ranks.length rcp, mp m1, vsub, mp m2] T95 (0, 0)), row vsub T98 16 subs.length (subCells subs)], fun g => g.2, fun g => g.1 ≤ rs.length ∧ VLe H g.2, fun g => rs.length - g.1⟩ (0, H) ⟨Nat.zero_le _, VLe.refl H⟩ ⟨rfl, rfl, rfl, rfl, rfl, rfl, rfl, trivial⟩ rfl rfl ?_
  rintro ⟨k, V⟩ ⟨hk, hV⟩
  dsimp only at hk hV ⊢
  refine K_seq ?_
  refine K_region ?_
  refine KV (R_cmp rfl rfl rfl) rfl ?_
  refine K_nil ?_
  refine Q_then ?_
  refine K_seq ?_
  refine K_if rfl (fun h22 => ?_) (fun h22 => ?_)
  ·
    have hk' : k < rs.length := by omega
    obtain ⟨ub, uo, fa, fcp, rfl, hrc, hfs, hsy, hto, hfl⟩ := rules_elem (hus.mono hV) (RepR.imp3 hV hur) hk'
    have hra := hral _ (List.getElem_mem hk')
    refine K_skip ?_
    refine Q_then ?_
    refine K_seq ?_
    refine K_block ?_
    refine K_seq ?_
    refine K_region ?_
    refine KV (R_indexN sl48 ty85 rfl rfl (by omega)) rfl ?_
    refine KV (R_loadH ty85 rfl (hrc) rfl (fun e => by cases e) rfl) rfl ?_
    refine KA (A_alloc z85) rfl fun b9 => ?_
    refine K_store ty85 0 rfl rfl rfl rfl rfl rfl ?_
    refine K_nil ?_
    refine Q_then ?_
    refine K_seq ?_
    refine K_region ?_
    refine KV (R_assign rfl) rfl ?_
    refine K_nil ?_
    refine Q_then ?_
    refine K_seq ?_
    refine K_seq ?_
    refine K_region ?_
    refine KV (R_fieldAddr 1 fd85_1 rfl) rfl ?_
    refine KV (R_loadO ty25 0 rfl rfl rfl rfl (fun _ => rfl) rfl) rfl ?_
    refine KV (R_len sl25 rfl) rfl ?_
    refine KV (R_move rfl) rfl ?_
    refine K_nil ?_
    refine Q_then ?_
    refine K_block ?_
    refine K_loop (G := Nat × View) ⟨fun g => [(0, ptr B), (2, .slice aa args.length acp), (6, ptr b6), (7, ptr b7), (19, .slice (some ⟨ub, uo, none⟩) rs.length ucp), (20, .int .i64 rs.length), (21, .int .i64 (k : Int)), (9, ptr b9), (10, .bool (fitsTo subs args rs[k].args g.1)), (26, .slice fa rs[k].args.length fcp), (27, .int .i64 rs[k].args.length), (28, .int .i64 (g.1 : Int))], fun g => [blk b9 (.cells #[.int .i64 rs[k].sym, .slice fa rs[k].args.length fcp, .int .i64 rs[k].to] T85 (0, 0)), blk b7 (.cells (setV (succTo subs args rs k)).cells T98 (0, 0)), blk b6 (.cells (setV 0).cells T98 (0, 0)), blk B (.cells #[vr, .int .i64 a.states, vu, vf, .slice (some ⟨rb, ro, none⟩) a.ranks.length rcp, mp m1, vsub, mp m2] T95 (0, 0)), row vsub T98 16 subs.length (subCells subs)], fun g => g.2, fun g => g.1 ≤ rs[k].args.length ∧ VLe V g.2, fun g => rs[k].args.length - g.1⟩ (0, V) ⟨Nat.zero_le _, VLe.refl V⟩ ⟨rfl, rfl, rfl, rfl, rfl, rfl, rfl, rfl, rfl, rfl, rfl, rfl, trivial⟩ rfl rfl ?_
    rintro ⟨j, V1⟩ ⟨hj, hle1⟩
    dsimp only at hj hle1 ⊢
    refine K_seq ?_
    refine K_region ?_
    refine KV (R_cmp rfl rfl rfl) rfl ?_
    refine K_nil ?_
    refine Q_then ?_
    refine K_seq ?_
    refine K_if rfl (fun h29 => ?_) (fun h29 => ?_)
    ·
      have hj' : j < rs[k].args.length := by omega
      obtain ⟨fb, fo, rfl, hfc⟩ := (hfs.mono hle1).get hj'
      refine K_skip ?_
      refine Q_then ?_
      refine K_seq ?_
      refine K_block ?_
      refine K_seq ?_
      refine K_region ?_
      refine KV (R_move rfl) rfl ?_
      refine KV (R_indexN sl25 ty3 rfl rfl (by omega)) rfl ?_
      refine KV (R_loadH ty3 rfl (hfc) rfl (fun _ => rfl) rfl) rfl ?_
      refine KV (R_assign rfl) rfl ?_
      refine KV (R_assign rfl) rfl ?_
      refine K_nil ?_
      refine Q_then ?_
      refine K_regionD (fin := false) (R := [0, 1, 2, 3, 4, 5, 6, 7, 8, 9, 10, 11, 12, 13, 14, 15]) (by kernel_rfl) mixed (.cons _ (.cons _ (.cons _ (.cons_cons _ (.cons_cons _ (List.nil_sublist _)))))) ?_
      refine D_val rfl rfl rfl (R_move rfl) ?_
      refine D_val rfl rfl rfl (R_move rfl) ?_
      refine D_splitB ?_ ?_
      ·
        intro h34
        have hja : j < args.length := by omega
        obtain ⟨ab, ao, rfl, hac⟩ := (hv.mono (hV.trans hle1)).get hja
        have hx := har _ (List.getElem_mem hja)
        have hlt : args[j].toNat < subs.length := by omega
        have hidx : 0 ≤ args[j] ∧ args[j] < (subs.length : Int) := hx
        obtain ⟨sg, scp, rfl⟩ : ∃ g cap, vsub = .slice (some ⟨g, 0, none⟩) subs.length cap := by
          rcases hvs with ⟨_, h0⟩ | h
          · omega
          · exact h
        refine D_val rfl rfl rfl (R_move rfl) ?_
        refine D_val rfl rfl rfl (R_nilCheck rfl) ?_
        refine D_val rfl rfl rfl (R_fieldAddr 6 fd95_3 rfl) ?_
        refine D_val rfl rfl rfl (R_loadO ty92 0 rfl rfl rfl rfl (fun _ => rfl) rfl) ?_
        refine D_val rfl rfl rfl (R_move rfl) ?_
        refine D_val rfl rfl rfl (R_move rfl) ?_
        refine D_val rfl rfl rfl (R_indexN sl25 ty3 rfl rfl hja) ?_
        refine D_val rfl rfl rfl (R_loadH ty3 rfl (hac) rfl (fun _ => rfl) rfl) ?_
        refine D_val rfl rfl rfl (R_index sl92 ty98 rfl rfl hidx) ?_
        refine D_val rfl rfl rfl (R_loadRow (v := setV subs[args[j].toNat]) ty98 1 rfl rfl rfl (by rw [Nat.zero_add]; exact subCells_get hlt) rfl (fun e => by cases e) rfl) ?_
        refine D_val rfl rfl rfl (R_move rfl) ?_
        refine D_call rfl rfl c120 rfl ⟨⟨3, rfl⟩, ⟨4, rfl⟩, trivial⟩ (has_spec subs[args[j].toNat] rs[k].args[j] V1) ?_
        rintro _ V2 hle2 rfl
        refine D_val rfl rfl rfl (R_pickT rfl rfl) ?_
        refine D_val rfl rfl rfl (R_assign rfl) ?_
        refine D_done ?_
        refine Q_block ?_
        refine Q_then ?_
        refine K_region ?_
        refine KV (R_add rfl rfl (by omega)) rfl ?_
        refine KV (R_move rfl) rfl ?_
        refine K_nil ?_
        refine Q_next (j + 1, V2) ⟨hj', hle1.trans hle2⟩ (by dsimp only; omega) ⟨rfl, rfl, rfl, rfl, rfl, rfl, rfl, rfl, congrArg (fun z => some (Value.bool z)) (fitsTo_true h34 hja hj' hlt).symm, rfl, rfl, rfl, trivial⟩ rfl rfl
      ·
        intro h34
        refine D_skip rfl rfl ?_
        refine D_skip rfl rfl ?_
        refine D_skip rfl rfl ?_
        refine D_skip rfl rfl ?_
        refine D_skip rfl rfl ?_
        refine D_skip rfl rfl ?_
        refine D_skip rfl rfl ?_
        refine D_skip rfl rfl ?_
        refine D_skip rfl rfl ?_
        refine D_skip rfl rfl ?_
        refine D_skip rfl rfl ?_
        refine D_skip rfl rfl ?_
        refine D_val rfl rfl rfl (R_pickF rfl rfl) ?_
        refine D_val rfl rfl rfl (R_assign rfl) ?_
        refine D_done ?_
        refine Q_block ?_
        refine Q_then ?_
        refine K_region ?_
        refine KV (R_add rfl rfl (by omega)) rfl ?_
        refine KV (R_move rfl) rfl ?_
        refine K_nil ?_
        refine Q_next (j + 1, V1) ⟨hj', hle1⟩ (by dsimp only; omega) ⟨rfl, rfl, rfl, rfl, rfl, rfl, rfl, rfl, congrArg (fun z => some (Value.bool z)) (fitsTo_false h34).symm, rfl, rfl, rfl, trivial⟩ rfl rfl
    ·
      have hj' : j = rs[k].args.length := by omega
      subst hj'
      refine K_exit ?_
      refine Q_then_exit ?_
      refine Q_then_exit ?_
      refine Q_block_exit ?_
      refine Q_then ?_
      refine K_seq ?_
      refine K_region ?_
      refine KV (R_move rfl) rfl ?_
      refine K_nil ?_
      refine Q_then ?_
      refine K_ifB rfl (fun h49 => ?_) (fun h49 => ?_)
      ·
        refine K_region ?_
        refine KV (R_loadW ty98 1 rfl rfl rfl rfl) rfl ?_
        refine KV (R_fieldAddr 2 fd85_2 rfl) rfl ?_
        refine KV (R_loadO ty3 0 rfl rfl rfl rfl (fun _ => rfl) rfl) rfl ?_
        refine K_call c82 rfl rfl (with_spec _ _ V1) ?_
        rintro _ V2 hle2 rfl
        refine K_storeW ty98 1 rfl rfl rfl rfl rfl rfl rfl ?_
        refine K_nil ?_
        refine Q_block ?_
        refine Q_then ?_
        refine K_region ?_
        refine KV (R_add rfl rfl (by omega)) rfl ?_
        refine KV (R_move rfl) rfl ?_
        refine K_nil ?_
        refine KQ_sel [1, 1, 1, 1] rfl ?_
        exact Q_next (k + 1, V2) ⟨hk', hV.trans (hle1.trans hle2)⟩ (by dsimp only; omega) ⟨rfl, rfl, rfl, rfl, rfl, rfl, rfl, trivial⟩ (by dsimp only; rw [succTo_yes hk' h49]; rfl) rfl
      ·
        refine K_skip ?_
        refine Q_block ?_
        refine Q_then ?_
        refine K_region ?_
        refine KV (R_add rfl rfl (by omega)) rfl ?_
        refine KV (R_move rfl) rfl ?_
        refine K_nil ?_
        refine KQ_sel [1, 1, 1, 1] rfl ?_
        exact Q_next (k + 1, V1) ⟨hk', hV.trans hle1⟩ (by dsimp only; omega) ⟨rfl, rfl, rfl, rfl, rfl, rfl, rfl, trivial⟩ (by dsimp only; rw [succTo_no hk' h49]) rfl
  ·
    have hk' : k = rs.length := by omega
    subst hk'
    refine K_exit ?_
    refine Q_then_exit ?_
    refine Q_then_exit ?_
    refine Q_block_exit ?_
    refine Q_then ?_
    refine K_seq ?_
    refine K_region ?_
    refine KV (R_loadW ty98 0 rfl rfl rfl rfl) rfl ?_
    refine K_storeW ty98 1 rfl rfl rfl rfl rfl rfl rfl ?_
    refine K_nil ?_
    refine Q_then ?_
    refine K_ret ?_
    refine results_sel [2, 2] rfl (rs := [.cell 6 99]) (vs := [_]) rfl ⟨⟨_, _, _, _, _, _, 1, rfl, rfl, ty98, (fun e => by cases e), rfl, rfl⟩, trivial⟩ ?_
    exact ⟨rfl, rfl⟩

theorem add_spec (a : Au) (st : DS) (limit : Int) (sym : Nat) (args : List Int) (B m1 m2 : Nat) (vr vu vf vrules v : Value) (H : View) (q : HL) (hq : BE T95 T98 B m1 m2 a vr vu vf vrules st q) (hinv : st.Inv limit) (hby : RepBy H a vrules) (hv : SI H v args)
    (hsym : sym < a.ranks.length) (hrl : a.ranks.length ≤ 1099511627776) (hul : (rulesOf a sym).length ≤ 1099511627776) (hral : ∀ r ∈ rulesOf a sym, r.args.length = args.length) (har : ∀ x ∈ args, 0 ≤ x ∧ x < st.subs.length) (hlim : limit ≤ 1048576) :
    SatO Tryz.prog F103 #[ptr B, .int .i64 (sym : Int), v, .int .i64 limit] H q
      (fun r _ q' => ∃ b : Bool, r = .bool b ∧ (b = true → ∃ st', addM a limit sym st args = some st' ∧ BE T95 T98 B m1 m2 a vr vu vf vrules st' q') ∧ (b = false → addM a limit sym st args = none)) := by
  obtain ⟨vsub, hvs, rfl⟩ := hq
  obtain ⟨sa, scp, rfl⟩ := hvs.shape
  obtain ⟨aa, acp, rfl⟩ := hv.shape
  have hsi : i64ok (sym : Int) := by simp only [i64ok]; omega
  have hko := keyM_ok hsi hv.2
  obtain ⟨kl, hkl⟩ := tri106.key hko
  have hsb : succM a st.subs sym args < big := succTo_big _ _ _ _
  obtain ⟨ks, hks⟩ := set98.key (succM a st.subs sym args)
  have hle := hinv.le
  refine enterO (n := 73) (args := [ptr B, .int .i64 (sym : Int), .slice aa args.length acp, .int .i64 limit]) Tryz.func115 rfl rfl rfl fun w0 => ?_
  refine K_seq ?_
  refine K_region ?_
  refine KV (R_assign rfl) rfl ?_
  refine K_nil ?_
  refine Q_then ?_
  refine K_seq ?_
  refine K_region ?_
  refine KV (R_move rfl) rfl ?_
  refine KV (R_move rfl) rfl ?_
  refine K_call c50 rfl rfl (key_spec sym args _ H hv) ?_
  rintro _ V1 hle1 rfl
  refine KA (A_alloc z106) rfl fun b9 => ?_
  refine K_storeW ty106 0 rfl rfl rfl rfl rfl rfl rfl ?_
  refine K_nil ?_
  refine Q_then ?_
  refine K_seq ?_
  refine K_seq ?_
  refine K_regionD (fin := false) (R := [0, 1, 2, 3, 4, 5, 6, 7, 8, 9, 10]) (by kernel_rfl) mixed (.cons_cons _ (.cons_cons _ (.cons_cons _ (.cons_cons _ (.cons_cons _ (List.nil_sublist _)))))) ?_
  refine D_val rfl rfl rfl (R_move rfl) ?_
  refine D_val rfl rfl rfl (R_nilCheck rfl) ?_
  refine D_val rfl rfl rfl (R_fieldAddr 7 fd95_4 rfl) ?_
  refine D_val rfl rfl rfl (R_loadO ty93 1 rfl rfl rfl rfl (fun _ => rfl) rfl) ?_
  refine D_val rfl rfl rfl (R_loadW ty106 0 rfl rfl rfl (show Value.agg _ = keyV (keyM sym args) from rfl)) ?_
  refine D_val rfl rfl rfl (R_lookup kl106 mt93 z3 4 rfl rfl rfl hkl (resKV_keys tri106 hinv.rk) (resKV_opt hinv.rn _)) ?_
  refine D_val rfl rfl rfl (R_move rfl) ?_
  refine D_val rfl rfl rfl (R_extract rfl rfl) ?_
  refine D_val rfl rfl rfl (R_extract rfl rfl) ?_
  refine D_val rfl rfl rfl (R_assign rfl) ?_
  refine D_val rfl rfl rfl (R_assign rfl) ?_
  refine D_done ?_
  refine Q_then ?_
  refine K_seq ?_
  refine K_region ?_
  refine KV (R_move rfl) rfl ?_
  refine K_nil ?_
  refine Q_then ?_
  cases hlk : lookM st.res (keyM sym args) with
  | some nn =>
    refine K_ifT rfl ?_
    refine K_seq ?_
    refine K_region ?_
    refine KV (R_assign rfl) rfl ?_
    refine K_nil ?_
    refine Q_then ?_
    refine K_ret ?_
    refine Q_then_ret ?_
    refine results_sel [1, 1, 1, 1] rfl (rs := [.tmp 8]) (vs := [_]) rfl ⟨rfl, trivial⟩ ?_
    exact ⟨true, rfl, fun _ => ⟨st, by simp [addM, hlk], _, hvs, rfl⟩, fun e => by cases e⟩
  | none =>
    refine K_ifF rfl ?_
    refine K_skip ?_
    refine Q_then ?_
    refine K_seq ?_
    refine K_region ?_
    refine KV (R_move rfl) rfl ?_
    refine KV (R_move rfl) rfl ?_
    refine KV (R_move rfl) rfl ?_
    refine KO_sel [1, 2, 0, 0, 0] rfl ?_
    refine K_callO (first := []) [_, _] [_, _, _] (List.Perm.refl _) c116 rfl rfl rfl (succ_spec a st.subs sym args B m1 m2 vr vu vf vrules _ _ V1 (hby.mono hle1) hvs (hv.mono hle1) hsym hrl hul hral har) ?_
    rintro _ V2 q hle2 ⟨rfl, rfl⟩
    refine KA (A_alloc z98) rfl fun b12 => ?_
    refine K_storeW ty98 0 rfl rfl rfl rfl rfl rfl rfl ?_
    refine K_nil ?_
    refine Q_then ?_
    refine K_seq ?_
    refine K_regionD (fin := false) (R := [0, 1, 2, 3, 4, 5, 6, 7, 8, 9, 10]) (by kernel_rfl) mixed (.cons_cons _ (.cons_cons _ (.cons_cons _ (.cons_cons _ (.cons_cons _ (.cons_cons _ (List.nil_sublist _))))))) ?_
    refine D_val rfl rfl rfl (R_move rfl) ?_
    refine D_val rfl rfl rfl (R_nilCheck rfl) ?_
    refine D_val rfl rfl rfl (R_fieldAddr 5 fd95_2 rfl) ?_
    refine D_val rfl rfl rfl (R_loadO ty91 1 rfl rfl rfl rfl (fun _ => rfl) rfl) ?_
    refine D_val rfl rfl rfl (R_loadW ty98 0 rfl rfl rfl (show Value.agg _ = setV (succM a st.subs sym args) from rfl)) ?_
    refine D_val rfl rfl rfl (R_lookup kl98 mt91 z3 4 rfl rfl rfl hks (numKV_keys set98 _) (numKV_opt hinv.nd hinv.bg hsb)) ?_
    refine D_val rfl rfl rfl (R_move rfl) ?_
    refine D_val rfl rfl rfl (R_extract rfl rfl) ?_
    refine D_val rfl rfl rfl (R_extract rfl rfl) ?_
    refine D_val rfl rfl rfl (R_assign rfl) ?_
    refine D_val rfl rfl rfl (R_assign rfl) ?_
    refine D_done ?_
    refine Q_then ?_
    refine K_seq ?_
    refine K_seq ?_
    refine K_region ?_
    refine KV (R_move rfl) rfl ?_
    refine KV (R_not rfl) rfl ?_
    refine K_nil ?_
    refine Q_then ?_
    cases hnum : numM st.subs (succM a st.subs sym args) with
    | none =>
      have hab := numKV_opt hinv.nd hinv.bg hsb
      rw [hnum] at hab
      refine K_ifT rfl ?_
      refine K_seq ?_
      refine K_region ?_
      refine KV (R_move rfl) rfl ?_
      refine KV (R_nilCheck rfl) rfl ?_
      refine KV (R_fieldAddr 6 fd95_3 rfl) rfl ?_
      refine KV (R_loadO ty92 1 rfl rfl rfl rfl (fun _ => rfl) rfl) rfl ?_
      refine KV (R_len sl92 rfl) rfl ?_
      refine KV (R_assign rfl) rfl ?_
      refine K_nil ?_
      refine Q_then ?_
      refine K_seq ?_
      refine K_seq ?_
      refine K_region ?_
      refine KV (R_move rfl) rfl ?_
      refine KV (R_move rfl) rfl ?_
      refine KV (R_cmp rfl rfl rfl) rfl ?_
      refine K_nil ?_
      refine Q_then ?_
      refine K_if rfl (fun h50 => ?_) (fun h50 => ?_)
      ·
        refine K_seq ?_
        refine K_region ?_
        refine KV (R_assign rfl) rfl ?_
        refine K_nil ?_
        refine Q_then ?_
        refine K_ret ?_
        refine Q_then_ret ?_
        refine Q_then_ret ?_
        refine results_sel [1, 3, 1, 2] rfl (rs := [.tmp 8]) (vs := [_]) rfl ⟨rfl, trivial⟩ ?_
        exact ⟨false, rfl, (fun e => by cases e), fun _ => by simp [addM, hlk, hnum, h50]⟩
      ·
        refine K_skip ?_
        refine Q_then ?_
        refine K_seq ?_
        refine K_regionD (fin := true) (R := [0, 1, 2, 3, 4, 5, 6]) (by kernel_rfl) mixed (.cons_cons _ (.cons_cons _ (.cons_cons _ (.cons_cons _ (.cons_cons _ (.cons_cons _ (List.nil_sublist _))))))) ?_
        refine D_val rfl rfl rfl (R_move rfl) ?_
        refine D_val rfl rfl rfl (R_nilCheck rfl) ?_
        refine D_val rfl rfl rfl (R_fieldAddr 5 fd95_2 rfl) ?_
        refine D_val rfl rfl rfl (R_loadO ty91 1 rfl rfl rfl rfl (fun _ => rfl) rfl) ?_
        refine D_val rfl rfl rfl (R_loadW ty98 0 rfl rfl rfl (show Value.agg _ = setV (succM a st.subs sym args) from rfl)) ?_
        refine D_val rfl rfl rfl (R_move rfl) ?_
        refine D_lastPut kl98 mt91 4 rfl rfl rfl rfl rfl rfl (hks) (numKV_keys set98 _) (hab) ?_
        refine Q_then ?_
        refine K_regionD (fin := true) (R := [0, 1, 2, 3, 4, 5, 6, 7, 8, 9, 10]) (by kernel_rfl) mixed (.cons_cons _ (.cons_cons _ (.cons _ (.cons _ (.cons _ (.cons _ (List.nil_sublist _))))))) ?_
        refine D_val rfl rfl rfl (R_move rfl) ?_
        refine D_val rfl rfl rfl (R_move rfl) ?_
        refine D_val rfl rfl rfl (R_nilCheck rfl) ?_
        refine D_val rfl rfl rfl (R_fieldAddr 6 fd95_3 rfl) ?_
        refine D_val rfl rfl rfl (R_loadO ty92 1 rfl rfl rfl rfl (fun _ => rfl) rfl) ?_
        refine D_val rfl rfl rfl (R_loadW ty98 0 rfl rfl rfl (show Value.agg _ = setV (succM a st.subs sym args) from rfl)) ?_
        refine D_alloc rfl rfl rfl (A_buildSlice (vs := [setV (succM a st.subs sym args)]) sl92 ty98 z98 rfl rfl (by intro v hv; simp only [List.mem_cons, List.not_mem_nil, or_false] at hv; subst hv; rfl) (by simp) rfl (by decide)) fun b63 => ?_
        refine D_append1 2 ap92 rfl rfl rfl rfl rfl rfl ⟨⟨0, rfl⟩, ⟨1, rfl⟩, trivial⟩ rfl rfl ⟨by omega, by omega⟩ fun a64 k64 hn64 => ?_
        refine D_val rfl rfl rfl (R_nilCheck rfl) ?_
        refine D_val rfl rfl rfl (R_fieldAddr 6 fd95_3 rfl) ?_
        refine D_lastStore ty92 2 rfl rfl rfl rfl rfl rfl rfl rfl ?_
        refine KQ_rowshape 0 rfl fun hvs2 => ?_
        refine Q_then ?_
        refine K_seq ?_
        have hrb := resKV_opt hinv.rn (keyM sym args)
        rw [hlk] at hrb
        refine K_regionD (fin := true) (R := [0, 1, 2, 3, 4, 5, 6]) (by kernel_rfl) mixed (.cons_cons _ (.cons_cons _ (.cons_cons _ (.cons_cons _ (.cons_cons _ (.cons_cons _ (List.nil_sublist _))))))) ?_
        refine D_val rfl rfl rfl (R_move rfl) ?_
        refine D_val rfl rfl rfl (R_nilCheck rfl) ?_
        refine D_val rfl rfl rfl (R_fieldAddr 7 fd95_4 rfl) ?_
        refine D_val rfl rfl rfl (R_loadO ty93 2 rfl rfl rfl rfl (fun _ => rfl) rfl) ?_
        refine D_val rfl rfl rfl (R_loadW ty106 3 rfl rfl rfl (show Value.agg _ = keyV (keyM sym args) from rfl)) ?_
        refine D_val rfl rfl rfl (R_move rfl) ?_
        refine D_lastPut kl106 mt93 5 rfl rfl rfl rfl rfl rfl (hkl) (resKV_keys tri106 hinv.rk) (hrb) ?_
        refine Q_then ?_
        refine K_seq ?_
        refine K_region ?_
        refine KV (R_assign rfl) rfl ?_
        refine K_nil ?_
        refine Q_then ?_
        refine K_ret ?_
        refine results_sel [2, 3, 0, 2] rfl (rs := [.tmp 8]) (vs := [_]) rfl ⟨rfl, trivial⟩ ?_
        refine ⟨true, rfl, fun _ => ⟨⟨st.subs ++ [succM a st.subs sym args], st.res ++ [(keyM sym args, (st.subs.length : Int))]⟩, by simp [addM, hlk, hnum, h50], _, by simpa using hvs2, ?_⟩, fun e => by cases e⟩
        simp only [numKV_snoc, subCells_snoc, resKV_snoc, List.length_append, List.length_cons, List.length_nil]
        rfl
    | some nn =>
      refine K_ifF rfl ?_
      refine K_skip ?_
      refine Q_then ?_
      refine K_seq ?_
      have hrb := resKV_opt hinv.rn (keyM sym args)
      rw [hlk] at hrb
      refine K_regionD (fin := true) (R := [0, 1, 2, 3, 4, 5, 6]) (by kernel_rfl) mixed (.cons_cons _ (.cons_cons _ (.cons_cons _ (.cons_cons _ (.cons_cons _ (.cons_cons _ (List.nil_sublist _))))))) ?_
      refine D_val rfl rfl rfl (R_move rfl) ?_
      refine D_val rfl rfl rfl (R_nilCheck rfl) ?_
      refine D_val rfl rfl rfl (R_fieldAddr 7 fd95_4 rfl) ?_
      refine D_val rfl rfl rfl (R_loadO ty93 1 rfl rfl rfl rfl (fun _ => rfl) rfl) ?_
      refine D_val rfl rfl rfl (R_loadW ty106 3 rfl rfl rfl (show Value.agg _ = keyV (keyM sym args) from rfl)) ?_
      refine D_val rfl rfl rfl (R_move rfl) ?_
      refine D_lastPut kl106 mt93 5 rfl rfl rfl rfl rfl rfl (hkl) (resKV_keys tri106 hinv.rk) (hrb) ?_
      refine Q_then ?_
      refine K_seq ?_
      refine K_region ?_
      refine KV (R_assign rfl) rfl ?_
      refine K_nil ?_
      refine Q_then ?_
      refine K_ret ?_
      refine results_sel [1, 3, 1, 2] rfl (rs := [.tmp 8]) (vs := [_]) rfl ⟨rfl, trivial⟩ ?_
      refine ⟨true, rfl, fun _ => ⟨⟨st.subs, st.res ++ [(keyM sym args, nn)]⟩, by simp [addM, hlk, hnum], _, hvs, ?_⟩, fun e => by cases e⟩
      simp only [resKV_snoc]
      rfl

theorem addc_spec (a : Au) (st : DS) (limit : Int) (sym : Nat) (args : List Int) (B m1 m2 bp bs bl : Nat) (vr vu vf vrules v : Value) (H : View) (q : HL) (hq : BE T95 T98 B m1 m2 a vr vu vf vrules st q) (hinv : st.Inv limit) (hby : RepBy H a vrules) (hv : SI H v args)
    (hsym : sym < a.ranks.length) (hrl : a.ranks.length ≤ 1099511627776) (hul : (rulesOf a sym).length ≤ 1099511627776) (hral : ∀ r ∈ rulesOf a sym, r.args.length = args.length) (har : ∀ x ∈ args, 0 ≤ x ∧ x < st.subs.length) (hlim : limit ≤ 1048576)
    (hbp : At H bp 0 [ptr B]) (hbs : At H bs 0 [.int .i64 (sym : Int)]) (hbl : At H bl 0 [.int .i64 limit]) :
    SatO Tryz.prog F102 #[v, ptr bp, ptr bs, ptr bl] H q
      (fun r _ q' => ∃ b : Bool, r = .bool b ∧ (b = true → ∃ st', addM a limit sym st args = some st' ∧ BE T95 T98 B m1 m2 a vr vu vf vrules st' q') ∧ (b = false → addM a limit sym st args = none)) := by
  obtain ⟨aa, acp, rfl⟩ := hv.shape
  refine enterO (n := 11) (args := [.slice aa args.length acp, ptr bp, ptr bs, ptr bl]) Tryz.func114 rfl rfl rfl fun w0 => ?_
  refine K_seq ?_
  refine K_region ?_
  refine KV (R_assign rfl) rfl ?_
  refine K_nil ?_
  refine Q_then ?_
  refine K_seq ?_
  refine K_region ?_
  refine KV (R_loadH ty87 rfl (hbp) rfl (fun _ => rfl) rfl) rfl ?_
  refine KV (R_loadH ty3 rfl (hbs) rfl (fun _ => rfl) rfl) rfl ?_
  refine KV (R_move rfl) rfl ?_
  refine KV (R_loadH ty3 rfl (hbl) rfl (fun _ => rfl) rfl) rfl ?_
  refine K_callO (first := []) q [] (by rw [List.append_nil]) c103 rfl rfl rfl (add_spec a st limit sym args B m1 m2 vr vu vf vrules _ H q hq hinv hby hv hsym hrl hul hral har hlim) ?_
  rintro _ V1 q1 hle1 ⟨b, rfl, hb1, hb2⟩
  refine KV (R_assign rfl) rfl ?_
  refine K_nil ?_
  refine Q_then ?_
  refine K_ret ?_
  refine results_gen (rs := [.tmp 5]) (vs := [_]) rfl ⟨rfl, trivial⟩ ?_
  refine ⟨b, rfl, ?_, hb2⟩
  rw [List.append_nil]
  exact hb1

theorem build_spec (a : Au) (haok : AuOk a) (limit : Int) (B m1 m2 : Nat) (vr vu vf vrules : Value) (H : View) (hr : SI H vr a.ranks) (hby : RepBy H a vrules) (hlim : limit ≤ 1048576) (st0 : DS) (q0 : HL) (F0 : Nat) (hq0 : BE T95 T98 B m1 m2 a vr vu vf vrules st0 q0) (hinv0 : st0.Inv limit) (hF0 : limit - st0.subs.length < F0) :
    SatO Tryz.prog F79 #[ptr B, .int .i64 limit] H q0 (fun r _ q' => ∃ b : Bool, r = .bool b ∧ (b = true → ∃ st', buildM a limit F0 st0 = some st' ∧ st'.Inv limit ∧ BE T95 T98 B m1 m2 a vr vu vf vrules st' q') ∧ (b = false → buildM a limit F0 st0 = none)) := by
  obtain ⟨ra, rcp, rfl⟩ := hr.shape
  have hrl := haok.rl
  refine enterP (n := 37) (args := [ptr B, .int .i64 limit]) Tryz.func84 rfl rfl rfl fun w0 hpass => ?_
  refine K_seq ?_
  refine K_region ?_
  refine KA (A_box rfl) rfl fun b2 => ?_
  refine KA (A_box rfl) rfl fun b3 => ?_
  refine KV (R_assign rfl) rfl ?_
  refine K_nil ?_
  refine KQ_pubblk (by intro x hx; simp only [feet_cons]; simp [hx]) fun V1 hle1 hb3 => ?_
  refine KQ_pubblk (by intro x hx; exact hx) fun V2 hle2 hb2 => ?_
  have hA2 := At.of hb2
  have hA3 := (At.of hb3).mono hle2
  have h02 := hle1.trans hle2
  refine Q_then ?_
  refine K_block ?_
  refine K_loop (G := Nat × DS × View × HL) ⟨fun g => [(2, ptr b2), (3, ptr b3)], fun g => g.2.2.2, fun g => g.2.2.1, fun g => VLe V2 g.2.2.1 ∧ BE T95 T98 B m1 m2 a (.slice ra a.ranks.length rcp) vu vf vrules g.2.1 g.2.2.2 ∧ g.2.1.Inv limit ∧ buildM a limit F0 st0 = buildM a limit g.1 g.2.1 ∧ limit - g.2.1.subs.length < g.1, fun g => g.1⟩ (F0, st0, V2, q0) ⟨VLe.refl V2, hq0, hinv0, rfl, hF0⟩ ⟨rfl, rfl, trivial⟩ rfl rfl ?_
  rintro ⟨F, st, V, q⟩ ⟨hV, hq, hinv, hbm, hF⟩
  dsimp only at hV hq hinv hbm hF ⊢
  obtain ⟨vsub, hvs, rfl⟩ := hq
  obtain ⟨sa, scp, rfl⟩ := hvs.shape
  have hle := hinv.le
  obtain ⟨F, rfl⟩ : ∃ F2, F = F2 + 1 := ⟨F - 1, by omega⟩
  refine K_block ?_
  refine K_seq ?_
  refine K_region ?_
  refine KV (R_loadH ty87 rfl (hA2.mono hV) rfl (fun _ => rfl) rfl) rfl ?_
  refine KV (R_nilCheck rfl) rfl ?_
  refine KV (R_fieldAddr 6 fd95_3 rfl) rfl ?_
  refine KV (R_loadO ty92 0 rfl rfl rfl rfl (fun _ => rfl) rfl) rfl ?_
  refine KV (R_len sl92 rfl) rfl ?_
  refine KV (R_assign rfl) rfl ?_
  refine K_nil ?_
  refine Q_then ?_
  refine K_seq ?_
  refine K_seq ?_
  refine K_region ?_
  refine KV (R_loadH ty87 rfl (hA2.mono hV) rfl (fun _ => rfl) rfl) rfl ?_
  refine KV (R_nilCheck rfl) rfl ?_
  refine KV (R_fieldAddr 0 fd95_0 rfl) rfl ?_
  refine KV (R_fieldAddr 0 fd50_0 rfl) rfl ?_
  refine KV (R_loadO ty47 0 rfl rfl rfl rfl (fun _ => rfl) rfl) rfl ?_
  refine KV (R_len sl47 rfl) rfl ?_
  refine KV (R_move rfl) rfl ?_
  refine K_nil ?_
  refine Q_then ?_
  refine K_block ?_
  refine K_loop (G := Nat × DS × View × HL) ⟨fun g => [(2, ptr b2), (3, ptr b3), (5, .int .i64 (st.subs.length : Int)), (17, .slice ra a.ranks.length rcp), (18, .int .i64 a.ranks.length), (19, .int .i64 (g.1 : Int))], fun g => g.2.2.2, fun g => g.2.2.1, fun g => g.1 ≤ a.ranks.length ∧ VLe V g.2.2.1 ∧ BE T95 T98 B m1 m2 a (.slice ra a.ranks.length rcp) vu vf vrules g.2.1 g.2.2.2 ∧ g.2.1.Inv limit ∧ st.subs.length ≤ g.2.1.subs.length ∧ roundM a limit st.subs.length a.ranks 0 st = roundM a limit st.subs.length (a.ranks.drop g.1) g.1 g.2.1, fun g => a.ranks.length - g.1⟩ (0, st, V, _) ⟨Nat.zero_le _, VLe.refl V, ⟨_, hvs, rfl⟩, hinv, Nat.le_refl _, rfl⟩ ⟨rfl, rfl, rfl, rfl, rfl, rfl, trivial⟩ rfl rfl ?_
  rintro ⟨s, st2, U, q2⟩ ⟨hs, hU, hq2, hinv2, hge, hrd⟩
  dsimp only at hs hU hq2 hinv2 hge hrd ⊢
  refine K_seq ?_
  refine K_region ?_
  refine KV (R_cmp rfl rfl rfl) rfl ?_
  refine K_nil ?_
  refine Q_then ?_
  refine K_seq ?_
  refine K_if rfl (fun h20 => ?_) (fun h20 => ?_)
  ·
    have hs' : s < a.ranks.length := by omega
    obtain ⟨rb, ro, rfl, hrk⟩ := (hr.mono (h02.trans (hV.trans hU))).get hs'
    refine K_skip ?_
    refine Q_then ?_
    refine K_seq ?_
    refine K_block ?_
    refine K_seq ?_
    refine K_region ?_
    refine KV (R_move rfl) rfl ?_
    refine KV (R_indexN sl47 ty3 rfl rfl (by omega)) rfl ?_
    refine KV (R_loadH ty3 rfl (hrk) rfl (fun _ => rfl) rfl) rfl ?_
    refine KAn (A_alloc z3) rfl fun b6 hf6 => ?_
    refine K_store ty3 0 rfl rfl rfl rfl rfl rfl ?_
    refine KV (R_assign rfl) rfl ?_
    refine K_nil ?_
    refine KQ_pubnew (fun hm => Nat.lt_irrefl _ (Nat.lt_of_lt_of_le (hpass _ hm) hf6)) fun W1 hw1 hb6 => ?_
    have hA6 := At.of hb6
    refine Q_then ?_
    refine K_seq ?_
    refine K_region ?_
    refine KV (R_move rfl) rfl ?_
    refine KV (R_move rfl) rfl ?_
    refine KV (R_makeFunc rfl rfl) rfl ?_
    have hrs := haok.rk s hs'
    obtain ⟨nn, hnn⟩ : ∃ nn : Nat, a.ranks[s] = (nn : Int) := ⟨a.ranks[s].toNat, by omega⟩
    have hsi : i64ok (s : Int) := by simp only [i64ok]; omega
    have hnt : a.ranks[s].toNat = nn := by omega
    have hexti : ∀ x ∈ ext st.subs.length nn [], ∀ y ∈ x, i64ok y := by
      intro x hx y hy
      obtain ⟨zs, rfl, _, h2⟩ := ext_mem hx
      have := h2 y (by simpa using hy)
      simp only [i64ok]; omega
    have hvis : VisitOk Tryz.prog F102 [ptr b2, ptr b6, ptr b3] W1 (ext st.subs.length nn []) (fun pre q => ∃ st3, addsM a limit s pre st2 = some st3 ∧ BE T95 T98 B m1 m2 a (.slice (some ⟨rb, ro, none⟩) a.ranks.length rcp) vu vf vrules st3 q) (fun _ => addsM a limit s (ext st.subs.length nn []) st2 = none) := by
      rintro G pre xs xa len cp p hlen hle ⟨st3, hadd, hq3⟩ hpf hxs hcp
      have hxm : xs ∈ ext st.subs.length nn [] := hpf.subset (by simp)
      obtain ⟨zs, hz, hzl, hzz⟩ := ext_mem hxm
      rw [List.nil_append] at hz
      subst hz
      have hpre : ∀ x ∈ pre, ∀ y ∈ x, i64ok y := fun x hx => hexti x (hpf.subset (by simp [hx]))
      obtain ⟨hinv3, hge3⟩ := addsM_inv hsi hpre hinv2 hadd
      refine SatO.mono' (addc_spec a st3 limit s xs B m1 m2 b2 b6 b3 _ vu vf vrules _ G p hq3 hinv3 (hby.mono (h02.trans (hV.trans (hU.trans (hw1.trans hle))))) hxs hs' (by omega) ?_ ?_ ?_ hlim (hA2.mono (hV.trans (hU.trans (hw1.trans hle)))) (hA6.mono hle) (hA3.mono (hV.trans (hU.trans (hw1.trans hle))))) ?_
      · have := List.length_filter_le (fun r : Rl => decide (r.sym = (s : Int))) a.rules
        have := haok.ul
        simp only [rulesOf]; omega
      · intro r hr
        obtain ⟨h1, h2⟩ := rulesOf_mem hr
        obtain ⟨_, _, h3, _⟩ := haok.ru r h1
        rw [h2] at h3
        have h4 : a.ranks.getD ((s : Int).toNat) 0 = a.ranks[s] := by simp [List.getD, hs']
        rw [h4] at h3
        omega
      · intro z hz
        have := hzz z hz
        omega
      · rintro v H' q ⟨b, rfl, hb1, hb2⟩
        refine ⟨b, rfl, ?_, ?_⟩
        · intro e
          obtain ⟨st4, h4, hq4⟩ := hb1 e
          exact ⟨st4, by rw [addsM_append, hadd]; simp [addsM, h4], hq4⟩
        · intro e
          obtain ⟨rest, hrest⟩ := hpf
          rw [← hrest, addsM_append, addsM_append, hadd]
          simp [addsM, hb2 e]

    refine K_callO (first := []) q2 [] (by rw [List.append_nil]) c48 rfl rfl rfl (hnn ▸ tuples_spec nn st.subs.length F102 [ptr b2, ptr b6, ptr b3] _ _ W1 q2 hvis c102 (by omega) (by omega) ⟨st2, rfl, hq2⟩) ?_
    rintro _ U2 q3 hu2 ⟨r, rfl, hr1, hr2⟩
    refine KV (R_not rfl) rfl ?_
    refine K_nil ?_
    refine Q_then ?_
    cases r with
    | false =>
      refine K_ifT rfl ?_
      refine K_seq ?_
      refine K_region ?_
      refine KV (R_assign rfl) rfl ?_
      refine K_nil ?_
      refine Q_then ?_
      refine K_ret ?_
      refine Q_block_ret ?_
      refine Q_then_ret ?_
      refine Q_then_ret ?_
      refine Q_block_ret ?_
      refine Q_then_ret ?_
      refine Q_block_ret ?_
      refine Q_then_ret ?_
      refine Q_block_ret ?_
      refine results_gen (rs := [.tmp 4]) (vs := [_]) rfl ⟨rfl, trivial⟩ ?_
      refine ⟨false, rfl, (fun e => by cases e), fun _ => ?_⟩
      rw [hbm, buildM, hrd, List.drop_eq_getElem_cons hs', roundM, hnt, hr2 rfl]
      rfl
    | true =>
      obtain ⟨st3, hadd, hq3⟩ := hr1 rfl
      refine K_ifF rfl ?_
      refine K_skip ?_
      refine Q_block ?_
      refine Q_then ?_
      refine K_region ?_
      refine KV (R_add rfl rfl (by omega)) rfl ?_
      refine KV (R_move rfl) rfl ?_
      refine K_nil ?_
      exact Q_next (s + 1, st3, U2, _) ⟨hs', hU.trans (hw1.trans hu2), by rw [List.append_nil]; exact hq3, (addsM_inv hsi hexti hinv2 hadd).1, Nat.le_trans hge (addsM_inv hsi hexti hinv2 hadd).2, by rw [hrd, List.drop_eq_getElem_cons hs', roundM, hnt, hadd]; rfl⟩ (by dsimp only; omega) ⟨rfl, rfl, rfl, rfl, rfl, rfl, trivial⟩ rfl rfl
  ·
    have hs' : s = a.ranks.length := by omega
    subst hs'
    rw [List.drop_length, roundM] at hrd
    refine K_exit ?_
    refine Q_then_exit ?_
    refine Q_then_exit ?_
    refine Q_block_exit ?_
    refine Q_then ?_
    refine K_seq ?_
    obtain ⟨vsub2, hvs2, rfl⟩ := hq2
    obtain ⟨sa2, scp2, rfl⟩ := hvs2.shape
    refine K_region ?_
    refine KV (R_loadH ty87 rfl (hA2.mono (hV.trans hU)) rfl (fun _ => rfl) rfl) rfl ?_
    refine KV (R_nilCheck rfl) rfl ?_
    refine KV (R_fieldAddr 6 fd95_3 rfl) rfl ?_
    refine KV (R_loadO ty92 0 rfl rfl rfl rfl (fun _ => rfl) rfl) rfl ?_
    refine KV (R_len sl92 rfl) rfl ?_
    refine KV (R_move rfl) rfl ?_
    refine KV (R_cmp rfl rfl rfl) rfl ?_
    refine K_nil ?_
    refine Q_then ?_
    refine K_if rfl (fun h36 => ?_) (fun h36 => ?_)
    ·
      have hbf : buildM a limit (F + 1) st = some st2 := by
        rw [buildM, hrd]
        simp only [Option.bind_some]
        rw [if_pos (by omega)]
      refine K_seq ?_
      refine K_region ?_
      refine KV (R_assign rfl) rfl ?_
      refine K_nil ?_
      refine Q_then ?_
      refine K_ret ?_
      refine Q_block_ret ?_
      refine Q_then_ret ?_
      refine Q_block_ret ?_
      refine results_gen (rs := [.tmp 4]) (vs := [_]) rfl ⟨rfl, trivial⟩ ?_
      exact ⟨true, rfl, fun _ => ⟨st2, by rw [hbm, hbf], hinv2, _, hvs2, rfl⟩, fun e => by cases e⟩
    ·
      have hnext : buildM a limit F0 st0 = buildM a limit F st2 := by
        rw [hbm, buildM, hrd]
        simp only [Option.bind_some]
        rw [if_neg (by omega)]
      refine K_skip ?_
      refine Q_block ?_
      exact Q_next (F, st2, U, _) ⟨hV.trans hU, ⟨_, hvs2, rfl⟩, hinv2, hnext, (by dsimp only; omega)⟩ (by dsimp only; omega) ⟨rfl, rfl, trivial⟩ rfl rfl
end Go.Proofs.X

namespace Go.Proofs.X
open Go Pal Go.Proofs
attribute [local irreducible] Pal.KO Pal.KC Pal.KQ Pal.KD
theorem z48 : zeroOk Tryz.prog T48 (.slice none 0 0) := .of (by kernel_rfl)
theorem z95 : zeroOk Tryz.prog T95 (.agg #[.slice none 0 0, .int .i64 0, .slice none 0 0, .slice none 0 0, .slice none 0 0, .map none, .slice none 0 0, .map none]) := .of (by kernel_rfl)
theorem pl95 : placesOk Tryz.prog T95 [(0, 4), (4, 1), (5, 1), (6, 1), (7, 1)] := ⟨_, Tryz.underlying107, by kernel_rfl⟩
theorem c77 : callable Tryz.prog F77 = true := by kernel_rfl
theorem c78 : callable Tryz.prog F78 = true := by kernel_rfl
theorem c79 : callable Tryz.prog F79 = true := by kernel_rfl
theorem ap48 : App Tryz.prog T48 T85 3 40 := .of sl48 (by kernel_rfl)
theorem ap90 : App Tryz.prog T90 T48 1 24 := .of sl90 (by kernel_rfl)
theorem newb_spec (a : Au) (haok : AuOk a) (vr vu vf : Value) (H : View) (ha : RepAu H a vr vu vf) : SatO Tryz.prog F78 #[.agg #[vr, .int .i64 a.states, vu, vf]] H []
    (fun v H' q => ∃ B m1 m2 vrules, v = ptr B ∧ RepBy H' a vrules ∧ BE T95 T98 B m1 m2 a vr vu vf vrules ⟨[], []⟩ q) := by
  obtain ⟨ra, rcp, rfl⟩ := ha.r.shape
  obtain ⟨ua, ucp, rfl⟩ := ha.ushape
  have hrl := haok.rl
  have hul := haok.ul
  refine enterO (n := 42) (args := [.agg #[.slice ra a.ranks.length rcp, .int .i64 a.states, .slice ua a.rules.length ucp, vf]]) Tryz.func83 rfl rfl rfl fun w0 => ?_
  refine K_seq ?_
  refine K_region ?_
  refine KA (A_box rfl) rfl fun b1 => ?_
  refine KV (R_assign rfl) rfl ?_
  refine K_nil ?_
  refine Q_then ?_
  refine K_seq ?_
  refine K_regionD (fin := false) (R := [0, 1, 2, 3, 4, 5, 6, 7, 8, 9]) (by kernel_rfl) mixed (.cons_cons _ (List.nil_sublist _)) ?_
  refine D_val rfl rfl rfl (R_loadO ty50 0 rfl rfl rfl rfl (fun e => by cases e) rfl) ?_
  refine D_val rfl rfl rfl (R_fieldAddr 0 fd50_0 rfl) ?_
  refine D_val rfl rfl rfl (R_loadO ty47 0 rfl rfl rfl rfl (fun _ => rfl) rfl) ?_
  refine D_val rfl rfl rfl (R_len sl47 rfl) ?_
  refine D_makeSlice rfl rfl rfl ⟨⟨0, rfl⟩, trivial⟩ (A_makeSlice ap90 z48 ty48 rfl rfl (by omega) (by omega)) fun b10 => ?_
  refine D_alloc rfl rfl rfl (A_makeMap) fun b11 => ?_
  refine D_alloc rfl rfl rfl (A_makeMap) fun b12 => ?_
  refine D_val rfl rfl rfl (R_build z95 pl95 rfl rfl) ?_
  refine D_alloc rfl rfl rfl (A_box rfl) fun b14 => ?_
  refine D_val rfl rfl rfl (R_assign rfl) ?_
  refine D_done ?_
  refine KQ_sel [2, 1, 0, 0, 0] rfl ?_
  refine KQ_mapNew ?_
  refine KQ_front 1 rfl ?_
  refine KQ_mapNew ?_
  refine KQ_sel [3, 2, 2, 1, 0] rfl ?_
  rw [show madeCells (Value.slice none 0 0).cells (a.ranks.length * 1) = headsF nilF a.ranks.length from madeNil _]
  refine KQ_nilrows T85 3 a.ranks.length ?_
  refine Q_then ?_
  refine K_seq ?_
  refine K_seq ?_
  refine K_region ?_
  refine KV (R_fieldAddr 2 fd50_2 rfl) rfl ?_
  refine KV (R_loadO ty48 2 rfl rfl rfl rfl (fun _ => rfl) rfl) rfl ?_
  refine KV (R_len sl48 rfl) rfl ?_
  refine KV (R_move rfl) rfl ?_
  refine K_nil ?_
  refine Q_then ?_
  refine K_block ?_
  refine K_loop (G := Nat × View × Fam) ⟨fun g => [(1, ptr b1), (3, ptr b14), (16, .slice ua a.rules.length ucp), (17, .int .i64 a.rules.length), (18, .int .i64 (g.1 : Int))], fun g => blk b10 (.cells (headsF g.2.2 a.ranks.length) T48 (0, 0)) :: blk b14 (.cells #[.slice ra a.ranks.length rcp, .int .i64 a.states, .slice ua a.rules.length ucp, vf, slc a.ranks.length b10, mp b11, .slice none 0 0, mp b12] T95 (0, 0)) :: blk b1 (.cells #[.slice ra a.ranks.length rcp, .int .i64 a.states, .slice ua a.rules.length ucp, vf] T50 (0, 0)) :: mapO b11 [] :: mapO b12 [] :: rowsF T85 3 g.2.2 a.ranks.length, fun g => g.2.1, fun g => g.1 ≤ a.rules.length ∧ VLe H g.2.1 ∧ ∀ s, s < a.ranks.length → (∃ ad cp, (g.2.2 s).1 = .slice ad (g.2.2 s).2.1 cp) ∧ (g.2.2 s).2.1 = ((a.rules.take g.1).filter (fun r => decide (r.sym = (s : Int)))).length ∧ RepL (RepR g.2.1) 3 ((a.rules.take g.1).filter (fun r => decide (r.sym = (s : Int)))) (g.2.2 s).2.2, fun g => a.rules.length - g.1⟩ (0, H, nilF) ⟨Nat.zero_le _, VLe.refl H, fun s _ => ⟨⟨none, 0, rfl⟩, rfl, .nil⟩⟩ ⟨rfl, rfl, rfl, rfl, rfl, trivial⟩ rfl rfl ?_
  rintro ⟨k, V, f⟩ ⟨hk, hV, hf⟩
  dsimp only at hk hV hf ⊢
  refine K_seq ?_
  refine K_region ?_
  refine KV (R_cmp rfl rfl rfl) rfl ?_
  refine K_nil ?_
  refine Q_then ?_
  refine K_seq ?_
  refine K_if rfl (fun h19 => ?_) (fun h19 => ?_)
  ·
    have hk' : k < a.rules.length := by omega
    obtain ⟨ub, uo, ucp2, xa, xcp, hue, hrc, hsr, hsym, hto, hal⟩ := (ha.mono hV).rule hk'
    cases hue
    obtain ⟨hr1, hr2, hr3, hr4, hr5, hr6⟩ := haok.ru _ (List.getElem_mem hk')
    have hsn : a.rules[k].sym.toNat < a.ranks.length := by omega
    have hcnt := (hf _ hsn).2.1
    have hfl := List.length_filter_le (fun r : Rl => decide (r.sym = (a.rules[k].sym.toNat : Int))) (a.rules.take k)
    have htl := List.length_take_le k a.rules
    refine K_skip ?_
    refine Q_then ?_
    refine K_seq ?_
    refine K_block ?_
    refine K_seq ?_
    refine K_region ?_
    refine KV (R_indexN sl48 ty85 rfl rfl (by omega)) rfl ?_
    refine KV (R_loadH ty85 rfl (hrc) rfl (fun e => by cases e) rfl) rfl ?_
    refine KA (A_alloc z85) rfl fun b5 => ?_
    refine K_store ty85 0 rfl rfl rfl rfl rfl rfl ?_
    refine K_nil ?_
    refine Q_then ?_
    refine K_regionD (fin := true) (R := [0, 1, 2, 3, 4, 5, 6, 7, 8, 9, 10, 11, 12, 13, 14, 15, 16, 17, 18]) (by kernel_rfl) mixed (.cons_cons _ (.cons_cons _ (.cons_cons _ (.cons _ (.cons _ (.cons _ (List.nil_sublist _))))))) ?_
    refine D_val rfl rfl rfl (R_move rfl) ?_
    refine D_val rfl rfl rfl (R_nilCheck rfl) ?_
    refine D_val rfl rfl rfl (R_fieldAddr 4 fd95_1 rfl) ?_
    refine D_val rfl rfl rfl (R_loadO ty90 2 rfl rfl rfl rfl (fun _ => rfl) rfl) ?_
    refine D_val rfl rfl rfl (R_fieldAddr 0 fd85_0 rfl) ?_
    refine D_val rfl rfl rfl (R_loadO ty3 0 rfl rfl rfl rfl (fun _ => rfl) rfl) ?_
    refine D_val rfl rfl rfl (R_move rfl) ?_
    refine D_val rfl rfl rfl (R_nilCheck rfl) ?_
    refine D_val rfl rfl rfl (R_fieldAddr 4 fd95_1 rfl) ?_
    refine D_val rfl rfl rfl (R_loadO ty90 2 rfl rfl rfl rfl (fun _ => rfl) rfl) ?_
    refine D_val rfl rfl rfl (R_fieldAddr 0 fd85_0 rfl) ?_
    refine D_val rfl rfl rfl (R_loadO ty3 0 rfl rfl rfl rfl (fun _ => rfl) rfl) ?_
    refine D_val rfl rfl rfl (R_index sl90 ty48 rfl rfl ⟨by omega, by omega⟩) ?_
    refine D_val rfl rfl rfl (R_loadC ty48 1 rfl rfl (headsF_get (by omega) hsn)) ?_
    refine D_val rfl rfl rfl (R_loadO ty85 0 rfl rfl rfl rfl (fun e => by cases e) rfl) ?_
    refine D_alloc rfl rfl rfl (A_buildSlice (vs := [.agg #[.int .i64 a.rules[k].sym, .slice xa a.rules[k].args.length xcp, .int .i64 a.rules[k].to]]) sl48 ty85 z85 rfl rfl (by simp [Value.cells]) (by simp) rfl (by decide)) fun b37 => ?_
    refine D_append1 (a.rules[k].sym.toNat + 6) ap48 rfl rfl rfl rfl rfl (rowsF_get hsn) ⟨⟨0, rfl⟩, ⟨1, rfl⟩, ⟨2, rfl⟩, trivial⟩ rfl rfl ⟨by omega, by omega⟩ fun a38 k38 hn38 => ?_
    refine D_val rfl rfl rfl (R_index sl90 ty48 rfl rfl ⟨by omega, by omega⟩) ?_
    refine D_lastStoreE ty48 2 rfl rfl rfl rfl rfl rfl (by rw [headsF_size]; show _ + 1 ≤ _; omega) rfl (headsF_put (m := (f a.rules[k].sym.toNat).2.1 + 1) (cs := (f a.rules[k].sym.toNat).2.2 ++ [.int .i64 a.rules[k].sym, .slice xa a.rules[k].args.length xcp, .int .i64 a.rules[k].to]) (by omega) hsn) ?_
    refine KQ_own _ (List.Sublist.cons_cons _ (List.Sublist.cons _ (List.Sublist.refl _))) ?_
    refine KQ_perm _ ((List.perm_append_comm_assoc [_] [_, _, _, _, _] _).trans ((perm_set (rowsF_get hsn)).append_left _)) ?_
    refine Q_block ?_
    refine Q_then ?_
    refine K_region ?_
    refine KV (R_add rfl rfl (by omega)) rfl ?_
    refine KV (R_move rfl) rfl ?_
    refine K_nil ?_
    refine Q_next (k + 1, V, upd1 f a.rules[k].sym.toNat (.slice a38 ((f a.rules[k].sym.toNat).2.1 + 1) k38, (f a.rules[k].sym.toNat).2.1 + 1, (f a.rules[k].sym.toNat).2.2 ++ [.int .i64 a.rules[k].sym, .slice xa a.rules[k].args.length xcp, .int .i64 a.rules[k].to])) ⟨hk', hV, ?_⟩ (by dsimp only; omega) ⟨rfl, rfl, rfl, rfl, rfl, trivial⟩ (by dsimp only; rw [← rowsF_set hsn]; rfl) rfl
    intro s hs
    dsimp only
    obtain ⟨hf1, hf2, hf3⟩ := hf s hs
    rw [filter_take_succ hk']
    by_cases e : s = a.rules[k].sym.toNat
    · subst e
      have e2 : a.rules[k].sym = ((a.rules[k].sym.toNat : Nat) : Int) := by omega
      simp only [upd1, if_true]
      rw [if_pos e2]
      exact ⟨⟨a38, k38, rfl⟩, by rw [hf2, List.length_append]; rfl, hf3.snoc ⟨xa, xcp, rfl, hsr, hsym, hto, hal⟩ rfl⟩
    · have e2 : ¬ a.rules[k].sym = (s : Int) := by omega
      simp only [upd1, e, if_false]
      rw [if_neg e2, List.append_nil]
      exact ⟨hf1, hf2, hf3⟩
  ·
    have hk' : k = a.rules.length := by omega
    subst hk'
    refine K_exit ?_
    refine Q_then_exit ?_
    refine Q_then_exit ?_
    refine Q_block_exit ?_
    refine Q_then ?_
    refine K_seq ?_
    refine K_region ?_
    refine KV (R_move rfl) rfl ?_
    refine KV (R_assign rfl) rfl ?_
    refine K_nil ?_
    refine KQ_pubrows (hl := [_, _, _, _, _]) rfl fun W1 hw1 hrows => ?_
    refine KQ_pubnew (by simp [feet]) fun W2 hw2 hb10 => ?_
    refine KQ_nilrow T98 16 ?_
    refine Q_then ?_
    refine K_ret ?_
    refine results_sel [1, 2, 0, 1] rfl (rs := [.tmp 2]) (vs := [_]) rfl ⟨rfl, trivial⟩ ?_
    refine ⟨b14, b11, b12, slc a.ranks.length b10, rfl, ⟨b10, 0, a.ranks.length, rfl, fun s hs => ?_⟩, nilS, .inl ⟨rfl, rfl⟩, rfl⟩
    obtain ⟨⟨ad, cp, hf1⟩, hf2, hf3⟩ := hf s hs
    rw [List.take_length] at hf2 hf3
    have hsl := ((hrows s hs).sl).mono hw2
    have hro : rulesOf a s = a.rules.filter (fun r => decide (r.sym = (s : Int))) := rfl
    rw [← hro] at hf2 hf3
    rw [hf1, hf2] at hsl
    refine ⟨ad, cp, (f s).2.2, ?_, hsl, RepR.imp3 (hw1.trans hw2) hf3⟩
    have hone := (At.of hb10).one (j := s) (v := (f s).1) (by simp [headsF, hs])
    rw [hf1, hf2] at hone
    simpa using hone

theorem cons_spec (a : Au) (most : Int) (vr vu vf : Value) (H : View) (ha : RepAu H a vr vu vf) : SatO Tryz.prog F42 #[.agg #[vr, .int .i64 a.states, vu, vf], .int .i64 most] H []
    (fun v H' q => ∃ pv, v = .tuple #[pv, .int .i64 (consM a most).1] ∧ match (consM a most).2 with
      | none => pv = .pointer none
      | some st => ∃ B m1 m2 vrules, pv = ptr B ∧ AuOk a ∧ st.Inv (limM most) ∧ RepBy H' a vrules ∧ BE T95 T98 B m1 m2 a vr vu vf vrules st q) := by
  refine enterO (n := 23) (args := [.agg #[vr, .int .i64 a.states, vu, vf], .int .i64 most]) Tryz.func47 rfl rfl rfl fun w0 => ?_
  refine K_seq ?_
  refine K_region ?_
  refine KA (A_box rfl) rfl fun b2 => ?_
  refine KV (R_assign rfl) rfl ?_
  refine KV (R_assign rfl) rfl ?_
  refine K_nil ?_
  refine Q_then ?_
  refine K_seq ?_
  refine K_seq ?_
  refine K_region ?_
  refine KV (R_loadO ty50 0 rfl rfl rfl rfl (fun e => by cases e) rfl) rfl ?_
  refine K_call c77 rfl rfl (ncheck_spec a vr vu vf H ha) ?_
  rintro _ V1 hle1 rfl
  refine KV (R_assign rfl) rfl ?_
  refine K_nil ?_
  refine Q_then ?_
  refine K_seq ?_
  refine K_region ?_
  refine KV (R_move rfl) rfl ?_
  refine KV (R_cmp rfl rfl rfl) rfl ?_
  refine K_nil ?_
  refine Q_then ?_
  refine K_if rfl (fun h11 => ?_) (fun h11 => ?_)
  ·
    refine K_seq ?_
    refine K_region ?_
    refine KV (R_move rfl) rfl ?_
    refine KV (R_assign rfl) rfl ?_
    refine KV (R_assign rfl) rfl ?_
    refine K_nil ?_
    refine Q_then ?_
    refine K_ret ?_
    refine Q_then_ret ?_
    refine results_gen (rs := [.tmp 4, .tmp 5]) (vs := [_, _]) rfl ⟨rfl, ⟨rfl, trivial⟩⟩ ?_
    have hcm : consM a most = (auErr a, none) := by
      unfold consM
      rw [if_pos h11]
    rw [hcm]
    exact ⟨_, rfl, rfl⟩
  ·
    refine K_skip ?_
    refine Q_then ?_
    refine K_seq ?_
    refine K_seq ?_
    refine K_region ?_
    refine KV (R_move rfl) rfl ?_
    refine KV (R_cmp rfl rfl rfl) rfl ?_
    refine K_nil ?_
    refine Q_then ?_
    refine K_if rfl (fun h14 => ?_) (fun h14 => ?_)
    ·
      refine K_seq ?_
      refine K_region ?_
      refine KV (R_assign rfl) rfl ?_
      refine KV (R_assign rfl) rfl ?_
      refine K_nil ?_
      refine Q_then ?_
      refine K_ret ?_
      refine Q_then_ret ?_
      refine results_gen (rs := [.tmp 4, .tmp 5]) (vs := [_, _]) rfl ⟨rfl, ⟨rfl, trivial⟩⟩ ?_
      have hcm : consM a most = (2, none) := by
        unfold consM
        rw [if_neg h11, if_pos h14]
      rw [hcm]
      exact ⟨_, rfl, rfl⟩
    ·
      refine K_skip ?_
      refine Q_then ?_
      refine K_seq ?_
      refine K_region ?_
      refine KV (R_loadO ty50 0 rfl rfl rfl rfl (fun e => by cases e) rfl) rfl ?_
      have haok : AuOk a := AuOk.of (Decidable.not_not.1 h11)
      refine K_callO (first := []) [] [_] (List.Perm.refl _) c78 rfl rfl rfl (newb_spec a haok vr vu vf V1 (ha.mono hle1)) ?_
      rintro _ V2 q hle2 ⟨B, m1, m2, vrules, rfl, hby, hbe⟩
      refine KV (R_assign rfl) rfl ?_
      refine K_nil ?_
      refine Q_then ?_
      refine K_seq ?_
      refine K_seq ?_
      refine K_region ?_
      refine KV (R_move rfl) rfl ?_
      refine KV (R_move rfl) rfl ?_
      refine KV (R_min2 rfl rfl) rfl ?_
      refine K_callO (first := []) q [_] (List.Perm.refl _) c79 rfl rfl rfl (build_spec a haok (limM most) B m1 m2 vr vu vf vrules V2 ((ha.mono (hle1.trans hle2)).r) hby (by simp only [limM]; split <;> omega) ⟨[], []⟩ q 513 hbe (DS.Inv.nil (by simp only [limM]; split <;> omega)) (by simp only [limM, List.length_nil]; split <;> omega)) ?_
      rintro _ V3 q3 hle3 ⟨r, rfl, hr1, hr2⟩
      refine KV (R_not rfl) rfl ?_
      refine K_nil ?_
      refine Q_then ?_
      cases r with
      | false =>
        have hb := hr2 rfl
        have hcm : consM a most = (8, none) := by
          unfold consM
          rw [if_neg h11, if_neg h14, hb]
        refine K_ifT rfl ?_
        refine K_seq ?_
        refine K_region ?_
        refine KV (R_assign rfl) rfl ?_
        refine KV (R_assign rfl) rfl ?_
        refine K_nil ?_
        refine Q_then ?_
        refine K_ret ?_
        refine Q_then_ret ?_
        refine results_gen (rs := [.tmp 4, .tmp 5]) (vs := [_, _]) rfl ⟨rfl, ⟨rfl, trivial⟩⟩ ?_
        rw [hcm]
        exact ⟨_, rfl, rfl⟩
      | true =>
        obtain ⟨st, hb, hinv, hbe2⟩ := hr1 rfl
        have hcm : consM a most = (0, some st) := by
          unfold consM
          rw [if_neg h11, if_neg h14, hb]
        refine K_ifF rfl ?_
        refine K_skip ?_
        refine Q_then ?_
        refine K_seq ?_
        refine K_region ?_
        refine KV (R_move rfl) rfl ?_
        refine KV (R_assign rfl) rfl ?_
        refine KV (R_assign rfl) rfl ?_
        refine K_nil ?_
        refine Q_then ?_
        refine K_ret ?_
        refine KQ_own _ (List.sublist_append_left _ _) ?_
        refine results_gen (rs := [.tmp 4, .tmp 5]) (vs := [_, _]) rfl ⟨rfl, ⟨rfl, trivial⟩⟩ ?_
        rw [hcm]
        exact ⟨_, rfl, B, m1, m2, vrules, rfl, haok, hinv, hby.mono hle3, hbe2⟩
end Go.Proofs.X
