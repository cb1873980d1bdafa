/-
  A family of owned rows whose heads stand in one block. Own work. No statement of the seat is proved here.
-/
import Derived.Test.YtdclodapkhgabaaGreatDoorPalN
namespace Pal
open Go
abbrev Fam := Nat → Value × Nat × List Value
def rowsF (e : TypeId) (sz : Nat) (f : Fam) (n : Nat) : HL := (List.range n).map fun s => row (f s).1 e sz (f s).2.1 (f s).2.2
def upd1 (f : Fam) (s : Nat) (x : Value × Nat × List Value) : Fam := fun t => if t = s then x else f t
theorem rowsF_get {e : TypeId} {sz : Nat} {f : Fam} {n s : Nat} (h : s < n) : (rowsF e sz f n)[s]? = some (row (f s).1 e sz (f s).2.1 (f s).2.2) := by
  simp [rowsF, h]
theorem rowsF_set {e : TypeId} {sz : Nat} {f : Fam} {n s : Nat} (h : s < n) (x : Value × Nat × List Value) : (rowsF e sz f n).set s (row x.1 e sz x.2.1 x.2.2) = rowsF e sz (upd1 f s x) n := by
  apply List.ext_getElem?
  intro i
  rw [List.getElem?_set]
  by_cases hi : i < n
  · rw [rowsF_get hi]
    by_cases e : s = i
    · subst e; simp [rowsF, h, upd1]
    · rw [if_neg e, rowsF_get hi]
      have : ¬ i = s := fun h => e h.symm
      simp [upd1, this]
  · have h1 : (rowsF e sz (upd1 f s x) n)[i]? = none := by simp [rowsF, hi]
    have h2 : (rowsF e sz f n)[i]? = none := by simp [rowsF, hi]
    rw [h1]
    have e : ¬ s = i := by omega
    rw [if_neg e, h2]
def headsF (f : Fam) (n : Nat) : Array Value := ((List.range n).map fun s => (f s).1).toArray
theorem headsF_size (f : Fam) (n : Nat) : (headsF f n).size = n := by simp [headsF]
theorem headsF_get {f : Fam} {n s off : Nat} (ho : off = s) (h : s < n) : (headsF f n)[off]? = some (f s).1 := by
  subst ho; simp [headsF, h]
theorem headsF_put {f : Fam} {n s off : Nat} {a : Option Addr} {k cap m : Nat} {cs : List Value} (ho : off = s) (h : s < n) :
    putCells (headsF f n) off (Value.slice a k cap).cells.toList = headsF (upd1 f s (.slice a k cap, m, cs)) n := by
  subst ho
  show (putL (headsF f n).toList off [Value.slice a k cap]).toArray = _
  unfold headsF putL
  congr 1
  apply List.ext_getElem?
  intro i
  rcases Nat.lt_trichotomy i off with hi | hi | hi
  · have h1 : i < n := by omega
    have h2 : ¬ i = off := by omega
    rw [List.append_assoc, List.getElem?_append_left (by simp; omega), List.getElem?_take_of_lt hi]
    simp [h1, upd1, h2]
  · subst hi
    rw [List.append_assoc, List.getElem?_append_right (by rw [List.length_take]; exact Nat.min_le_left _ _)]
    simp [h, upd1, Nat.min_eq_left (Nat.le_of_lt h)]
  · rw [List.getElem?_append_right (by simp; omega), List.getElem?_drop]
    have h2 : ¬ i = off := by omega
    simp only [List.length_append, List.length_take, List.length_map, List.length_range, List.length_cons, List.length_nil]
    rw [show off + (0 + 1) + (i - (min off n + (0 + 1))) = i by omega]
    by_cases h1 : i < n
    · simp [h1, upd1, h2]
    · simp [h1]
def nilF : Fam := fun _ => (nilS, 0, [])
section rules
variable {P : Program} {n : Nat} {c : Cx} {Q : Exit → Act → World → Prop} {l : KL} {hl : HL} {H : View}
variable {ops : Array Oper} {rest : List Oper} {d : Nat} {v : Value} {op : Op} {ty : TypeId} {pos : String} {aft : Array Edge}
theorem KQ_perm {x : Exit} (hl' : HL) (hp : hl.Perm hl') (h : KQ n c Q x l hl' H) : KQ n c Q x l hl H := fun ρ w hm ho => h ρ w hm (ho.perm hp)
theorem Ok.nilrows {w : World} (e : TypeId) (sz : Nat) (ho : Ok c w H hl) : ∀ m, Ok c w H (hl ++ rowsF e sz nilF m)
  | 0 => by simpa [rowsF] using ho
  | m + 1 => by
    have h1 := (Ok.nilrows e sz ho m).nilrow e sz
    refine h1.perm ?_
    have : rowsF e sz nilF (m + 1) = rowsF e sz nilF m ++ [row nilS e sz 0 []] := by
      unfold rowsF
      rw [List.range_succ, List.map_append]; rfl
    rw [this, ← List.append_assoc]
    exact (List.perm_append_comm (l₁ := [row nilS e sz 0 []]))
theorem KQ_nilrows {x : Exit} (e : TypeId) (sz m : Nat) (h : KQ n c Q x l (hl ++ rowsF e sz nilF m) H) : KQ n c Q x l hl H := fun ρ w hm ho => h ρ w hm (ho.nilrows e sz m)
theorem Ok.pubrows {w : World} {e : TypeId} {sz : Nat} {f : Fam} (hc : c.pass = []) : ∀ {m : Nat} {H : View}, Ok c w H (hl ++ rowsF e sz f m) → ∃ H', VLe H H' ∧ (∀ s, s < m → rowAt H' (f s).1 (f s).2.1 (f s).2.2) ∧ Ok c w H' hl
  | 0, H, ho => ⟨H, VLe.refl H, fun s hs => absurd hs (Nat.not_lt_zero _), by simpa [rowsF] using ho⟩
  | m + 1, H, ho => by
    have e1 : rowsF e sz f (m + 1) = rowsF e sz f m ++ [row (f m).1 e sz (f m).2.1 (f m).2.2] := by
      unfold rowsF
      rw [List.range_succ, List.map_append]; rfl
    rw [e1, ← List.append_assoc] at ho
    have ho2 := ho.perm (List.perm_append_comm (l₂ := [row (f m).1 e sz (f m).2.1 (f m).2.2]))
    obtain ⟨H1, h1, h2, h3⟩ := Ok.pubrow ho2 (by rw [hc]; simp)
    obtain ⟨H2, h4, h5, h6⟩ := Ok.pubrows hc h3
    refine ⟨H2, h1.trans h4, fun s hs => ?_, h6⟩
    by_cases e0 : s = m
    · subst e0
      rcases h2 with ⟨g1, g2, g3⟩ | ⟨g, cap, g1, g2⟩
      · exact .inl ⟨g1, g2, g3⟩
      · exact .inr ⟨g, cap, g1, g2.mono h4⟩
    · exact h5 s (by omega)
theorem KQ_pubrows {x : Exit} {e : TypeId} {sz : Nat} {f : Fam} {m : Nat} (hc : c.pass = []) (h : ∀ H', VLe H H' → (∀ s, s < m → rowAt H' (f s).1 (f s).2.1 (f s).2.2) → KQ n c Q x l hl H') : KQ n c Q x l (hl ++ rowsF e sz f m) H := by
  intro ρ w hm ho
  obtain ⟨H', h1, h2, h3⟩ := Ok.pubrows hc ho
  exact h H' h1 h2 ρ w hm h3
theorem KC_own {code : Code} (hl' : HL) (hp : List.Sublist hl' hl) (h : KC P n c code Q l hl' H) : KC P n c code Q l hl H := fun ρ w hm ho => h ρ w hm (ho.sublist hp)
theorem KC_pubnew {code : Code} {b : Nat} {o : Obj} (hnew : b ∉ c.pass) (h : ∀ H', VLe H H' → H' b = some o → KC P n c code Q l hl H') : KC P n c code Q l (blk b o :: hl) H := by
  intro ρ w hm ho
  have h2 := ho.publish hnew
  have hle : VLe H (vadd H b o) := by
    intro k o' hk
    by_cases e : k = b
    · subst e
      have := (ho.foot k (by simp [feet, blk])).1
      rw [this] at hk; cases hk
    · simp [vadd, e, hk]
  exact h _ hle (vadd_self _ _ _) ρ w hm h2
theorem KO_pubnew {b : Nat} {o : Obj} (hnew : b ∉ c.pass) (h : ∀ H', VLe H H' → H' b = some o → KO P n c ops Q rest l hl H') : KO P n c ops Q rest l (blk b o :: hl) H := by
  intro ρ w hm ho
  have h2 := ho.publish hnew
  have hle : VLe H (vadd H b o) := by
    intro k o' hk
    by_cases e : k = b
    · subst e
      have := (ho.foot k (by simp [feet, blk])).1
      rw [this] at hk; cases hk
    · simp [vadd, e, hk]
  exact h _ hle (vadd_self _ _ _) ρ w hm h2
theorem KQ_nilrow {x : Exit} (e : TypeId) (sz : Nat) (h : KQ n c Q x l (row nilS e sz 0 [] :: hl) H) : KQ n c Q x l hl H := fun ρ w hm ho => h ρ w hm (ho.nilrow e sz)
variable {ol : List Oper} {keep : HL} {fin : Bool} {T : ST} {R : List Nat} {i : Nat} {g : Option (Nat × Bool)}
theorem E_ofAlloc {mk : Nat → Value} {o : Obj} (h : AllocOk P l op ty mk o) : Eff P l H [] op ty fun v H' q => ∃ b, v = mk b ∧ H' = H ∧ q = [blk b o] := by
  intro e w hk ho
  rw [h e w hk]
  exact ⟨H, _, ok_alloc o ho.has, _, rfl, rfl, rfl⟩
theorem D_makeSlice {mk : Nat → Value} {o : Obj} (hi : nthO ol i = some ⟨some d, op, ty, pos, aft, g⟩) (hw : wlO ol l g = some true) (hc : Nat.beq (cls op) 1 = true) (_hkp : memAll keep hl) (hv : AllocOk P l op ty mk o)
    (h : ∀ b, KD P n ol.toArray keep fin T R ((d, mk b) :: l) (blk b o :: hl) H) : KD P n ol.toArray keep fin T (i :: R) l hl H :=
  D_alloc hi hw hc hv h
end rules
theorem madeNil (n : Nat) : madeCells #[nilS] (n * 1) = headsF nilF n := by
  unfold madeCells headsF nilF
  apply Array.ext'
  simp
  intro a _
  simp [Nat.mod_one]
theorem filter_take_succ {a : Au} {k s : Nat} (hk : k < a.rules.length) : (a.rules.take (k + 1)).filter (fun r => decide (r.sym = (s : Int))) = (a.rules.take k).filter (fun r => decide (r.sym = (s : Int))) ++ (if a.rules[k].sym = (s : Int) then [a.rules[k]] else []) := by
  rw [List.take_succ_eq_append_getElem hk, List.filter_append]
  by_cases h : a.rules[k].sym = (s : Int) <;> simp [h]
/-! ### construct -/
def limM (most : Int) : Int := if 512 < most then 512 else most
def consM (a : Au) (most : Int) : Int × Option DS :=
  if auErr a ≠ 0 then (auErr a, none) else if most < 1 then (2, none) else
    match buildM a (limM most) 513 ⟨[], []⟩ with
    | none => (8, none)
    | some st => (0, some st)
theorem DS.Inv.nil {limit : Int} (h : 0 ≤ limit) : DS.Inv limit ⟨[], []⟩ := ⟨.nil, by simp, .nil, by simp, by simp, h⟩
/-- A slice of slices of ints. -/
def RSI (H : View) (xs : List Int) (cs : List Value) : Prop := ∃ w, cs = [w] ∧ SI H w xs
def SSI (H : View) (v : Value) (xss : List (List Int)) : Prop := ∃ cells, SlAt H v xss.length cells ∧ RepL (RSI H) 1 xss cells
theorem RSI.mono {H H' : View} {xs : List Int} {cs : List Value} (h : RSI H xs cs) (hle : VLe H H') : RSI H' xs cs := by
  obtain ⟨w, h1, h2⟩ := h
  exact ⟨w, h1, h2.mono hle⟩
theorem SSI.mono {H H' : View} {v : Value} {xss : List (List Int)} (h : SSI H v xss) (hle : VLe H H') : SSI H' v xss := by
  obtain ⟨cells, h1, h2⟩ := h
  exact ⟨cells, h1.mono hle, h2.imp fun _ _ hx => hx.mono hle⟩
theorem SSI.nil (H : View) (a : Option Addr) (cp : Nat) : SSI H (.slice a 0 cp) [] := ⟨[], ⟨a, cp, rfl, .inl ⟨rfl, rfl⟩⟩, .nil⟩
theorem SSI.get {H : View} {a : Option Addr} {k cap : Nat} {xss : List (List Int)} (h : SSI H (.slice a k cap) xss) {i : Nat} (hi : i < xss.length) : ∃ b off xa xcp, a = some ⟨b, off, none⟩ ∧ At H b (off + i * 1) [.slice xa xss[i].length xcp] ∧ SI H (.slice xa xss[i].length xcp) xss[i] := by
  obtain ⟨cells, h1, h2⟩ := h
  obtain ⟨a', c', h3, _⟩ := id h1
  cases h3
  obtain ⟨b, off, cs, rfl, _, ⟨w, rfl, h5⟩, h6⟩ := SlAt.elem h1 h2 hi rfl
  obtain ⟨xa, xcp, rfl⟩ := h5.shape
  exact ⟨b, off, xa, xcp, rfl, h6, h5⟩
theorem SSI.shape {H : View} {v : Value} {xss : List (List Int)} (h : SSI H v xss) : ∃ a cap, v = .slice a xss.length cap := by
  obtain ⟨cells, ⟨a, c, rfl, _⟩, _⟩ := h
  exact ⟨a, c, rfl⟩
theorem take_map_succ {α β : Type} {f : α → β} {l : List α} {k : Nat} (h : k < l.length) : (l.take (k + 1)).map f = (l.take k).map f ++ [f l[k]] := by
  rw [List.take_succ_eq_append_getElem h, List.map_append]; rfl
theorem consM_cases (a : Au) (most : Int) : ((consM a most).1 ≠ 0 ∧ (consM a most).2 = none) ∨ ((consM a most).1 = 0 ∧ ∃ st, (consM a most).2 = some st) := by
  unfold consM
  split
  · rename_i h; exact .inl ⟨h, rfl⟩
  · split
    · exact .inl ⟨by decide, rfl⟩
    · split
      · exact .inl ⟨by decide, rfl⟩
      · rename_i st _; exact .inr ⟨rfl, st, rfl⟩
theorem consM_ne {a : Au} {most : Int} (h : (consM a most).1 ≠ 0) : (consM a most).2 = none := by
  rcases consM_cases a most with h1 | h1
  · exact h1.2
  · exact absurd h1.1 h
theorem consM_eq {a : Au} {most : Int} (h : (consM a most).1 = 0) : ∃ st, (consM a most).2 = some st := by
  rcases consM_cases a most with h1 | h1
  · exact absurd h h1.1
  · exact h1.2
/-! ### Deterministic automata -/
structure Dt where
  ranks : List Int
  acc : List Bool
  to : List (List Int)
def bools (xs : List Bool) : List Value := xs.map .bool
def SB (H : View) (v : Value) (xs : List Bool) : Prop := SlAt H v xs.length (bools xs)
structure RepDt (H : View) (d : Dt) (vr va vt : Value) : Prop where
  r : SI H vr d.ranks
  a : SB H va d.acc
  t : SSI H vt d.to
theorem RepDt.mono {H H' : View} {d : Dt} {vr va vt : Value} (h : RepDt H d vr va vt) (hle : VLe H H') : RepDt H' d vr va vt := ⟨h.r.mono hle, SlAt.mono h.a hle, h.t.mono hle⟩
def accM (a : Au) (st : DS) : List Bool := st.subs.map fun s => !decide (s &&& ofL a.final = 0)
def valM (st : DS) (sym : Int) (xs : List Int) : Int := (lookM st.res (keyM sym xs)).getD 0
def toM (a : Au) (st : DS) (s : Nat) : List Int := (ext st.subs.length (a.ranks.getD s 0).toNat []).map (valM st s)
def fromM (a : Au) (st : DS) : Dt := ⟨a.ranks, accM a st, (List.range a.ranks.length).map (toM a st)⟩
theorem valM_ok {st : DS} {limit : Int} (h : st.Inv limit) (hl : limit ≤ 1048576) (sym : Int) (xs : List Int) : i64ok (valM st sym xs) := by
  unfold valM
  cases hk : lookM st.res (keyM sym xs) with
  | none => simp [i64ok]
  | some n =>
    have := lookM_some h.rn hk
    obtain ⟨⟨p, hp, hpk⟩, h2⟩ := this
    have h3 := h.rv p hp
    rw [h2 p hp hpk] at h3
    have h4 := h.le
    simp only [Option.getD_some, i64ok]
    omega
theorem ints_snoc (xs : List Int) (x : Int) : ints (xs ++ [x]) = ints xs ++ [.int .i64 x] := by simp [ints]
theorem ext_len {k : Nat} : ∀ {m : Nat} {ys : List Int}, (ext k m ys).length = k ^ m
  | 0, ys => by simp [ext]
  | m + 1, ys => by
    simp only [ext, List.length_flatMap, ext_len]
    rw [List.map_const', List.sum_replicate_nat, List.length_range, Nat.pow_succ, Nat.mul_comm]
theorem pow_le2 {k n : Nat} (hk : k ≤ 512) (hn : n ≤ 2) : k ^ n ≤ 262144 := by
  match n, hn with
  | 0, _ => simp
  | 1, _ => rw [Nat.pow_one]; omega
  | 2, _ => calc k ^ 2 ≤ 512 ^ 2 := Nat.pow_le_pow_left hk 2
      _ = 262144 := by decide
theorem bools_snoc (xs : List Bool) (x : Bool) : bools (xs ++ [x]) = bools xs ++ [.bool x] := by simp [bools]
theorem accM_take (a : Au) (st : DS) (k : Nat) (hk : k < st.subs.length) : (accM a st).take (k + 1) = (accM a st).take k ++ [!decide (st.subs[k] &&& ofL a.final = 0)] := by
  have h : k < (accM a st).length := by simpa [accM] using hk
  rw [List.take_succ_eq_append_getElem h]
  simp [accM]
theorem range_map_succ {α : Type} (f : Nat → α) (k : Nat) : (List.range (k + 1)).map f = (List.range k).map f ++ [f k] := by
  rw [List.range_succ, List.map_append]; rfl
/-! ### Lists in their order -/
def cmpL : List Int → List Int → Int
  | [], [] => 0
  | [], _ :: _ => -1
  | _ :: _, [] => 1
  | x :: xs, y :: ys => if x < y then -1 else if y < x then 1 else cmpL xs ys
theorem cmpL_self : ∀ xs : List Int, cmpL xs xs = 0
  | [] => rfl
  | x :: xs => by simp [cmpL, cmpL_self xs]
theorem cmpL_eq : ∀ {xs ys : List Int}, cmpL xs ys = 0 ↔ xs = ys
  | [], [] => by simp [cmpL]
  | [], _ :: _ => by simp [cmpL]
  | _ :: _, [] => by simp [cmpL]
  | x :: xs, y :: ys => by
    simp only [cmpL, List.cons.injEq]
    by_cases h1 : x < y
    · rw [if_pos h1]; constructor
      · intro h; cases h
      · rintro ⟨rfl, _⟩; omega
    · rw [if_neg h1]
      by_cases h2 : y < x
      · rw [if_pos h2]; constructor
        · intro h; cases h
        · rintro ⟨rfl, _⟩; omega
      · rw [if_neg h2, cmpL_eq]
        constructor
        · intro h; exact ⟨by omega, h⟩
        · exact fun h => h.2
theorem cmpL_end {xs ys : List Int} {k : Nat} (h1 : k ≤ xs.length) (h2 : k ≤ ys.length) (h : k = xs.length ∨ k = ys.length) : cmpL (xs.drop k) (ys.drop k) = if xs.length < ys.length then -1 else if ys.length < xs.length then 1 else 0 := by
  rcases h with h | h
  · subst h
    rw [List.drop_length]
    by_cases h3 : xs.length < ys.length
    · rw [if_pos h3, List.drop_eq_getElem_cons h3]; rfl
    · have h4 : ys.length ≤ xs.length := by omega
      rw [if_neg h3, if_neg (by omega), List.drop_eq_nil_of_le h4]; rfl
  · subst h
    rw [List.drop_length]
    by_cases h3 : ys.length < xs.length
    · rw [if_neg (by omega), if_pos h3, List.drop_eq_getElem_cons h3]; rfl
    · have h4 : xs.length ≤ ys.length := by omega
      rw [if_neg (by omega), if_neg h3, List.drop_eq_nil_of_le h4]; rfl
theorem SB.get {H : View} {a : Option Addr} {k cap : Nat} {xs : List Bool} (h : SB H (.slice a k cap) xs) {i : Nat} (hi : i < xs.length) : ∃ b off, a = some ⟨b, off, none⟩ ∧ At H b (off + i * 1) [.bool xs[i]] := by
  obtain ⟨a', c', h1, h2⟩ := h
  cases h1
  rcases h2 with ⟨h2, _⟩ | ⟨b, off, rfl, h2⟩
  · omega
  · have := h2.one (j := i) (v := .bool xs[i]) (by simp [bools, hi])
    exact ⟨b, off, rfl, by simpa using this⟩
/-! ### The document's example -/
def knownA : Au := ⟨[0, 2], 2, [⟨0, [], 0⟩, ⟨0, [], 1⟩, ⟨1, [0, 1], 1⟩], [1]⟩
theorem known_cons : ∃ st, consM knownA 9 = (0, some st) ∧ st.subs.map els = [[0, 1], [1], []] ∧ accM knownA st = [true, true, false] := by
  refine ⟨⟨[3, 2, 0], [((0, 0, 0), 0), ((1, 0, 0), 1), ((1, 0, 1), 1), ((1, 1, 0), 2), ((1, 1, 1), 2), ((1, 0, 2), 2), ((1, 1, 2), 2), ((1, 2, 0), 2), ((1, 2, 1), 2), ((1, 2, 2), 2)]⟩, ?_, ?_, ?_⟩
  · kernel_rfl
  · decide +kernel
  · decide +kernel
end Pal
