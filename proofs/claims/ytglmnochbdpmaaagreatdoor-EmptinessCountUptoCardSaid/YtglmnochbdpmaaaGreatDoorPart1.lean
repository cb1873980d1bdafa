/-
  Part of the proof: rules for walks, contracts of the functions that the statements reach, plain laws. Own work. No statement of the seat is proved here.
-/
import Derived.Test.YtglmnochbdpmaaaGreatDoorPalC
import Derived.Test.YtglmnochbdpmaaaGreatDoorPalG
import Derived.RangeFuncRecord
import Derived.RangeFuncIn
import Derived.AtR
import Derived.DeepKeys4
import Derived.ChangeKeysEq
import Derived.WalkSpells
import Derived.Laws.MakeOwn
import Derived.Laws.BitsAllLaws
import Derived.Maps.RangeRun
import Derived.Shelf.SlSortCmp.NoneTotal
import Derived.Shelf.SlicesE.Compact
import Derived.Scope
import Derived.Shelf.SortG.Plain
import Derived.Shelf.SortG.SortNone
/-
  Trees asx data, and how they lie in a view. Own work.
-/
namespace Pal
open Go

inductive Tr where
  | node (sym : Int) (l : List Tr)

mutual
def Tr.size : Tr → Nat
  | .node _ ts => 1 + Tr.sizes ts
def Tr.sizes : List Tr → Nat
  | [] => 0
  | t :: r => Tr.size t + Tr.sizes r
end
mutual
def Tr.deep : Tr → Nat
  | .node _ ts => Tr.deeps ts + 1
def Tr.deeps : List Tr → Nat
  | [] => 0
  | t :: r => max (Tr.deep t) (Tr.deeps r)
end
theorem Tr.sizes_append (a b : List Tr) : Tr.sizes (a ++ b) = Tr.sizes a + Tr.sizes b := by
  induction a with
  | nil => simp [Tr.sizes]
  | cons x r ih => simp only [List.cons_append, Tr.sizes, ih]; omega
theorem Tr.sizes_take (ts : List Tr) (k : Nat) (h : k < ts.length) : Tr.sizes (ts.take (k + 1)) = Tr.sizes (ts.take k) + ts[k].size := by
  rw [List.take_succ_eq_append_getElem h, Tr.sizes_append]; simp [Tr.sizes]
theorem Tr.sizes_take_le (ts : List Tr) (k : Nat) : Tr.sizes (ts.take k) ≤ Tr.sizes ts := by
  have := Tr.sizes_append (ts.take k) (ts.drop k)
  rw [List.take_append_drop] at this
  omega
theorem Tr.length_le_sizes (ts : List Tr) : ts.length ≤ Tr.sizes ts := by
  induction ts with
  | nil => simp
  | cons t r ih =>
    have : 1 ≤ t.size := by cases t; simp only [Tr.size]; omega
    simp only [List.length_cons, Tr.sizes]; omega
theorem Tr.size_pos (t : Tr) : 1 ≤ t.size := by cases t; simp only [Tr.size]; omega

theorem Tr.deeps_append (a b : List Tr) : Tr.deeps (a ++ b) = max (Tr.deeps a) (Tr.deeps b) := by
  induction a with
  | nil => simp [Tr.deeps]
  | cons x r ih => simp only [List.cons_append, Tr.deeps, ih]; omega
theorem Tr.deeps_take (ts : List Tr) (k : Nat) (h : k < ts.length) : Tr.deeps (ts.take (k + 1)) = max (Tr.deeps (ts.take k)) ts[k].deep := by
  rw [List.take_succ_eq_append_getElem h, Tr.deeps_append]; simp [Tr.deeps]
mutual
theorem Tr.deep_le : ∀ t : Tr, t.deep ≤ t.size
  | .node s ts => by have := Tr.deeps_le ts; simp only [Tr.deep, Tr.size]; omega
theorem Tr.deeps_le : ∀ ts : List Tr, Tr.deeps ts ≤ Tr.sizes ts
  | [] => by simp [Tr.deeps, Tr.sizes]
  | t :: r => by have := Tr.deep_le t; have := Tr.deeps_le r; simp only [Tr.deeps, Tr.sizes]; omega
end
mutual
def Tr.relabel (to : List Int) : Tr → Option Tr
  | .node s ts => if 0 ≤ s ∧ s < to.length then (Tr.relabels to ts).map (.node (to.getD s.toNat 0)) else none
def Tr.relabels (to : List Int) : List Tr → Option (List Tr)
  | [] => some []
  | t :: r => match Tr.relabel to t with
    | none => none
    | some u => (Tr.relabels to r).map (u :: ·)
end
def cmpI (a b : Int) : Int := if a < b then -1 else if b < a then 1 else 0
theorem cmpI_self (a : Int) : cmpI a a = 0 := by simp [cmpI]
mutual
def Tr.cmp : Tr → Tr → Int
  | .node s ts, t => match t with
    | .node u us =>
      if cmpI (Tr.node s ts).size (Tr.node u us).size ≠ 0 then cmpI (Tr.node s ts).size (Tr.node u us).size
      else if cmpI s u ≠ 0 then cmpI s u
      else if cmpI ts.length us.length ≠ 0 then cmpI ts.length us.length
      else Tr.cmps ts us
def Tr.cmps : List Tr → List Tr → Int
  | [], _ => 0
  | _ :: _, [] => 0
  | s :: r, t :: q => if Tr.cmp s t ≠ 0 then Tr.cmp s t else Tr.cmps r q
end
mutual
theorem Tr.cmp_self : ∀ t : Tr, Tr.cmp t t = 0
  | .node s ts => by have := Tr.cmps_self ts; simp [Tr.cmp, cmpI_self, this]
theorem Tr.cmps_self : ∀ ts : List Tr, Tr.cmps ts ts = 0
  | [] => rfl
  | t :: r => by simp [Tr.cmps, Tr.cmp_self t, Tr.cmps_self r]
end
theorem Tr.cmps_drop {ts us : List Tr} {k : Nat} (h1 : k < ts.length) (h2 : k < us.length) :
    Tr.cmps (ts.drop k) (us.drop k) = if Tr.cmp ts[k] us[k] ≠ 0 then Tr.cmp ts[k] us[k] else Tr.cmps (ts.drop (k + 1)) (us.drop (k + 1)) := by
  rw [List.drop_eq_getElem_cons h1, List.drop_eq_getElem_cons h2]; simp [Tr.cmps]
def i64ok (x : Int) : Prop := -9223372036854775808 ≤ x ∧ x ≤ 9223372036854775807

inductive RepT (H : View) : Tr → List Value → Prop
  | mk (s : Int) (ts : List Tr) (a : Option Addr) (cap b off : Nat) (cs : Nat → List Value) (hs : i64ok s) (ha : ts ≠ [] → a = some ⟨b, off, none⟩)
    (hA : ∀ i, i < ts.length → (cs i).length = 2 ∧ At H b (off + i * 2) (cs i)) (hr : ∀ i (h : i < ts.length), RepT H ts[i] (cs i)) :
    RepT H (.node s ts) [.int .i64 s, .slice a ts.length cap]
theorem RepT.mono {H H' : View} {t : Tr} {cs : List Value} (h : RepT H t cs) (hle : VLe H H') : RepT H' t cs := by
  induction h with
  | mk s ts a cap b off cs hs ha hA _ ih => exact .mk s ts a cap b off cs hs ha (fun i hi => ⟨(hA i hi).1, (hA i hi).2.mono hle⟩) ih
end Pal

/-
  Lists, slices and trees asx they lie in a view. Own work. No statement of the seat is proved here.
-/
namespace Pal
open Go

theorem App.of {P : Program} {t e : TypeId} {sz bytes : Nat} (hs : slcOk P t e)
    (h : (match P.info? e with | some i => (match i.zero with | some z => Nat.beq i.size sz && Nat.beq i.bytes bytes && Nat.beq z.cells.size sz && Nat.blt 0 sz | none => false) | none => false) = true) : App P t e sz bytes := by
  cases hi : P.info? e with
  | none => rw [hi] at h; cases h
  | some i =>
    rw [hi] at h
    simp only [] at h
    cases hz : i.zero with
    | none => rw [hz] at h; cases h
    | some z =>
      rw [hz] at h
      simp only [Bool.and_eq_true] at h
      obtain ⟨⟨⟨h1, h2⟩, h3⟩, h4⟩ := h
      exact ⟨hs, by simpa using h4, i, z, hi, hz, Nat.eq_of_beq_eq_true h1, Nat.eq_of_beq_eq_true h3, Nat.eq_of_beq_eq_true h2⟩

section
variable {P : Program} {n : Nat} {c : Cx} {Q : Exit → Act → World → Prop} {l : KL} {hl : HL} {H : View} {ops : Array Oper} {rest : List Oper}
theorem Ok.nilrow {w : World} (e : TypeId) (sz : Nat) (ho : Ok c w H hl) : Ok c w H (row nilS e sz 0 [] :: hl) := by
  refine ⟨ho.os, ho.tape, ho.output, ho.drawn, ho.size, ho.old, ho.vold, ho.le, ho.has, ?_, ?_, ?_⟩
  · intro en hen
    rcases List.mem_cons.1 hen with rfl | hen
    · exact row_nil e sz w
    · exact ho.own en hen
  · intro b hb
    rw [feet_cons] at hb
    simp [row, nilS, rowFoot] at hb
    exact ho.foot b hb
  · rw [feet_cons]; simpa [row, nilS, rowFoot] using ho.nd
theorem K_nilrow {code : Code} (e : TypeId) (sz : Nat) (h : KC P n c code Q l (row nilS e sz 0 [] :: hl) H) : KC P n c code Q l hl H :=
  fun ρ w hm ho => h ρ w hm (ho.nilrow e sz)
end

theorem At.sub {H : View} {b off p : Nat} {cells cs : List Value} (h : At H b off cells) (hc : ∀ j v, cs[j]? = some v → cells[p + j]? = some v) : At H b (off + p) cs := by
  obtain ⟨a, T, fz, h1, h2⟩ := h
  exact ⟨a, T, fz, h1, fun j v hj => by rw [Nat.add_assoc]; exact h2 _ _ (hc j v hj)⟩

/-- The cells of a list's elements, sz each. -/
inductive RepL {α : Type} (R : α → List Value → Prop) (sz : Nat) : List α → List Value → Prop
  | nil : RepL R sz [] []
  | cons {x : α} {cs : List Value} {xs : List α} {ys : List Value} (h : R x cs) (hl : cs.length = sz) (ht : RepL R sz xs ys) : RepL R sz (x :: xs) (cs ++ ys)
theorem RepL.length {α : Type} {R : α → List Value → Prop} {sz : Nat} {xs : List α} {cells : List Value} (h : RepL R sz xs cells) : cells.length = xs.length * sz := by
  induction h with
  | nil => simp
  | cons _ hl _ ih => rw [List.length_append, hl, ih, List.length_cons, Nat.add_mul]; omega
theorem RepL.imp {α : Type} {R R' : α → List Value → Prop} {sz : Nat} {xs : List α} {cells : List Value} (hR : ∀ x cs, R x cs → R' x cs) (h : RepL R sz xs cells) : RepL R' sz xs cells := by
  induction h with
  | nil => exact .nil
  | cons h hl _ ih => exact .cons (hR _ _ h) hl ih
theorem RepL.append {α : Type} {R : α → List Value → Prop} {sz : Nat} {xs ys : List α} {a b : List Value} (h : RepL R sz xs a) (k : RepL R sz ys b) : RepL R sz (xs ++ ys) (a ++ b) := by
  induction h with
  | nil => exact k
  | cons h hl _ ih => rw [List.append_assoc]; exact .cons h hl ih
theorem RepL.one {α : Type} {R : α → List Value → Prop} {sz : Nat} {x : α} {cs : List Value} (h : R x cs) (hl : cs.length = sz) : RepL R sz [x] cs := by
  have := RepL.cons h hl (RepL.nil (R := R) (sz := sz)); simpa using this
theorem RepL.snoc {α : Type} {R : α → List Value → Prop} {sz : Nat} {xs : List α} {x : α} {a cs : List Value} (h : RepL R sz xs a) (hx : R x cs) (hl : cs.length = sz) : RepL R sz (xs ++ [x]) (a ++ cs) :=
  h.append (.one hx hl)
theorem RepL.get {α : Type} {R : α → List Value → Prop} {sz : Nat} {xs : List α} {cells : List Value} (h : RepL R sz xs cells) : ∀ {i : Nat} (hi : i < xs.length),
    ∃ cs, cs.length = sz ∧ R xs[i] cs ∧ ∀ j v, cs[j]? = some v → cells[i * sz + j]? = some v := by
  induction h with
  | nil => intro i hi; simp at hi
  | @cons x cs xs ys hx hl ht ih =>
    intro i hi
    cases i with
    | zero => exact ⟨cs, hl, hx, fun j v hj => by
        have : j < cs.length := (List.getElem?_eq_some_iff.1 hj).1
        simpa [List.getElem?_append_left this] using hj⟩
    | succ i =>
      obtain ⟨c', h1, h2, h3⟩ := ih (i := i) (by simpa using hi)
      refine ⟨c', h1, by simpa using h2, fun j v hj => ?_⟩
      rw [List.getElem?_append_right (by rw [hl, Nat.add_mul]; omega), hl, show (i + 1) * sz + j - sz = i * sz + j by rw [Nat.add_mul]; omega]
      exact h3 j v hj
/-- A slice value over a view: k elements, whose cells these are. -/
def SlAt (H : View) (v : Value) (k : Nat) (cells : List Value) : Prop :=
  ∃ a cap, v = .slice a k cap ∧ ((k = 0 ∧ cells = []) ∨ ∃ b off, a = some ⟨b, off, none⟩ ∧ At H b off cells)
theorem SlAt.mono {H H' : View} {v : Value} {k : Nat} {cells : List Value} (h : SlAt H v k cells) (hle : VLe H H') : SlAt H' v k cells := by
  obtain ⟨a, cap, h1, h2⟩ := h
  refine ⟨a, cap, h1, h2.imp id ?_⟩
  rintro ⟨b, off, h3, h4⟩
  exact ⟨b, off, h3, h4.mono hle⟩
theorem rowAt.sl {H : View} {v : Value} {k : Nat} {xs : List Value} (h : rowAt H v k xs) : SlAt H v k xs := by
  rcases h with ⟨rfl, rfl, rfl⟩ | ⟨g, cap, rfl, h⟩
  · exact ⟨none, 0, rfl, .inl ⟨rfl, rfl⟩⟩
  · exact ⟨_, cap, rfl, .inr ⟨g, 0, rfl, h⟩⟩

/-- The element at i of a slice that reads asx xs. -/
theorem SlAt.elem {α : Type} {R : α → List Value → Prop} {sz : Nat} {xs : List α} {cells : List Value} {H : View} {a : Option Addr} {k cap : Nat} (h : SlAt H (.slice a k cap) k cells) (hR : RepL R sz xs cells) {i : Nat} (hi : i < xs.length) (hk : k = xs.length) :
    ∃ b off cs, a = some ⟨b, off, none⟩ ∧ cs.length = sz ∧ R xs[i] cs ∧ At H b (off + i * sz) cs := by
  obtain ⟨a', cap', h1, h2⟩ := h
  cases h1
  rcases h2 with ⟨h2, _⟩ | ⟨b, off, rfl, h2⟩
  · omega
  · obtain ⟨cs, h3, h4, h5⟩ := hR.get hi
    exact ⟨b, off, cs, rfl, h3, h4, h2.sub h5⟩

/-! ### Numbers, bools, lists of them -/
def RI (x : Int) (cs : List Value) : Prop := i64ok x ∧ cs = [.int .i64 x]
def RB (x : Bool) (cs : List Value) : Prop := cs = [.bool x]
def ints (xs : List Int) : List Value := xs.map (.int .i64)
theorem RepL.ints {xs : List Int} (h : ∀ x ∈ xs, i64ok x) : RepL RI 1 xs (ints xs) := by
  induction xs with
  | nil => exact .nil
  | cons x r ih => exact .cons (cs := [.int .i64 x]) ⟨h x (by simp), rfl⟩ rfl (ih fun y hy => h y (List.mem_cons_of_mem _ hy))
theorem RepL.eq_ints {xs : List Int} {cells : List Value} (h : RepL RI 1 xs cells) : cells = Pal.ints xs ∧ ∀ x ∈ xs, i64ok x := by
  induction h with
  | nil => exact ⟨rfl, fun _ h => by cases h⟩
  | cons h _ _ ih =>
    obtain ⟨h1, rfl⟩ := h
    exact ⟨by rw [ih.1]; rfl, fun y hy => by
      rcases List.mem_cons.1 hy with rfl | hy
      · exact h1
      · exact ih.2 y hy⟩
theorem ints_one (xs : List Int) : (ints xs).all Value.oneCell' = true := by
  induction xs with
  | nil => rfl
  | cons x r ih => exact ih
/-- A slice of ints. -/
def SI (H : View) (v : Value) (xs : List Int) : Prop := SlAt H v xs.length (ints xs) ∧ ∀ x ∈ xs, i64ok x
theorem SI.mono {H H' : View} {v : Value} {xs : List Int} (h : SI H v xs) (hle : VLe H H') : SI H' v xs := ⟨h.1.mono hle, h.2⟩
theorem SI.get {H : View} {a : Option Addr} {k cap : Nat} {xs : List Int} (h : SI H (.slice a k cap) xs) {i : Nat} (hi : i < xs.length) : ∃ b off, a = some ⟨b, off, none⟩ ∧ At H b (off + i * 1) [.int .i64 xs[i]] := by
  obtain ⟨h1, h2⟩ := h
  have hk : k = xs.length := by obtain ⟨_, _, h, _⟩ := h1; cases h; rfl
  subst hk
  obtain ⟨b, off, cs, h3, h4, h5, h6⟩ := h1.elem (.ints h2) hi rfl
  obtain ⟨_, rfl⟩ := h5
  exact ⟨b, off, h3, h6⟩
theorem SI.shape {H : View} {v : Value} {xs : List Int} (h : SI H v xs) : ∃ a cap, v = .slice a xs.length cap := by
  obtain ⟨⟨a, cap, h, _⟩, _⟩ := h; exact ⟨a, cap, h⟩

/-! ### Trees -/
theorem RepT.two {H : View} {t : Tr} {cs : List Value} (h : RepT H t cs) : cs.length = 2 := by cases h; rfl
theorem RepT.shape {H : View} {t : Tr} {cs : List Value} (h : RepT H t cs) : ∃ s a k c, cs = [.int .i64 s, .slice a k c] := by cases h; exact ⟨_, _, _, _, rfl⟩
theorem RepT.of {H : View} {s : Int} {ts : List Tr} {v : Value} {cells : List Value} (hs : i64ok s) (hv : SlAt H v ts.length cells) (hR : RepL (RepT H) 2 ts cells) : RepT H (.node s ts) [.int .i64 s, v] := by
  obtain ⟨a, cap, rfl, h2⟩ := hv
  have hget := fun i (hi : i < ts.length) => hR.get hi
  have : ∃ cs : Nat → List Value, ∀ i (hi : i < ts.length), (cs i).length = 2 ∧ RepT H ts[i] (cs i) ∧ ∀ j v, (cs i)[j]? = some v → cells[i * 2 + j]? = some v := by
    classical
    refine ⟨fun i => if hi : i < ts.length then (hget i hi).choose else [], fun i hi => ?_⟩
    simp only [hi, dif_pos]
    exact (hget i hi).choose_spec
  obtain ⟨cs, hcs⟩ := this
  rcases h2 with ⟨h2, h3⟩ | ⟨b, off, rfl, h2⟩
  · refine .mk s ts a cap 0 0 cs hs (fun hne => ?_) (fun i hi => by omega) (fun i hi => (hcs i hi).2.1)
    exact absurd (List.eq_nil_of_length_eq_zero h2) hne
  · exact .mk s ts _ cap b off cs hs (fun _ => rfl) (fun i hi => ⟨(hcs i hi).1, h2.sub (hcs i hi).2.2⟩) (fun i hi => (hcs i hi).2.1)
end Pal

/-
  Range over a function: the rounds, the iterator's side, the loop's side, over PalG. Own work. No statement of the seat is proved here.
-/
namespace Pal
open Go

def onlyN (K : Act → World → Prop) : Exit → Act → World → Prop
  | .normal, a, w => K a w
  | _, _, _ => False
def noDefer (ops : List Oper) : Bool := ops.all fun o => match o.op with | .defer _ => false | _ => true
theorem noDefer.get {ops : List Oper} (h : noDefer ops = true) {i : Nat} {o : Oper} (ho : ops.toArray[i]? = some o) (c : Call) : o.op ≠ .defer c := by
  intro e
  have hm : o ∈ ops := by
    have : ops[i]? = some o := by simpa using ho
    exact List.mem_of_getElem? this
  have := List.all_eq_true.1 h o hm
  rw [e] at this
  cases this

/-- Operations, in whatever frame. -/
theorem ops_steps {P : Program} {ol : List Oper} {K : Act → World → Prop} (hnd : noDefer ol = true) :
    ∀ (is : List Nat) (a : Act) (w : World), wpOps P ol.toArray (onlyN K) is a w → ∀ (b : Frame) (ds : List Deferred) (k : List Item) (cs : List Frame),
      ∃ a' w', K a' w' ∧ Steps P (lone (b.atR ⟨a.tmps, a.defers ++ ds⟩ (.inRegion ol.toArray is :: k)) cs w) (lone (b.atR ⟨a'.tmps, a'.defers ++ ds⟩ k) cs w')
  | [], a, w, h, b, ds, k, cs => ⟨a, w, h, .one stepR_region_end⟩
  | i :: rest, a, w, h, b, ds, k, cs => by
    have ih := fun a w (h : wpOps P ol.toArray (onlyN K) rest a w) => ops_steps hnd rest a w h b ds k cs
    simp only [wpOps] at h
    cases ho : ol.toArray[i]? with
    | none =>
      simp only [ho] at h
      obtain ⟨a', w', hq, hs⟩ := ih a w h
      have h1 := stepR_op_skip (P := P) (b := b) (a := ⟨a.tmps, a.defers ++ ds⟩) (k := k) (cs := cs) (w := w) (ops := ol.toArray) (i := i) (rest := rest) (by simp [ho])
      simp only [ho, Option.bind_none, Act.put] at h1
      exact ⟨a', w', hq, .head h1 hs⟩
    | some o =>
      simp only [ho] at h
      have hput : ∀ v, (Act.put ⟨a.tmps, a.defers ++ ds⟩ o.dst v) = ⟨(a.put o.dst v).tmps, (a.put o.dst v).defers ++ ds⟩ := by
        intro v; cases hd : o.dst <;> simp [Act.put]
      by_cases hw : Region.wanted o (yielded ol.toArray a.tmps) = true
      · simp only [hw, if_true] at h
        rcases h with h | ⟨_, _, _, hq⟩
        case inr => exact hq.elim
        simp only [Oper.wp, Oper.upon] at h
        have hev : (Act.eval ⟨a.tmps, a.defers ++ ds⟩) = a.eval := by funext x; cases x <;> rfl
        have hg := stepGR_op (P := P) (b := b) (a := ⟨a.tmps, a.defers ++ ds⟩) (k := k) (cs := cs) (w := w) (rest := rest) ho hw
        rw [Oper.semAt_eq _ _ _ (noDefer.get hnd ho), hev] at hg
        have hfin : ∀ v, (b.atR ⟨a.tmps, a.defers ++ ds⟩ (.inRegion ol.toArray (i :: rest) :: k)).finish v = b.atR ⟨(a.put o.dst v).tmps, (a.put o.dst v).defers ++ ds⟩ (.inRegion ol.toArray rest :: k) := by
          intro v; rw [Frame.finish_atR, ho, ← hput]; rfl
        split at h
        · rename_i v w' hr
          obtain ⟨a', w'', hq, hs⟩ := ih _ _ h
          refine ⟨a', w'', hq, .head (step_lone_go ?_) hs⟩
          rw [hg, ← hfin]; simp [stepG.apply, hr]
        · rename_i w' hr
          obtain ⟨a', w'', hq, hs⟩ := ih _ _ h
          refine ⟨a', w'', hq, .head (step_lone_go ?_) hs⟩
          rw [hg, ← hfin]; simp [stepG.apply, hr]
        · rename_i d w' hr
          obtain ⟨a', w'', hq, hs⟩ := ih _ _ h
          refine ⟨a', w'', hq, .head (step_lone_go ?_) hs⟩
          have : ({ b.atR ⟨a.tmps, a.defers ++ ds⟩ (.inRegion ol.toArray (i :: rest) :: k) with defers := d :: (a.defers ++ ds) } : Frame).finish undef =
              b.atR ⟨(Act.put { a with defers := d :: a.defers } o.dst undef).tmps, (Act.put { a with defers := d :: a.defers } o.dst undef).defers ++ ds⟩ (.inRegion ol.toArray rest :: k) := by
            have := Frame.finish_atR b ⟨a.tmps, d :: (a.defers ++ ds)⟩ ol.toArray i rest k undef
            rw [ho] at this
            refine Eq.trans this ?_
            cases hd : o.dst <;> simp [Act.put, hd]
          rw [hg]; simp only [stepG.apply, Sem.runT_eq, hr, GStep.bare_after]
          exact congrArg (fun fr => GStep.go { frame := fr, callers := cs, status := .running, dying := none } w') this
        · rename_i f args w' hr
          obtain ⟨e, w'', fr, hR, hsteps, _, hleave⟩ := h (b.atR ⟨a.tmps, a.defers ++ ds⟩ (.inRegion ol.toArray (i :: rest) :: k) :: cs)
          have henter : step P (lone (b.atR ⟨a.tmps, a.defers ++ ds⟩ (.inRegion ol.toArray (i :: rest) :: k)) cs w) =
              .next (lone (Frame.enter P f args .normal) (b.atR ⟨a.tmps, a.defers ++ ds⟩ (.inRegion ol.toArray (i :: rest) :: k) :: cs) w') :=
            step_lone_go (by rw [hg]; simp [stepG.apply, hr, Frame.atR])
          cases e with
          | returned v =>
            obtain ⟨a', w₃, hq, hs⟩ := ih _ _ hR
            refine ⟨a', w₃, hq, .head henter (hsteps.trans (.head ?_ hs))⟩
            rw [← hfin]; exact step_leave_returned hleave
          | panicked chain => exact hR.elim
          | outgrown =>
            obtain ⟨_, _, hq⟩ := hR
            exact hq.elim
        · rename_i row args w' hr
          obtain ⟨v, w'', hR, hsteps⟩ := h (b.atR ⟨a.tmps, a.defers ++ ds⟩ (.inRegion ol.toArray (i :: rest) :: k)) cs
          have henter : step P (lone (b.atR ⟨a.tmps, a.defers ++ ds⟩ (.inRegion ol.toArray (i :: rest) :: k)) cs w) =
              .next (lone (Frame.ofRow P row args .normal) (b.atR ⟨a.tmps, a.defers ++ ds⟩ (.inRegion ol.toArray (i :: rest) :: k) :: cs) w') :=
            step_lone_go (by rw [hg]; simp [stepG.apply, hr, Frame.atR])
          obtain ⟨a', w₃, hq, hs⟩ := ih _ _ hR
          refine ⟨a', w₃, hq, .head henter (hsteps.trans ?_)⟩
          rw [hfin]; exact hs
        · exact h.elim
        · exact h.elim
      · simp only [hw, if_false, Bool.false_eq_true] at h
        obtain ⟨a', w', hq, hs⟩ := ih _ _ h
        have h1 := stepR_op_skip (P := P) (b := b) (a := ⟨a.tmps, a.defers ++ ds⟩) (k := k) (cs := cs) (w := w) (ops := ol.toArray) (i := i) (rest := rest)
          (by simp [ho]; simpa using hw)
        rw [ho] at h1
        exact ⟨a', w', hq, .head h1 (by have := hput undef; simp only [Option.bind_some]; rw [this]; exact hs)⟩

section rules
variable {P : Program} {n : Nat} {c : Cx} {Q : Exit → Act → World → Prop} {l : KL} {hl : HL} {H : View}

def Out (n : Nat) (c : Cx) (S : KL → HL → View → Prop) (a : Act) (w : World) : Prop := ∃ ρ l hl H, a = fr n ρ ∧ Mt n ρ l ∧ Ok c w H hl ∧ S l hl H
theorem Q_out {S : KL → HL → View → Prop} (h : S l hl H) : KQ n c (onlyN (Out n c S)) .normal l hl H := fun ρ _ hm ho => ⟨ρ, l, hl, H, rfl, hm, ho, h⟩

/-- A region's walk, in whatever frame. -/
theorem KO.run {ol : List Oper} {S : KL → HL → View → Prop} (hnd : noDefer ol = true) (h : KO P n c ol.toArray (onlyN (Out n c S)) ol l hl H) {ρ : Env} {w : World} (hm : Mt n ρ l) (ho : Ok c w H hl)
    (id : Nat) (b : Frame) (ds : List Deferred) (k : List Item) (cs : List Frame) :
    ∃ ρ' l' hl' H' w', S l' hl' H' ∧ Mt n ρ' l' ∧ Ok c w' H' hl' ∧ Steps P (lone (b.atR ⟨(fr n ρ).tmps, ds⟩ (.code (.region id ol.toArray false) :: k)) cs w) (lone (b.atR ⟨(fr n ρ').tmps, ds⟩ k) cs w') := by
  have h1 := h ρ w hm ho
  have h2 : wpOps P ol.toArray (onlyN (Out n c S)) (List.range ol.toArray.size) (fr n ρ) w := by
    rw [List.range_eq_range', show ol.toArray.size = ol.length by simp, wpOps_eq_wpList ol 0 (by simp)]; exact h1
  obtain ⟨a', w', ⟨ρ', l', hl', H', rfl, hm', ho', hS⟩, hs⟩ := ops_steps hnd _ _ _ h2 b ds k cs
  exact ⟨ρ', l', hl', H', w', hS, hm', ho', .head stepR_region hs⟩

theorem Ok.put {w : World} {b : Nat} {o : Obj} (o' : Obj) (h : Ok c w H (blk b o :: hl)) : Ok c (w.putObj b o') H (blk b o' :: hl) := by
  have hb : w.heap[b]? = some o := h.own _ List.mem_cons_self
  have h' : Has w H [blk b o] := Has.left (p := [blk b o]) (r := hl) h.hasL
  refine Ok.call (p := [blk b o]) (r := hl) (q := [blk b o']) h ?_
  exact ok1 h' rfl rfl rfl (Nat.le_refl _) (by simp) (fun k _ hk => World.putObj_heap_other (by simpa [blk] using hk)) (World.putObj_heap_same (lt_of_heap hb)) (fun k hk => .inl hk) (by simp [blk])

def busy (r : Loop) : Loop := { r with state := .busy }
def wpX (P : Program) (ops : Array Oper) (Q : Exit → Act → World → Prop) (rest : List Oper) (a : Act) (w : World) : Prop :=
  ∀ (is : List Nat), is.map (fun i => ops[i]?) = rest.map some → ∀ (b : Frame) (k : List Item) (cs : List Frame), ∃ e a' w', Q e a' w' ∧ Arrives P (lone (b.at a (.inRegion ops is :: k)) cs w) b k cs e a' w'
def KX (P : Program) (n : Nat) (c : Cx) (ops : Array Oper) (Q : Exit → Act → World → Prop) (rest : List Oper) (l : KL) (hl : HL) (H : View) : Prop :=
  ∀ ρ w, Mt n ρ l → Ok c w H hl → wpX P ops Q rest (fr n ρ) w
theorem K_regionX {id : Nat} {ops : List Oper} (h : KX P n c ops.toArray Q ops l hl H) : KC P n c (.region id ops.toArray false) Q l hl H := by
  intro ρ w hm ho b k cs
  obtain ⟨e, a', w', hq, harr⟩ := h ρ w hm ho (List.range ops.toArray.size) (by
    apply List.ext_getElem?
    intro i
    by_cases hi : i < ops.length
    · simp [hi]
    · simp [hi]) b k cs
  exact ⟨e, a', w', hq, .of_steps (.one step_region) harr⟩
theorem X_nil {ops : Array Oper} (h : KQ n c Q .normal l hl H) : KX P n c ops Q [] l hl H := by
  intro ρ w hm ho is his b k cs
  have : is = [] := by simpa using his
  subst this
  exact ⟨.normal, _, w, h ρ w hm ho, .one step_region_end⟩
variable {ops : Array Oper} {rest : List Oper} {d : Nat} {v : Value} {op : Op} {ty : TypeId} {pos : String} {aft : Array Edge}
theorem X_val (hv : ValOk P l H hl op ty v) (hdn : Nat.blt d n = true) (h : KX P n c ops Q rest ((d, v) :: l) hl H) :
    KX P n c ops Q (⟨some d, op, ty, pos, aft, none⟩ :: rest) l hl H := by
  intro ρ w hm ho is his b k cs
  cases is with
  | nil => simp at his
  | cons i is =>
    simp only [List.map_cons, List.cons.injEq] at his
    obtain ⟨hi, his⟩ := his
    obtain ⟨e, a', w', hq, harr⟩ := h _ w (hm.put hdn v) ho is his b k cs
    refine ⟨e, a', w', hq, .of_steps (.one (step_lone_go ?_)) harr⟩
    rw [stepG_op hi (by simp [Region.wanted])]
    have hr : (execOp (fr n ρ).eval ⟨some d, op, ty, pos, aft, none⟩).run P w = .ok (.value v) w := hv _ w hm.knows ho.hasL
    have hf : (b.at (fr n ρ) (.inRegion ops (i :: is) :: k)).finish v = b.at (fr n (upd ρ d v)) (.inRegion ops is :: k) := by
      rw [Frame.finish_at, hi]; simp [fr_put]
    simp [stepG.apply, hr, hf]
def bodyPostM (P : Program) (fn : Func) (R : Ending → World → Prop) : Exit → Act → World → Prop
  | .ret, a, w => ∃ D w', a.defers = [⟨.collected D, #[]⟩] ∧ (Instr.takeDeferred D).run P w = .ok [] w' ∧ ∃ v, (results fn a.tmps).run P w' = .ok v w' ∧ R (.returned v) w'
  | _, _, _ => False
theorem calls_marks {f : FuncId} {fn : Func} {cd : Code} {args : Array Value} {w : World} {R : Ending → World → Prop} (hf : P.funcs[f]? = some fn) (hb : fn.body = some cd)
    (h : cd.wp P (bodyPostM P fn R) { tmps := args ++ Array.replicate (fn.ntmps - args.size) undef, defers := [] } w) : Calls P f args w R := by
  intro cs
  let b : Frame := { (default : Frame) with fn := f, kind := .normal }
  have henter : Frame.enter P f args .normal = b.at { tmps := args ++ Array.replicate (fn.ntmps - args.size) undef, defers := [] } [.code cd] := by
    simp [Frame.enter, Frame.at, hf, hb, b]
  obtain ⟨e, a', w', hq, harr⟩ := h b [] cs
  rw [← henter] at harr
  cases e with
  | ret =>
    obtain ⟨D, w'', hd, htk, v, hr, hR⟩ := hq
    obtain ⟨todo, hs⟩ := harr
    have h1 := step_collected (P := P) (fr := { b.at a' todo with mode := .returning }) (cs := cs) (w := w') (w' := w'') (calls := []) (by simp) hd rfl htk
    exact ⟨.returned v, w'', _, hR, Steps.trans hs (.one h1), rfl, rfl, rfl, rfl, fn, hf, hr⟩
  | _ => exact hq.elim
theorem enterM {f : FuncId} {fn : Func} {body : Code} {n : Nat} {args : List Value} {post : Value → View → HL → Prop}
    (hf : P.funcs[f]? = some fn) (hb : fn.body = some body) (hnt : fn.ntmps = n) (hn : Nat.ble args.length n = true)
    (h : ∀ w0, KC P n ⟨w0, H, feet hl⟩ body (bodyPostM P fn (RS ⟨w0, H, feet hl⟩ post)) (args0 0 args) hl H) :
    SatO P f args.toArray H hl post := by
  subst hnt
  intro w hw
  have hn' := Nat.ble_eq.mp hn
  refine calls_marks hf hb ?_
  have key : ({ tmps := args.toArray ++ Array.replicate (fn.ntmps - args.toArray.size) undef, defers := [] } : Act) = fr fn.ntmps fun t => args.getD t undef := by
    simp only [fr, Act.mk.injEq, and_true]
    apply Array.ext
    · simp; omega
    · intro i h1 h2
      simp at h1 h2
      rw [Array.getElem_append]
      by_cases hi : i < args.length
      · simp [hi]
      · simp [hi]
  rw [key]
  refine h w _ w ?_ hw.ok
  intro t v hv
  obtain ⟨_, h2⟩ := look_args0 args 0 t v hv
  simp at h2
  have : t < args.length := (List.getElem?_eq_some_iff.1 h2).1
  exact ⟨by omega, by simp [h2]⟩

def rec0 (fn : FuncId) (tmps : Array Value) (ps : Array Tmp) (assign body : Code) (D : Nat) : Loop :=
  { state := .ready, pending := none, fn, tmps, params := ps, assign, body, defers := D }
/-- The loop: what the rounds turn is E; what else is owned stands behind. -/
theorem K_rangeFunc {id gf : Nat} {g : Operand} {ps : Array Tmp} {assign body C : Code} {first cap : List Value} {p r : HL} {R : View → HL → Prop}
    (hcal : callable P gf = true) (hg : ev l g = some (.func (.func gf) first.toArray cap.toArray)) (hp : hl.Perm (p ++ r))
    (hiter : ∀ fn D L ρ, Mt n ρ l → SatO P gf (first ++ [Value.func (.yield L) #[] #[]] ++ cap).toArray H (blk L (.loop (rec0 fn (fr n ρ).tmps ps assign body D)) :: p)
      (fun _ H' q => ∃ q', q = blk L (.loop (rec0 fn (fr n ρ).tmps ps assign body D)) :: q' ∧ R H' q'))
    (hrest : ∀ D H' q', VLe H H' → R H' q' → ∀ ρ w, Mt n ρ l → Ok c w H' (blk D (.deferred (some [])) :: (q' ++ r)) → C.wp P Q ⟨(fr n ρ).tmps, [⟨.collected D, #[]⟩]⟩ w) :
    KC P n c (.block id (.rangeFunc g ps assign body)) (Exit.then (C.wp P Q) Q) l hl H := by
  intro ρ w hm ho b k cs
  let w1 := w.alloc (.deferred (some []))
  let L := w.heap.size + 1
  let rc := rec0 b.fn (fr n ρ).tmps ps assign body w.heap.size
  let w2 := w1.alloc (.loop rc)
  have h1 : Ok c w1 H (blk w.heap.size (.deferred (some [])) :: hl) := ho.alloc _
  have h2 : Ok c w2 H (blk L (.loop rc) :: blk w.heap.size (.deferred (some [])) :: hl) := by
    have := h1.alloc (.loop rc)
    rwa [show w1.heap.size = L from World.size_alloc w _] at this
  have h3 : Ok c w2 H ((blk L (.loop rc) :: p) ++ (blk w.heap.size (.deferred (some [])) :: r)) := by
    refine h2.perm ?_
    refine List.Perm.cons _ ?_
    exact ((hp.cons _).trans List.perm_middle.symm)
  have hS := hiter b.fn w.heap.size L ρ hm w2 h3.hasL.left
  obtain ⟨e, w3, frx, ⟨v, H3, q, rfl, ok3, q', rfl, hR⟩, hcomes, _, hleave⟩ := hS (b.at ⟨(fr n ρ).tmps, [⟨.collected w.heap.size, #[]⟩]⟩ (.inRangeFunc L :: .inBlock id :: k) :: cs)
  have h4 := h3.call ok3
  have h5 : Ok c (w3.putObj L (.loop { rc with state := .exhausted })) H3 (blk w.heap.size (.deferred (some [])) :: (q' ++ r)) := by
    have hpm : (q' ++ blk w.heap.size (.deferred (some [])) :: r).Perm (blk w.heap.size (.deferred (some [])) :: (q' ++ r)) := List.perm_middle
    have h6 : Ok c (w3.putObj L (.loop { rc with state := .exhausted })) H3 (blk L (.loop { rc with state := .exhausted }) :: (q' ++ blk w.heap.size (.deferred (some [])) :: r)) := h4.put _
    exact Ok.right (a := [blk L (.loop { rc with state := .exhausted })]) (h6.perm (hpm.cons _))
  have hL3 : w3.heap[L]? = some (.loop rc) := h4.own (blk L (.loop rc)) List.mem_cons_self
  let b0 : Frame := { b with roundOf := none }
  have hb0 : ∀ a todo, b.at a todo = b0.atR a todo := fun _ _ => rfl
  have hres : (resolve (fr n ρ).eval (rangeCall g L) 0).run P w2 = .ok ⟨.fn (.func gf) cap.toArray, (first ++ [Value.func (.yield L) #[] #[]]).toArray⟩ w2 := by
    have hc : (fr n ρ).eval (.const (.func (.yield L) #[] #[])) = .func (.yield L) #[] #[] := rfl
    simp [resolve, rangeCall, hm.ev hg, Deferred.ofValue, hc]
  have st1 : step P (lone (b.at (fr n ρ) (.code (.rangeFunc g ps assign body) :: .inBlock id :: k)) cs w) =
      .next (lone (Frame.enter P gf (first ++ [Value.func (.yield L) #[] #[]] ++ cap).toArray .normal) (b.at ⟨(fr n ρ).tmps, [⟨.collected w.heap.size, #[]⟩]⟩ (.inRangeFunc L :: .inBlock id :: k) :: cs) w2) := by
    have := stepR_rangeFunc (P := P) (b := b0) (a := fr n ρ) (k := .inBlock id :: k) (cs := cs) (w := w) (g := g) (ps := ps) (assign := assign) (body := body) (l := L) (mark := [⟨.collected w.heap.size, #[]⟩])
      (d := ⟨.fn (.func gf) cap.toArray, (first ++ [Value.func (.yield L) #[] #[]]).toArray⟩) (f := gf) (args := (first ++ [Value.func (.yield L) #[] #[]] ++ cap).toArray) (w₁ := w2) (w₁' := w2) (w₂ := w2)
      (run_enterLoop_outer _ _ _ _ _) hres (by simp only [invoke]; rw [callable.run hcal]; simp)
    exact this
  have st2 := step_leave_returned (P := P) (c := b.at ⟨(fr n ρ).tmps, [⟨.collected w.heap.size, #[]⟩]⟩ (.inRangeFunc L :: .inBlock id :: k)) (cs := cs) hleave
  rw [hb0, finish_atR_inRangeFunc] at st2
  have st3 := stepR_endRangeFunc (P := P) (b := b0) (a := ⟨(fr n ρ).tmps, [⟨.collected w.heap.size, #[]⟩]⟩) (k := .inBlock id :: k) (cs := cs) (run_endLoop hL3 (by simp [rc, rec0]))
  refine ⟨.normal, ⟨(fr n ρ).tmps, [⟨.collected w.heap.size, #[]⟩]⟩, _, hrest w.heap.size H3 q' ok3.le hR ρ _ hm h5, ?_⟩
  exact .head step_block (.head st1 (hcomes.trans (.head st2 (.head st3 (.one stepR_inBlock)))))
theorem resOk.results {fn : Func} {rs : List ResultVar} {vs : List Value} {ρ : Env} {w : World} (hfn : fn.results = rs.toArray) (hm : Mt n ρ l) (ho : Has w H hl) (h : resOk P l hl rs vs) :
    (results fn (fr n ρ).tmps).run P w = .ok (tupV vs) w := by
  have h1 := resOk.run hm ho h
  have h2 : (fn.results.mapM (rv (fr n ρ).tmps)).run P w = .ok vs.toArray w := by
    rw [hfn, Array.mapM_eq_mapM_toList, Sem.run_map, h1]
    rfl
  have h3 : Go.results fn (fr n ρ).tmps = (do
      let vs ← fn.results.mapM (rv (fr n ρ).tmps)
      pure (if h : vs.size = 1 then vs[0] else .tuple vs)) := by
    unfold Go.results
    congr 1
  rw [h3, Sem.run_bind, h2]
  simp only [Result.andThen_ok, Sem.run_pure]
  congr 1
  match vs with
  | [] => rfl
  | [v] => rfl
  | _ :: _ :: _ => rfl
end rules
end Pal

/-
  Sets of small numbers asx one number, its words, and the plain laws of bits. Own work. No statement of the seat is proved here.
-/
namespace Pal
open Go

/-- Word i of the set s. -/
def wd (s i : Nat) : Nat := (s >>> (64 * i)) % 18446744073709551616
def wv (s i : Nat) : Value := .int .u64 (wd s i : Int)
def setL (s : Nat) : List Value := [wv s 0, wv s 1, wv s 2, wv s 3, wv s 4, wv s 5, wv s 6, wv s 7, wv s 8, wv s 9, wv s 10, wv s 11, wv s 12, wv s 13, wv s 14, wv s 15]
def setV (s : Nat) : Value := .agg (setL s).toArray
theorem setL_len (s : Nat) : (setL s).length = 16 := rfl
theorem wd_lt (s i : Nat) : wd s i < 18446744073709551616 := Nat.mod_lt _ (by decide)
theorem wd_testBit (s i j : Nat) : (wd s i).testBit j = (decide (j < 64) && s.testBit (64 * i + j)) := by
  unfold wd
  rw [show (18446744073709551616 : Nat) = 2 ^ 64 by decide, Nat.testBit_mod_two_pow, Nat.testBit_shiftRight]
theorem testBit_wd (s n : Nat) : s.testBit n = (wd s (n / 64)).testBit (n % 64) := by
  rw [wd_testBit, Nat.div_add_mod]
  simp [Nat.mod_lt n (by decide : 0 < 64)]
def kBits : Nat := 1024
theorem kBits_eq : kBits = 1024 := rfl
attribute [irreducible] kBits
def big : Nat := 2 ^ kBits
theorem big_eq : big = 2 ^ kBits := rfl
attribute [irreducible] big
theorem testBit_big {s : Nat} (h : s < big) {j : Nat} (hj : 1024 ≤ j) : s.testBit j = false :=
  Nat.testBit_lt_two_pow (Nat.lt_of_lt_of_le (big_eq ▸ h) (Nat.pow_le_pow_right (by decide) (kBits_eq ▸ hj)))
theorem set_ext {s t : Nat} (hs : s < big) (ht : t < big) (h : ∀ i, i < 16 → wd s i = wd t i) : s = t := by
  apply Nat.eq_of_testBit_eq
  intro j
  by_cases hj : j < 1024
  · rw [testBit_wd s, testBit_wd t, h _ (by omega)]
  · rw [testBit_big hs (by omega), testBit_big ht (by omega)]
def bruijn : List Nat := [0, 1, 56, 2, 57, 49, 28, 3, 61, 58, 42, 50, 38, 29, 17, 4, 62, 47, 59, 36, 45, 43, 51, 22, 53, 39, 33, 30, 24, 18, 12, 5, 63, 55, 48, 27, 60, 41, 37, 16, 46, 35, 44, 21, 52, 32, 23, 11, 54, 26, 40, 15, 34, 20, 31, 10, 25, 14, 19, 9, 13, 8, 7, 6]
end Pal

/-
  More operations: words, arrays, maps, slices of slices, function values. Own work. No statement of the seat is proved here.
-/
namespace Pal
open Go

section rules
variable {P : Program} {n : Nat} {c : Cx} {Q : Exit → Act → World → Prop} {l : KL} {hl : HL} {H : View}
variable {ops : Array Oper} {rest : List Oper} {d : Nat} {v : Value} {op : Op} {ty : TypeId} {pos : String} {aft : Array Edge}

/-! ### Words -/
theorem R_bitsU {o : BinOp} {xt yt : TypeId} {x y : Operand} {a b r : Nat} (hx : ev l x = some (.int .u64 (a : Int))) (hy : ev l y = some (.int .u64 (b : Int))) (ha : a < 18446744073709551616) (hb : b < 18446744073709551616)
    (ht : (o = .and ∧ a &&& b = r) ∨ (o = .or ∧ a ||| b = r) ∨ (o = .andNot ∧ a &&& (18446744073709551615 - b) = r)) : ValOk P l H hl (.binOp o xt x y yt) ty (.int .u64 (r : Int)) := by
  refine (fun e w hk _ => ?_)
  simp only [ex, execOp, hk x _ hx, hk y _ hy, Sem.run_bind, run_eqGuard_int, Result.andThen_ok]
  rcases ht with ⟨rfl, rfl⟩ | ⟨rfl, rfl⟩ | ⟨rfl, rfl⟩
  · have := u64_and_nat a b ha hb
    simp only [binOp, ne_eq, not_true_eq_false, if_false, Op.intBits, Sem.run_pure, Result.andThen_ok]
    rw [← this]; rfl
  · have := u64_or_nat a b ha hb
    simp only [binOp, ne_eq, not_true_eq_false, if_false, Op.intBits, Sem.run_pure, Result.andThen_ok]
    rw [← this]; rfl
  · have := u64_andNot_nat a b ha hb
    simp only [binOp, ne_eq, not_true_eq_false, if_false, Op.intBits, Sem.run_pure, Result.andThen_ok]
    rw [← this]; rfl
theorem R_shrU {xt yt : TypeId} {x y : Operand} {a k : Nat} {q : IntKind} (hx : ev l x = some (.int .u64 (a : Int))) (hy : ev l y = some (.int q (k : Int))) (hk : k ≤ 64) : ValOk P l H hl (.binOp .shr xt x y yt) ty (.int .u64 ((a / 2 ^ k : Nat) : Int)) := by
  refine (fun e w hkn _ => ?_)
  simp only [ex, execOp, hkn x _ hx, hkn y _ hy, Sem.run_bind, run_eqGuard_int, Result.andThen_ok]
  have h1 : ¬ ((k : Int) < 0) := by omega
  have h2 : min k 64 = k := by omega
  simp only [binOp, Op.shift, h1, if_false, Int.toNat_natCast, IntKind.bits, h2, Sem.run_pure, Result.andThen_ok]
  congr 3
  rw [show ((2 : Int) ^ k) = ((2 ^ k : Nat) : Int) by simp]
  exact (Int.fdiv_eq_ediv_of_nonneg _ (Int.natCast_nonneg _)).trans (Int.natCast_ediv a (2 ^ k)).symm
def arrOk (P : Program) (t : TypeId) (k : Nat) (e : TypeId) : Prop := P.underlying t = some (.array k e)
theorem R_sliceNil {t e yt : TypeId} {x y : Operand} {a : Option Addr} {k cap : Nat} (hS : slcOk P t e) (hx : ev l x = some (.slice a k cap)) (hy : ev l y = some (.slice none 0 0)) : ValOk P l H hl (.binOp .eql t x y yt) ty (.bool a.isNone) := by
  intro e w hk _
  have hS' : P.underlying t = some (.slice _) := hS
  have key : ∀ d, (Op.equalIn (d + 1) t (.slice a k cap) (.slice none 0 0)).run P w = .ok a.isNone w := by
    intro d
    cases a <;> simp [Op.equalIn, run_underlying hS']
  have hg : (eqGuard .eql t x y (.slice a k cap) (.slice none 0 0)).run P w = .ok () w := by
    unfold eqGuard; simp
  simp only [ex, execOp, hk x _ hx, hk y _ hy, Sem.run_bind, hg, Result.andThen_ok, binOp]
  simp [Op.equal, Op.maxDepth, key 9999]
def mp (b : Nat) : Value := .map (some b)
theorem A_makeMap {t : TypeId} : AllocOk P l (.makeMap t none) ty mp (.map #[] 0) := by
  intro e w hk
  simp [ex, execOp, Instr.makeMap, mp]
theorem A_makeSlice {t e : TypeId} {x y : Operand} {z : Value} {k sz bytes : Nat} {agg : Bool} (hA : App P t e sz bytes) (hz : zeroOk P e z) (hT : Ty P e agg sz) (hx : ev l x = some (.int .i64 (k : Int))) (hy : ev l y = some (.int .i64 (k : Int)))
    (hb : bytes * k ≤ 281474976710656) (hk : k ≤ 9223372036854775807) : AllocOk P l (.makeSlice t x y) ty (slc k) (.cells (madeCells z.cells (k * sz)) e) := by
  obtain ⟨i, z', hi, hz', hsz, _, hbt⟩ := hA.i
  obtain ⟨i2, hi2, hz2⟩ := hz
  rw [hi] at hi2; cases hi2
  intro e w hkn
  have hS : P.underlying t = some (.slice _) := hA.s
  have hb' : (i.bytes : Int) * (k : Int) ≤ 281474976710656 := by
    rw [hbt]
    have h : ((bytes * k : Nat) : Int) ≤ 281474976710656 := by omega
    rwa [Int.natCast_mul] at h
  have h := run_make (P := P) w t _ i z hS hi hz2 .i64 .i64 (k : Int) (k : Int) (by omega) (by omega) hb' (by omega)
  simp only [Int.toNat_natCast, hsz] at h
  simp only [ex, execOp, hkn x _ hx, hkn y _ hy, Sem.run_bind, h, Result.andThen_ok, Sem.run_pure, slc]

/-! ### Maps -/
theorem wf_wv (s i : Nat) : (Lit.int .u64 (wd s i : Int)).wf = true := by
  have := wd_lt s i
  simp [Lit.wf, IntKind.min, IntKind.max, IntKind.bits, IntKind.signed]
  omega
structure SetT (P : Program) (t e : TypeId) : Prop where
  ar : arrOk P t 16 e
  ue : P.underlying e = some (.int .u64)
  ct : P.cellsOf t = 16
  ce : P.cellsOf e = 1
  kt : P.keyType t = true
  ka : P.keyTypeAt 2 t = true
  law : WideMaps.KeyLaw P t
  g : P.eqGuardType P.depth t = false
  nt : ∃ m, P.types.size = m + 1
theorem SetT.lits {t e : TypeId} (h : SetT P t e) (d s : Nat) : P.keyLits (d + 2) t (setL s) = some ((List.range 16).map fun i => Lit.int .u64 (wd s i : Int)) := by
  have ha : P.underlying t = some (.array 16 e) := h.ar
  have he : ∀ i, P.keyLits (d + 1) e [wv s i] = some [.int .u64 (wd s i : Int)] := by
    intro i
    simp [Program.keyLits, h.ue, wv, wf_wv]
  have hm : ((List.range 16).mapM fun i => P.keyLits (d + 1) e (((setL s).drop (i * P.cellsOf e)).take (P.cellsOf e))) = some ((List.range 16).map fun i => [Lit.int .u64 (wd s i : Int)]) := by
    rw [h.ce]
    simp only [List.range, List.range.loop, List.mapM_cons, List.mapM_nil, setL, Nat.zero_mul, Nat.one_mul, Nat.mul_one, List.drop_succ_cons, List.drop_zero, List.take_succ_cons, List.take_zero, he, List.map_cons, List.map_nil]
    rfl
  unfold Program.keyLits
  rw [ha]
  simp only [setL_len, h.ct, if_true, hm, Option.map_some]
  congr 1
theorem SetT.formed {t e : TypeId} (h : SetT P t e) (s : Nat) : (setV s).formed P t = true := by
  have ha : P.underlying t = some (.array 16 e) := h.ar
  simp [Value.formed, setV, ha, h.ct, setL]
theorem SetT.key {t e : TypeId} (h : SetT P t e) (s : Nat) : ∃ l, keyOf P t (setV s) = some l := by
  have ha : P.underlying t = some (.array 16 e) := h.ar
  have hsz : ∃ m, P.types.size + 1 = m + 2 := by
    obtain ⟨m, hm⟩ := h.nt
    exact ⟨m, by omega⟩
  obtain ⟨m, hm⟩ := hsz
  have hl := h.lits m s
  refine ⟨.string (keyBytes ((List.range 16).map fun i => Lit.int .u64 (wd s i : Int))), ?_⟩
  unfold keyOf
  rw [ha, hm]
  have : (setV s).cells.toList = setL s := rfl
  rw [this, hl]
  simp [h.kt, h.formed]
theorem SetT.eq {t e : TypeId} (h : SetT P t e) {s u : Nat} (hs : s < big) (hu : u < big) (w : World) : (Op.equal t (setV s) (setV u)).run P w = .ok (decide (s = u)) w := by
  have ha : P.underlying t = some (.array 16 e) := h.ar
  obtain ⟨r, hr, hiff⟩ := run_equalIn_deep (P := P) 9998 2 t h.ka w 2 2 (setV s) (setV u) _ _ (h.formed s) (h.formed u) (h.lits 0 s) (h.lits 0 u)
  have : r = decide (s = u) := by
    by_cases e0 : s = u
    · subst e0
      rw [decide_eq_true rfl]
      exact hiff.2 rfl
    · rw [decide_eq_false e0]
      rw [← Bool.not_eq_true]
      intro hr1
      refine e0 (set_ext hs hu fun i hi => ?_)
      have h1 := hiff.1 hr1
      have h2 := congrArg (fun L => L[i]?) h1
      simp only [List.getElem?_map, List.getElem?_range hi, Option.map_some, Option.some.injEq, Lit.int.injEq, true_and] at h2
      omega
  subst this
  exact hr
end rules
end Pal

/-
  Loads and stores whose place or outcome is told, reads of a row of one's own, calls that hand over, over PalU. Own work. No statement of the seat is proved here.
-/
namespace Pal
open Go
section rules
variable {P : Program} {n : Nat} {c : Cx} {Q : Exit → Act → World → Prop} {l : KL} {hl : HL} {H : View}
variable {ops : Array Oper} {rest : List Oper} {d : Nat} {v : Value} {op : Op} {ty : TypeId} {pos : String} {aft : Array Edge}

theorem Q_fall {fn : Func} {R : Ending → World → Prop} (h : KQ n c (bodyPost P fn R) .ret l hl H) : KQ n c (bodyPost P fn R) .normal l hl H := fun ρ w hm ho => h ρ w hm ho
/-- A whole block. -/
theorem R_loadW {t : TypeId} {x : Operand} {sz b : Nat} {cs : Array Value} {T : TypeId} {fz : Nat × Nat} (hT : Ty P t true sz) (i : Nat) (hx : ev l x = some (.pointer (some ⟨b, 0, none⟩)))
    (hi : hl[i]? = some (blk b (.cells cs T fz))) (hsz : cs.size = sz) (hv : Value.agg cs = v) : ValOk P l H hl (.load t x) ty v :=
  R_loadO (vs := cs.toList) hT i hx hi (by rw [List.drop_zero, List.take_of_length_le (by simp [hsz])]) (by simpa using hsz) (fun e => by cases e) (by simpa [mkV] using hv)
/-- One cell, its place told. -/
theorem R_loadC {t : TypeId} {x : Operand} {b off : Nat} {cs : Array Value} {T : TypeId} {fz : Nat × Nat} (hT : Ty P t false 1) (i : Nat) (hx : ev l x = some (.pointer (some ⟨b, off, none⟩)))
    (hi : hl[i]? = some (blk b (.cells cs T fz))) (hv : cs[off]? = some v) : ValOk P l H hl (.load t x) ty v := by
  have h1 : (cs.toList.drop off).take 1 = [v] := by
    have hv' : cs.toList[off]? = some v := by simpa using hv
    obtain ⟨h2, h3⟩ := List.getElem?_eq_some_iff.1 hv'
    rw [List.drop_eq_getElem_cons h2, h3]; rfl
  exact R_loadO hT i hx hi h1 rfl (fun _ => rfl) rfl
theorem putCells_all {cs : Array Value} {vs : Array Value} (h : cs.size = vs.size) : putCells cs 0 vs.toList = vs := by
  unfold putCells putL
  have h1 : List.drop (0 + vs.toList.length) cs.toList = [] := List.drop_eq_nil_of_le (by simp [h])
  rw [h1]
  simp
theorem K_storeE {t : TypeId} {x y : Operand} {agg : Bool} {sz b off : Nat} {cs cs' : Array Value} {T : TypeId} (hT : Ty P t agg sz) (i : Nat) (hx : ev l x = some (.pointer (some ⟨b, off, none⟩))) (hy : ev l y = some v)
    (hi : hl[i]? = some (blk b (.cells cs T (0, 0)))) (hsz : v.cells.toList.length = sz) (hfit : off + v.cells.toList.length ≤ cs.size) (h1 : v.cells.toList.all Value.oneCell' = true) (he : putCells cs off v.cells.toList = cs')
    (h : KO P n c ops Q rest l (hl.set i (blk b (.cells cs' T (0, 0)))) H) : KO P n c ops Q (⟨none, .store t x y, ty, pos, aft, none⟩ :: rest) l hl H := by
  subst he; exact K_store hT i hx hy hi hsz (Nat.ble_eq.mpr hfit) h1 h
theorem K_storeW {t : TypeId} {x y : Operand} {agg : Bool} {sz b : Nat} {cs cs' : Array Value} {T : TypeId} (hT : Ty P t agg sz) (i : Nat) (hx : ev l x = some (.pointer (some ⟨b, 0, none⟩))) (hy : ev l y = some v)
    (hi : hl[i]? = some (blk b (.cells cs T (0, 0)))) (hv : v.cells = cs') (hsz : cs'.size = sz) (hcs : cs.size = sz) (h1 : cs'.toList.all Value.oneCell' = true)
    (h : KO P n c ops Q rest l (hl.set i (blk b (.cells cs' T (0, 0)))) H) : KO P n c ops Q (⟨none, .store t x y, ty, pos, aft, none⟩ :: rest) l hl H := by
  subst hv
  refine K_storeE hT i hx hy hi (by simpa using hsz) (by simp [hsz, hcs]) h1 (putCells_all (by rw [hsz, hcs])) h
variable {ol : List Oper} {keep : HL} {fin : Bool} {T : ST} {R : List Nat} {i : Nat} {g : Option (Nat × Bool)}
theorem D_lastStoreE {t : TypeId} {x y : Operand} {agg : Bool} {sz b off : Nat} {cs cs' : Array Value} {E : TypeId} (hT : Ty P t agg sz) (j : Nat) (hi : nthO ol i = some ⟨none, .store t x y, ty, pos, aft, g⟩) (hw : wlO ol l g = some true)
    (hx : ev l x = some (.pointer (some ⟨b, off, none⟩))) (hy : ev l y = some v) (hj : hl[j]? = some (blk b (.cells cs E (0, 0)))) (hsz : v.cells.toList.length = sz) (hfit : off + v.cells.toList.length ≤ cs.size) (h1 : v.cells.toList.all Value.oneCell' = true)
    (he : putCells cs off v.cells.toList = cs') (h : KQ n c Q .normal l (hl.set j (blk b (.cells cs' E (0, 0)))) H) : KD P n ol.toArray keep true (TQ n c Q) [i] l hl H := by
  subst he; exact D_lastStore hT j hi hw hx hy hj hsz (Nat.ble_eq.mpr hfit) h1 h
theorem D_lastStoreW {t : TypeId} {x y : Operand} {agg : Bool} {sz b : Nat} {cs cs' : Array Value} {E : TypeId} (hT : Ty P t agg sz) (j : Nat) (hi : nthO ol i = some ⟨none, .store t x y, ty, pos, aft, g⟩) (hw : wlO ol l g = some true)
    (hx : ev l x = some (.pointer (some ⟨b, 0, none⟩))) (hy : ev l y = some v) (hj : hl[j]? = some (blk b (.cells cs E (0, 0)))) (hv : v.cells = cs') (hsz : cs'.size = sz) (hcs : cs.size = sz) (h1 : cs'.toList.all Value.oneCell' = true)
    (h : KQ n c Q .normal l (hl.set j (blk b (.cells cs' E (0, 0)))) H) : KD P n ol.toArray keep true (TQ n c Q) [i] l hl H := by
  subst hv
  exact D_lastStoreE hT j hi hw hx hy hj (by simpa using hsz) (by simp [hsz, hcs]) h1 (putCells_all (by rw [hsz, hcs])) h
/-- A read of a row of one's own. -/
theorem R_loadRow {t : TypeId} {x : Operand} {agg : Bool} {sz b off : Nat} {a : Addr} {e : TypeId} {sz' k k' cap : Nat} {xs vs : List Value} (hT : Ty P t agg sz) (j : Nat) (hx : ev l x = some (.pointer (some ⟨b, off, none⟩)))
    (hj : hl[j]? = some (row (.slice (some a) k' cap) e sz' k xs)) (ha : a.block = b) (hvs : (xs.drop off).take sz = vs) (hlen : vs.length = sz) (h1 : agg = false → sz = 1) (hv : mkV agg vs = v) : ValOk P l H hl (.load t x) ty v := by
  intro ee w hk ho
  subst hv
  obtain ⟨_, hr⟩ := ho.own _ (List.mem_of_getElem? hj)
  rcases hr with ⟨hr, _⟩ | ⟨g, cap', cur, hr, hg, _, _, _, htk⟩
  · cases hr
  · simp only [Value.slice.injEq, Option.some.injEq] at hr
    obtain ⟨rfl, _, _⟩ := hr
    simp only at ha
    subst ha
    have hg' : w.heap[g]? = some (.cells cur e (0, 0)) := hg
    have hc : ∀ j u, vs[j]? = some u → w.cell? ((⟨g, off, none⟩ : Addr).add j) = some u := by
      intro j u hj
      rw [addr_add]
      rw [← hvs, List.getElem?_take] at hj
      split at hj
      · rw [List.getElem?_drop, ← htk, List.getElem?_take] at hj
        split at hj
        · simp [World.cell?, hg']; simpa using hj
        · cases hj
      · cases hj
    simp [ex, execOp, hk x _ hx, Instr.loadAt, Instr.sureAddr, run_loadVar hT hlen h1 w hc]
/-- A call that is handed p and ends with q. -/
theorem K_callO {xs : List Operand} {ats : Array TypeId} {f : FuncId} {gx : Operand} {first captured vs : List Value} {post : Value → View → HL → Prop} (p r : HL) (hp : hl.Perm (p ++ r))
    (hcal : callable P f = true) (hg : ev l gx = some (.func (.func f) first.toArray captured.toArray)) (hxs : evs l xs = some vs) (hdn : Nat.blt d n = true) (hS : SatO P f (first ++ vs ++ captured).toArray H p post)
    (h : ∀ u H' q, VLe H H' → post u H' q → KO P n c ops Q rest ((d, u) :: l) (q ++ r) H') :
    KO P n c ops Q (⟨some d, .call ⟨.value gx, xs.toArray, ats⟩, ty, pos, aft, none⟩ :: rest) l hl H :=
  KE p r hp (E_call hcal hg hxs hS) hdn h
theorem D_callO {xs : List Operand} {ats : Array TypeId} {f : FuncId} {gx : Operand} {first captured vs : List Value} {post : Value → View → HL → Prop} (p r : HL) (hi : nthO ol i = some ⟨some d, .call ⟨.value gx, xs.toArray, ats⟩, ty, pos, aft, g⟩)
    (hw : wlO ol l g = some true) (hcal : callable P f = true) (hg : ev l gx = some (.func (.func f) first.toArray captured.toArray)) (hxs : evs l xs = some vs) (hp : hl.Perm (p ++ r)) (hkp : memAll keep r) (hS : SatO P f (first ++ vs ++ captured).toArray H p post)
    (h : ∀ u H' q, VLe H H' → post u H' q → KD P n ol.toArray keep fin T R ((d, u) :: l) (q ++ r) H') : KD P n ol.toArray keep fin T (i :: R) l hl H :=
  D_eff p r hi hw rfl hp hkp.mem (E_call hcal hg hxs hS) h
end rules
/-- The first k words met with t's. -/
def upto (s t k : Nat) : Nat := ((s &&& t) % 2 ^ (64 * k)) ||| ((s >>> (64 * k)) <<< (64 * k))
/-- The table of math/bits, a global of number g. -/
def TabAt (g : Nat) (H : View) : Prop := At H g 0 (bruijn.map fun (k : Nat) => Value.int .u8 (k : Int))
theorem TabAt.mono {g : Nat} {H H' : View} (h : TabAt g H) (hle : VLe H H') : TabAt g H' := At.mono h hle
theorem TabAt.get {g : Nat} {H : View} (h : TabAt g H) {i k : Nat} (_hi : i < 64) (hk : bruijn[i]? = some k) {off : Nat} (ho : off = i) : At H g off [.int .u8 (k : Int)] := by
  subst ho
  have := At.sub (p := off) (cs := [.int .u8 (k : Int)]) h (by
    intro j v hj
    cases j with
    | zero => simp at hj; subst hj; simp [hk]
    | succ j => simp at hj)
  simpa using this
theorem vadd_self (H : View) (b : Nat) (o : Obj) : vadd H b o b = some o := by simp [vadd]
end Pal

/-
  Appends to a slice that is full: a fresh row, published. Own work. No statement of the seat is proved here.
-/
namespace Pal
open Go
section rules
variable {P : Program} {n : Nat} {c : Cx} {Q : Exit → Act → World → Prop} {l : KL} {hl : HL} {H : View}
variable {ops : Array Oper} {rest : List Oper} {d : Nat} {v : Value} {op : Op} {ty : TypeId} {pos : String} {aft : Array Edge}

/-- A slice, its length no more than its room. -/
def SlC (H : View) (v : Value) (k : Nat) (cells : List Value) : Prop := SlAt H v k cells ∧ ∃ a cap, v = .slice a k cap ∧ k ≤ cap
theorem E_appendPub {x y : Operand} {t e : TypeId} {sz bytes k m : Nat} {a : Option Addr} {xs news : List Value} {u : Value} {p : HL} (hA : App P t e sz bytes) (hx : ev l x = some (.slice a k k)) (hxs : SlAt H (.slice a k k) k xs) (hxl : xs.length = k * sz)
    (hy : ev l y = some u) (hu : ((∃ a cp, u = .slice a m cp) ∧ m = 0 ∧ news = []) ∨ ∃ b off cp, u = .slice (some ⟨b, off, none⟩) m cp ∧ (At H b off news ∨ ∃ cs T fz, p = [blk b (.cells cs T fz)] ∧ off = 0 ∧ cs.toList.take news.length = news))
    (hl' : news.length = m * sz) (hb : (k + m) * bytes ≤ 140737488355328 ∧ k + m ≤ 140737488355328) :
    Eff P l H p (.call ⟨.builtin .append, #[x, y], #[t, t]⟩) ty fun v' H' q => q = [] ∧ SlC H' v' (k + m) (xs ++ news) := by
  intro ev' w hk ho
  obtain ⟨i, z, hi, hz, hs, hzs, hby⟩ := hA.i
  subst hs
  subst hby
  have hS : P.underlying t = some (.slice e) := hA.s
  have hu' : ((∃ a cp, u = .slice a m cp) ∧ m = 0 ∧ news = []) ∨ ∃ a cp, u = .slice (some a) m cp ∧ (∀ j u, news[j]? = some u → w.cell? (a.add j) = some u) := by
    rcases hu with h | ⟨b, off, cp, h, h2⟩
    · exact .inl h
    · refine .inr ⟨_, cp, h, ?_⟩
      rcases h2 with h2 | ⟨cs, T, fz, rfl, rfl, h3⟩
      · exact h2.cell ho.has
      · have hbk : w.heap[b]? = some (.cells cs T fz) := ho.own (blk b (.cells cs T fz)) (by simp)
        intro j u hj
        rw [addr_add]
        rw [← h3, List.getElem?_take] at hj
        split at hj
        · simpa [World.cell?, hbk] using hj
        · cases hj
  have ho0 : Ok ⟨w, H, feet p⟩ w H p := ho.ok
  by_cases hm : m = 0
  · subst hm
    have hn : news = [] := List.eq_nil_of_length_eq_zero (by simpa using hl')
    subst hn
    have hx' : ∃ a cp, u = .slice a 0 cp := by
      rcases hu' with ⟨h, _⟩ | ⟨a, cp, h, _⟩
      · exact h
      · exact ⟨some a, cp, h⟩
    obtain ⟨a', cp, rfl⟩ := hx'
    have hf : (Builtin.firstCells i.size 0 (.slice a' 0 cp)).run P w = .ok #[] w := by
      cases a' <;> simp [Builtin.firstCells, loadCells, loadCellsFrom]
    have hr : (ex ev' (.call ⟨.builtin .append, #[x, y], #[t, t]⟩) ty).run P w = .ok (.value (.slice a k k)) w := by
      simp only [ex, execOp, resolve, invoke, builtin]
      cases a <;> simp [hk x _ hx, hk y _ hy, Builtin.append_, run_underlying hS, Go.sizeOf, typeInfo, hi, Builtin.lenOf, hf, storeCells]
    rw [hr]
    exact ⟨H, [], ho0.sublist (List.nil_sublist p), rfl, by simpa using hxs, a, k, rfl, by omega⟩
  · obtain ⟨a', cp, rfl, hnews⟩ := hu'.resolve_left (fun h => hm h.2.1)
    have hge := grownCap_ge w (k + m) k e
    have h63 : ((k + m : Nat) : Int) ≤ 9223372036854775807 := by omega
    have key : ∀ o : Obj, ∀ cap, k + m ≤ cap → (∃ tl, o = .cells ((xs ++ news).toArray ++ tl) e) → ∃ H' q, Ok ⟨w, H, feet p⟩ (w.drew.alloc o) H' q ∧ q = [] ∧ SlC H' (.slice (some ⟨w.heap.size, 0, none⟩) (k + m) cap) (k + m) (xs ++ news) := by
      rintro o cap hcap ⟨tl, rfl⟩
      have h1 := (ho0.drew.alloc (.cells ((xs ++ news).toArray ++ tl) e)).perm (List.Perm.refl _)
      have hnew : w.drew.heap.size ∉ feet p := fun hm => Nat.lt_irrefl _ (ho.lt hm)
      have h2 := (h1.publish hnew).sublist (List.nil_sublist p)
      refine ⟨_, [], h2, rfl, ⟨_, cap, rfl, .inr ⟨w.heap.size, 0, rfl, _, e, _, vadd_self _ _ _, ?_⟩⟩, _, cap, rfl, hcap⟩
      intro j u hj
      have hjl : j < (xs ++ news).length := (List.getElem?_eq_some_iff.1 hj).1
      rw [Nat.zero_add, Array.getElem?_append_left (by simpa using hjl)]
      simpa using hj
    have hrun : ∃ o cap, k + m ≤ cap ∧ (∃ tl, o = Obj.cells ((xs ++ news).toArray ++ tl) e) ∧ (Builtin.append_ #[t, t] ty #[.slice a k k, .slice (some a') m cp]).run P w = .ok (.slice (some ⟨w.heap.size, 0, none⟩) (k + m) cap) (w.drew.alloc o) := by
      cases a with
      | none =>
        obtain ⟨a2, cap2, h1, h2⟩ := hxs
        cases h1
        rcases h2 with ⟨h2, h3⟩ | ⟨b, off, h2, _⟩
        · subst h2; subst h3
          have hr := run_append_nil (P := P) w t ty e i z hS hi hz a' m cp news hl' hnews (by omega) (by omega) (by have := hb.1; simp only [Nat.zero_add] at this; omega)
          refine ⟨_, grownCap w m 0 e, ?_, ⟨_, by simp only [List.nil_append]; rfl⟩, by simpa using hr⟩
          have := grownCap_ge w m 0 e
          omega
        · cases h2
      | some a0 =>
        obtain ⟨a2, cap2, h1, h2⟩ := hxs
        cases h1
        have holds : ∀ j v, xs[j]? = some v → w.cell? (a0.add j) = some v := by
          rcases h2 with ⟨_, h3⟩ | ⟨b, off, h2, h3⟩
          · subst h3; intro j v hj; simp at hj
          · cases h2; exact h3.cell ho.has
        have hr := run_append_grow (P := P) w t ty e i z hS hi hz a0 k k xs hxl holds a' m cp news hl' hnews (by omega) h63 (growslice_fits (by omega) hb.1)
        exact ⟨_, _, hge, ⟨Builtin.zeroCells z.cells (grownCap w (k + m) k e - (k + m)), by rw [← List.append_toArray]⟩, hr⟩
    obtain ⟨o, cap, hcap, ho', hr⟩ := hrun
    have hrun2 : (ex ev' (.call ⟨.builtin .append, #[x, y], #[t, t]⟩) ty).run P w = .ok (.value (.slice (some ⟨w.heap.size, 0, none⟩) (k + m) cap)) (w.drew.alloc o) := by
      simp [ex, execOp, resolve, invoke, builtin, hk x _ hx, hk y _ hy]
      rw [hr]; rfl
    rw [hrun2]
    exact key o cap hcap ho'
theorem K_appendPubH {x y : Operand} {t e : TypeId} {sz bytes k m : Nat} {a : Option Addr} {xs news : List Value} {u : Value} (hA : App P t e sz bytes) (hx : ev l x = some (.slice a k k)) (hxs : SlAt H (.slice a k k) k xs) (hxl : xs.length = k * sz)
    (hy : ev l y = some u) (hu : SlAt H u m news) (hul : news.length = m * sz) (hb : (k + m) * bytes ≤ 140737488355328 ∧ k + m ≤ 140737488355328) (hdn : Nat.blt d n = true)
    (h : ∀ v' H', VLe H H' → SlC H' v' (k + m) (xs ++ news) → KO P n c ops Q rest ((d, v') :: l) hl H') :
    KO P n c ops Q (⟨some d, .call ⟨.builtin .append, #[x, y], #[t, t]⟩, ty, pos, aft, none⟩ :: rest) l hl H := by
  refine KE [] hl (List.Perm.refl _) (E_appendPub (p := []) hA hx hxs hxl hy ?_ hul hb) hdn ?_
  · obtain ⟨a', cap', rfl, h2⟩ := hu
    rcases h2 with ⟨rfl, rfl⟩ | ⟨b, off, rfl, h2⟩
    · exact .inl ⟨⟨a', cap', rfl⟩, rfl, rfl⟩
    · exact .inr ⟨b, off, cap', rfl, .inl h2⟩
  · rintro v' H' q hle ⟨rfl, h2⟩
    exact h v' H' hle h2
variable {ol : List Oper} {keep : HL} {fin : Bool} {T : ST} {R : List Nat} {i : Nat} {g : Option (Nat × Bool)}
theorem Ok.publishP {w : World} {b : Nat} {o : Obj} (h : Ok c w H (blk b o :: hl)) (hsub : ∀ x ∈ c.pass, x ∈ feet hl) : Ok c w (vadd H b o) hl := by
  refine h.publish fun hm => ?_
  have hnd := h.nd
  rw [feet_cons] at hnd
  simp only [blk, List.cons_append, List.nil_append, List.nodup_cons] at hnd
  exact hnd.1 (hsub b hm)
theorem KQ_pubblk {x : Exit} {b : Nat} {o : Obj} (hsub : ∀ x ∈ c.pass, x ∈ feet hl) (h : ∀ H', VLe H H' → H' b = some o → KQ n c Q x l hl H') : KQ n c Q x l (blk b o :: hl) H := by
  intro ρ w hm ho
  have h2 := Ok.publishP ho hsub
  have hle : VLe H (vadd H b o) := by
    intro k o' hk
    by_cases e : k = b
    · subst e
      have := (ho.foot k (by simp [feet, blk])).1
      rw [this] at hk; cases hk
    · simp [vadd, e, hk]
  exact h _ hle (vadd_self _ _ _) ρ w hm h2
theorem KQ_pubnew {x : Exit} {b : Nat} {o : Obj} (hnew : b ∉ c.pass) (h : ∀ H', VLe H H' → H' b = some o → KQ n c Q x l hl H') : KQ n c Q x l (blk b o :: hl) H := by
  intro ρ w hm ho
  have h2 := ho.publish hnew
  have hle : VLe H (vadd H b o) := by
    intro k o' hk
    by_cases e : k = b
    · subst e
      have := (ho.foot k (by simp [feet, blk])).1
      rw [this] at hk; cases hk
    · simp [vadd, e, hk]
  exact h _ hle (vadd_self _ _ _) ρ w hm h2
theorem At.of {b : Nat} {cs : Array Value} {T : TypeId} {fz : Nat × Nat} (h : H b = some (.cells cs T fz)) : At H b 0 cs.toList := ⟨cs, T, fz, h, fun j v hj => by simpa using hj⟩
end rules

section
variable {P : Program} {n : Nat} {c : Cx} {l : KL} {hl : HL} {H : View}
theorem results_sel {fn : Func} {hl' : HL} (is : List Nat) (hs : sel is hl = some hl') {rs : List ResultVar} {vs : List Value} (hfn : fn.results = rs.toArray) {post : Value → View → HL → Prop} (h : resOk P l hl rs vs) (hp : post (tupV vs) H hl') :
    KQ n c (bodyPost P fn (RS c post)) .ret l hl H := by
  intro ρ w hm ho
  exact ⟨rfl, tupV vs, resOk.results hfn hm ho.hasL h, _, H, hl', rfl, ho.sel hs, hp⟩
end
theorem SatO.mono' {P : Program} {f : FuncId} {args : Array Value} {H : View} {p : HL} {post post' : Value → View → HL → Prop} (h : SatO P f args H p post) (hp : ∀ v H' q, post v H' q → post' v H' q) : SatO P f args H p post' :=
  fun w hw => Calls.mono (h w hw) fun _ _ ⟨v, H', q, h1, h2, h3⟩ => ⟨v, H', q, h1, h2, hp _ _ _ h3⟩
/-! ### All tuples, in their order -/
def ext (k : Nat) : Nat → List Int → List (List Int)
  | 0, xs => [xs]
  | m + 1, xs => (List.range k).flatMap fun (i : Nat) => ext k m (xs ++ [(i : Int)])
theorem SI.snoc {H : View} {a : Option Addr} {cp : Nat} {xs : List Int} {i : Nat} (hx : ∀ x ∈ xs, i64ok x) (hi : i ≤ 1099511627776) (h : SlAt H (.slice a (xs.length + 1) cp) (xs.length + 1) (ints xs ++ [.int .i64 (i : Int)])) :
    SI H (.slice a (xs.length + 1) cp) (xs ++ [(i : Int)]) := by
  refine ⟨by simpa [ints] using h, ?_⟩
  intro x hx'
  rcases List.mem_append.1 hx' with h1 | h1
  · exact hx x h1
  · simp at h1; subst h1; simp only [i64ok]; omega
end Pal

/-
  Automata asx plain lists: what they are over a view, what is wrong with them. Own work. No statement of the seat is proved here.
-/
namespace Pal
open Go
structure Rl where
  sym : Int
  args : List Int
  to : Int
structure Au where
  ranks : List Int
  states : Int
  rules : List Rl
  final : List Int
def RepR (H : View) (r : Rl) (cs : List Value) : Prop := ∃ a cp, cs = [.int .i64 r.sym, .slice a r.args.length cp, .int .i64 r.to] ∧ SI H (.slice a r.args.length cp) r.args ∧ i64ok r.sym ∧ i64ok r.to ∧ r.args.length ≤ 1099511627776
theorem RepR.mono {H H' : View} {r : Rl} {cs : List Value} (h : RepR H r cs) (hle : VLe H H') : RepR H' r cs := by
  obtain ⟨a, cp, h1, h2, h3⟩ := h
  exact ⟨a, cp, h1, h2.mono hle, h3⟩
structure RepAu (H : View) (a : Au) (vr vu vf : Value) : Prop where
  r : SI H vr a.ranks
  u : ∃ cells, SlAt H vu a.rules.length cells ∧ RepL (RepR H) 3 a.rules cells
  f : SI H vf a.final
  s : i64ok a.states
  rl : a.ranks.length ≤ 1099511627776
  ul : a.rules.length ≤ 1099511627776
  fl : a.final.length ≤ 1099511627776
theorem RepAu.mono {H H' : View} {a : Au} {vr vu vf : Value} (h : RepAu H a vr vu vf) (hle : VLe H H') : RepAu H' a vr vu vf := by
  obtain ⟨cells, h1, h2⟩ := h.u
  exact ⟨h.r.mono hle, ⟨cells, h1.mono hle, h2.imp fun x cs hx => hx.mono hle⟩, h.f.mono hle, h.s, h.rl, h.ul, h.fl⟩
theorem At.one {H : View} {b off : Nat} {vs : List Value} {j : Nat} {v : Value} (h : At H b off vs) (hj : vs[j]? = some v) : At H b (off + j) [v] := by
  refine h.sub fun k u hk => ?_
  cases k with
  | zero => simp at hk; subst hk; simpa using hj
  | succ k => simp at hk
theorem RepAu.rule {H : View} {a : Au} {vr vu vf : Value} (h : RepAu H a vr vu vf) {i : Nat} (hi : i < a.rules.length) : ∃ b off cp ra rcp, vu = .slice (some ⟨b, off, none⟩) a.rules.length cp ∧
    At H b (off + i * 3) [.int .i64 a.rules[i].sym, .slice ra a.rules[i].args.length rcp, .int .i64 a.rules[i].to] ∧ SI H (.slice ra a.rules[i].args.length rcp) a.rules[i].args ∧ i64ok a.rules[i].sym ∧ i64ok a.rules[i].to ∧ a.rules[i].args.length ≤ 1099511627776 := by
  obtain ⟨cells, h1, h2⟩ := h.u
  obtain ⟨ua, ucp, rfl, h3⟩ := h1
  obtain ⟨b, off, cs, rfl, _, ⟨ra, rcp, rfl, h5⟩, h6⟩ := SlAt.elem ⟨ua, ucp, rfl, h3⟩ h2 hi rfl
  exact ⟨b, off, ucp, ra, rcp, rfl, h6, h5⟩
theorem RepAu.ushape {H : View} {a : Au} {vr vu vf : Value} (h : RepAu H a vr vu vf) : ∃ ua ucp, vu = .slice ua a.rules.length ucp := by
  obtain ⟨cells, ⟨ua, ucp, rfl, _⟩, _⟩ := h.u
  exact ⟨ua, ucp, rfl⟩

/-! ### What is wrong -/
def ranksErr (ranks : List Int) : Int :=
  if (ranks.length : Int) < 1 ∨ 4096 < (ranks.length : Int) then 2 else if (ranks.any fun x => decide (x < 0 ∨ 2 < x)) = true then 3 else if ¬ (0 : Int) ∈ ranks then 9 else 0
def badQ (n q : Int) : Bool := !decide (0 ≤ q ∧ q < n)
def ruleErr (a : Au) (r : Rl) : Int :=
  if r.sym < 0 ∨ (a.ranks.length : Int) ≤ r.sym then 6 else if (r.args.length : Int) ≠ a.ranks.getD r.sym.toNat 0 then 3 else if (r.args.any (badQ a.states) || badQ a.states r.to) = true then 2 else 0
def rulesErr (a : Au) : List Rl → Int
  | [] => 0
  | r :: rs => if ruleErr a r ≠ 0 then ruleErr a r else rulesErr a rs
def auErr (a : Au) : Int :=
  if ranksErr a.ranks ≠ 0 then ranksErr a.ranks else if a.states < 0 ∨ 256 < a.states ∨ 65536 < (a.rules.length : Int) then 2
  else if rulesErr a a.rules ≠ 0 then rulesErr a a.rules else if (a.final.any (badQ a.states)) = true then 2 else 0
theorem rulesErr_take {a : Au} {rs : List Rl} {k : Nat} (h : ∀ j (hj : j < rs.length), j < k → ruleErr a rs[j] = 0) (hk : k < rs.length) (he : ruleErr a rs[k] ≠ 0) : rulesErr a rs = ruleErr a rs[k] := by
  induction rs generalizing k with
  | nil => simp at hk
  | cons r rs ih =>
    cases k with
    | zero => simp only [rulesErr, List.getElem_cons_zero] at he ⊢; rw [if_pos he]
    | succ k =>
      have h0 := h 0 (by simp) (by omega)
      simp only [List.getElem_cons_zero] at h0
      simp only [rulesErr, h0, ne_eq, not_true_eq_false, if_false, List.getElem_cons_succ] at he ⊢
      exact ih (fun j hj hjk => h (j + 1) (by simp; omega) (by omega)) (by simpa using hk) he
theorem rulesErr_zero {a : Au} {rs : List Rl} (h : ∀ j (hj : j < rs.length), ruleErr a rs[j] = 0) : rulesErr a rs = 0 := by
  induction rs with
  | nil => rfl
  | cons r rs ih =>
    have h0 := h 0 (by simp)
    simp only [List.getElem_cons_zero] at h0
    simp only [rulesErr, h0, ne_eq, not_true_eq_false, if_false]
    exact ih fun j hj => h (j + 1) (by simp; omega)
end Pal

/-
  The subset construction asx a plain function, and its state over owned blocks. Own work. No statement of the seat is proved here.
-/
namespace Pal
open Go

/-! ### The plain function -/
structure DS where
  subs : List Nat
  res : List ((Int × Int × Int) × Int)
def rulesOf (a : Au) (sym : Int) : List Rl := a.rules.filter fun r => decide (r.sym = sym)
def lookM (res : List ((Int × Int × Int) × Int)) (k : Int × Int × Int) : Option Int := (res.find? fun p => decide (p.1 = k)).map (·.2)
/-- What holds of a state. -/
structure DS.Inv (limit : Int) (st : DS) : Prop where
  nd : st.subs.Nodup
  bg : ∀ s ∈ st.subs, s < big
  rn : (st.res.map (·.1)).Nodup
  rk : ∀ p ∈ st.res, i64ok p.1.1 ∧ i64ok p.1.2.1 ∧ i64ok p.1.2.2
  rv : ∀ p ∈ st.res, 0 ≤ p.2 ∧ p.2 < st.subs.length
  le : (st.subs.length : Int) ≤ limit

theorem nodup_map_inj {α β : Type} {f : α → β} {l : List α} (hn : (l.map f).Nodup) {p q : α} (hp : p ∈ l) (hq : q ∈ l) (h : f p = f q) : p = q := by
  induction l with
  | nil => cases hp
  | cons x r ih =>
    simp only [List.map_cons, List.nodup_cons] at hn
    rcases List.mem_cons.1 hp with rfl | hp'
    · rcases List.mem_cons.1 hq with rfl | hq'
      · rfl
      · exact absurd (List.mem_map.2 ⟨q, hq', h.symm⟩) hn.1
    · rcases List.mem_cons.1 hq with rfl | hq'
      · exact absurd (List.mem_map.2 ⟨p, hp', h⟩) hn.1
      · exact ih hn.2 hp' hq'
def keyV (k : Int × Int × Int) : Value := .agg #[.int .i64 k.1, .int .i64 k.2.1, .int .i64 k.2.2]
def subsV (v : Value) (n : Nat) : Prop := (v = nilS ∧ n = 0) ∨ ∃ g cap, v = .slice (some ⟨g, 0, none⟩) n cap
section rules
variable {P : Program} {n : Nat} {c : Cx} {Q : Exit → Act → World → Prop} {l : KL} {hl : HL} {H : View}
theorem KQ_rowshape {x : Exit} {v : Value} {e : TypeId} {sz k : Nat} {xs : List Value} (i : Nat) (hi : hl[i]? = some (row v e sz k xs)) (h : subsV v k → KQ n c Q x l hl H) : KQ n c Q x l hl H := by
  intro ρ w hm ho
  refine h ?_ ρ w hm ho
  obtain ⟨_, h2⟩ := ho.own _ (List.mem_of_getElem? hi)
  rcases h2 with ⟨h2, h3⟩ | ⟨g, cap, cur, h2, _⟩
  · exact .inl ⟨h2, h3⟩
  · exact .inr ⟨g, cap, h2⟩
/-- Keys that are three numbers. -/
structure TriT (P : Program) (t e : TypeId) : Prop where
  us : ∃ f1 f2 f3 : Field, P.underlying t = some (.struct #[f1, f2, f3]) ∧ (f1.name ≠ "_" ∧ f1.type = e ∧ f1.offset = 0) ∧ (f2.name ≠ "_" ∧ f2.type = e ∧ f2.offset = 1) ∧ (f3.name ≠ "_" ∧ f3.type = e ∧ f3.offset = 2)
  ue : P.underlying e = some (.int .i64)
  ct : P.cellsOf t = 3
  ce : P.cellsOf e = 1
  kt : P.keyType t = true
  law : WideMaps.KeyLaw P t
  nt : ∃ m, P.types.size = m + 1
theorem wf_i64 {x : Int} (h : i64ok x) : (Lit.int .i64 x).wf = true := by
  simp only [i64ok] at h
  simp [Lit.wf, IntKind.min, IntKind.max, IntKind.bits, IntKind.signed]
  omega
theorem TriT.key {t e : TypeId} (h : TriT P t e) {k : Int × Int × Int} (hk : i64ok k.1 ∧ i64ok k.2.1 ∧ i64ok k.2.2) : ∃ l, keyOf P t (keyV k) = some l := by
  obtain ⟨f1, f2, f3, hu, ⟨n1, t1, o1⟩, ⟨n2, t2, o2⟩, ⟨n3, t3, o3⟩⟩ := h.us
  obtain ⟨m, hm⟩ := h.nt
  have he : ∀ (d : Nat) (x : Int), i64ok x → P.keyLits (d + 1) e [.int .i64 x] = some [.int .i64 x] := by
    intro d x hx
    simp [Program.keyLits, h.ue, wf_i64 hx]
  have hl : P.keyLits (m + 2) t [.int .i64 k.1, .int .i64 k.2.1, .int .i64 k.2.2] = some [.int .i64 k.1, .int .i64 k.2.1, .int .i64 k.2.2] := by
    unfold Program.keyLits
    rw [hu]
    simp [h.ct, h.ce, t1, t2, t3, o1, o2, o3, n1, n2, n3, he m _ hk.1, he m _ hk.2.1, he m _ hk.2.2]
  refine ⟨.string (keyBytes [.int .i64 k.1, .int .i64 k.2.1, .int .i64 k.2.2]), ?_⟩
  unfold keyOf
  rw [hu, hm]
  have hf : (keyV k).formed P t = true := by simp [Value.formed, keyV, hu, h.ct]
  have hc : (keyV k).cells.toList = [.int .i64 k.1, .int .i64 k.2.1, .int .i64 k.2.2] := rfl
  rw [hc, hl]
  simp [h.kt, hf]
end rules
/-- The rules by their symbol. -/
def RepBy (H : View) (a : Au) (v : Value) : Prop := ∃ b off cp, v = .slice (some ⟨b, off, none⟩) a.ranks.length cp ∧
  ∀ s, s < a.ranks.length → ∃ ua ucp cells, At H b (off + s * 1) [.slice ua (rulesOf a s).length ucp] ∧ SlAt H (.slice ua (rulesOf a s).length ucp) (rulesOf a s).length cells ∧ RepL (RepR H) 3 (rulesOf a s) cells
theorem RepBy.mono {H H' : View} {a : Au} {v : Value} (h : RepBy H a v) (hle : VLe H H') : RepBy H' a v := by
  obtain ⟨b, off, cp, h1, h2⟩ := h
  refine ⟨b, off, cp, h1, fun s hs => ?_⟩
  obtain ⟨ua, ucp, cells, h3, h4, h5⟩ := h2 s hs
  exact ⟨ua, ucp, cells, h3.mono hle, h4.mono hle, h5.imp fun x cs hx => hx.mono hle⟩
theorem subsV.shape {v : Value} {n : Nat} (h : subsV v n) : ∃ a cp, v = .slice a n cp := by
  rcases h with ⟨rfl, rfl⟩ | ⟨g, cap, rfl⟩
  · exact ⟨none, 0, rfl⟩
  · exact ⟨_, cap, rfl⟩
structure AuOk (a : Au) : Prop where
  rl : 1 ≤ a.ranks.length ∧ a.ranks.length ≤ 4096
  rk : ∀ s (h : s < a.ranks.length), 0 ≤ a.ranks[s] ∧ a.ranks[s] ≤ 2
  st : 0 ≤ a.states ∧ a.states ≤ 256
  ul : a.rules.length ≤ 65536
  ru : ∀ r ∈ a.rules, 0 ≤ r.sym ∧ r.sym < a.ranks.length ∧ (r.args.length : Int) = a.ranks.getD r.sym.toNat 0 ∧ (∀ q ∈ r.args, 0 ≤ q ∧ q < a.states) ∧ 0 ≤ r.to ∧ r.to < a.states
  fi : ∀ q ∈ a.final, 0 ≤ q ∧ q < a.states
theorem badQ_false {n q : Int} (h : badQ n q = false) : 0 ≤ q ∧ q < n := by
  simpa [badQ] using h
theorem rulesErr_all {a : Au} : ∀ {rs : List Rl}, rulesErr a rs = 0 → ∀ r ∈ rs, ruleErr a r = 0
  | [], _, r, hr => by cases hr
  | x :: rs, h, r, hr => by
    simp only [rulesErr] at h
    by_cases h0 : ruleErr a x ≠ 0
    · rw [if_pos h0] at h; exact absurd h h0
    · rw [if_neg h0] at h
      rcases List.mem_cons.1 hr with rfl | hr
      · exact Decidable.not_not.1 h0
      · exact rulesErr_all h r hr
theorem AuOk.of {a : Au} (h : auErr a = 0) : AuOk a := by
  unfold auErr at h
  split at h
  · rename_i h0; exact absurd h h0
  rename_i h0
  have h0 : ranksErr a.ranks = 0 := Decidable.not_not.1 h0
  split at h
  · cases h
  rename_i h1
  split at h
  · rename_i h2; exact absurd h h2
  rename_i h2
  have h2 : rulesErr a a.rules = 0 := Decidable.not_not.1 h2
  split at h
  · cases h
  rename_i h3
  unfold ranksErr at h0
  split at h0
  · cases h0
  rename_i r1
  split at h0
  · cases h0
  rename_i r2
  refine ⟨by omega, ?_, by omega, by omega, ?_, ?_⟩
  · intro s hs
    have : ¬ ∃ x ∈ a.ranks, decide (x < 0 ∨ 2 < x) = true := fun ⟨x, hx, h⟩ => r2 (List.any_eq_true.2 ⟨x, hx, h⟩)
    have h5 : ¬ (a.ranks[s] < 0 ∨ 2 < a.ranks[s]) := fun h => this ⟨_, List.getElem_mem hs, by simpa using h⟩
    omega
  · intro r hr
    have h4 := rulesErr_all h2 r hr
    unfold ruleErr at h4
    split at h4
    · cases h4
    rename_i s1
    split at h4
    · cases h4
    rename_i s2
    split at h4
    · cases h4
    rename_i s3
    simp only [Bool.or_eq_true, not_or, Bool.not_eq_true] at s3
    have h6 : ∀ q ∈ r.args, badQ a.states q = false := by
      intro q hq
      have := s3.1
      rw [List.any_eq_false] at this
      simpa using this q hq
    have h7 := badQ_false s3.2
    exact ⟨by omega, by omega, Decidable.not_not.1 s2, fun q hq => badQ_false (h6 q hq), h7⟩
  · intro q hq
    have : a.final.any (badQ a.states) = false := by simpa using h3
    rw [List.any_eq_false] at this
    exact badQ_false (by simpa using this q hq)
end Pal

/-
  A family of owned rows whose heads stand in one block. Own work. No statement of the seat is proved here.
-/
namespace Pal
open Go
section rules
variable {P : Program} {n : Nat} {c : Cx} {Q : Exit → Act → World → Prop} {l : KL} {hl : HL} {H : View}
variable {ops : Array Oper} {rest : List Oper} {d : Nat} {v : Value} {op : Op} {ty : TypeId} {pos : String} {aft : Array Edge}
theorem KQ_nilrow {x : Exit} (e : TypeId) (sz : Nat) (h : KQ n c Q x l (row nilS e sz 0 [] :: hl) H) : KQ n c Q x l hl H := fun ρ w hm ho => h ρ w hm (ho.nilrow e sz)
variable {ol : List Oper} {keep : HL} {fin : Bool} {T : ST} {R : List Nat} {i : Nat} {g : Option (Nat × Bool)}
theorem D_makeSlice {mk : Nat → Value} {o : Obj} (hi : nthO ol i = some ⟨some d, op, ty, pos, aft, g⟩) (hw : wlO ol l g = some true) (hc : Nat.beq (cls op) 1 = true) (_hkp : memAll keep hl) (hv : AllocOk P l op ty mk o)
    (h : ∀ b, KD P n ol.toArray keep fin T R ((d, mk b) :: l) (blk b o :: hl) H) : KD P n ol.toArray keep fin T (i :: R) l hl H :=
  D_alloc hi hw hc hv h
end rules
theorem DS.Inv.nil {limit : Int} (h : 0 ≤ limit) : DS.Inv limit ⟨[], []⟩ := ⟨.nil, by simp, .nil, by simp, by simp, h⟩
/-- A slice of slices of ints. -/
def RSI (H : View) (xs : List Int) (cs : List Value) : Prop := ∃ w, cs = [w] ∧ SI H w xs
def SSI (H : View) (v : Value) (xss : List (List Int)) : Prop := ∃ cells, SlAt H v xss.length cells ∧ RepL (RSI H) 1 xss cells
theorem RSI.mono {H H' : View} {xs : List Int} {cs : List Value} (h : RSI H xs cs) (hle : VLe H H') : RSI H' xs cs := by
  obtain ⟨w, h1, h2⟩ := h
  exact ⟨w, h1, h2.mono hle⟩
theorem SSI.mono {H H' : View} {v : Value} {xss : List (List Int)} (h : SSI H v xss) (hle : VLe H H') : SSI H' v xss := by
  obtain ⟨cells, h1, h2⟩ := h
  exact ⟨cells, h1.mono hle, h2.imp fun _ _ hx => hx.mono hle⟩
theorem SSI.nil (H : View) (a : Option Addr) (cp : Nat) : SSI H (.slice a 0 cp) [] := ⟨[], ⟨a, cp, rfl, .inl ⟨rfl, rfl⟩⟩, .nil⟩
theorem SSI.get {H : View} {a : Option Addr} {k cap : Nat} {xss : List (List Int)} (h : SSI H (.slice a k cap) xss) {i : Nat} (hi : i < xss.length) : ∃ b off xa xcp, a = some ⟨b, off, none⟩ ∧ At H b (off + i * 1) [.slice xa xss[i].length xcp] ∧ SI H (.slice xa xss[i].length xcp) xss[i] := by
  obtain ⟨cells, h1, h2⟩ := h
  obtain ⟨a', c', h3, _⟩ := id h1
  cases h3
  obtain ⟨b, off, cs, rfl, _, ⟨w, rfl, h5⟩, h6⟩ := SlAt.elem h1 h2 hi rfl
  obtain ⟨xa, xcp, rfl⟩ := h5.shape
  exact ⟨b, off, xa, xcp, rfl, h6, h5⟩
theorem SSI.shape {H : View} {v : Value} {xss : List (List Int)} (h : SSI H v xss) : ∃ a cap, v = .slice a xss.length cap := by
  obtain ⟨cells, ⟨a, c, rfl, _⟩, _⟩ := h
  exact ⟨a, c, rfl⟩
theorem take_map_succ {α β : Type} {f : α → β} {l : List α} {k : Nat} (h : k < l.length) : (l.take (k + 1)).map f = (l.take k).map f ++ [f l[k]] := by
  rw [List.take_succ_eq_append_getElem h, List.map_append]; rfl
structure Dt where
  ranks : List Int
  acc : List Bool
  to : List (List Int)
def bools (xs : List Bool) : List Value := xs.map .bool
def SB (H : View) (v : Value) (xs : List Bool) : Prop := SlAt H v xs.length (bools xs)
structure RepDt (H : View) (d : Dt) (vr va vt : Value) : Prop where
  r : SI H vr d.ranks
  a : SB H va d.acc
  t : SSI H vt d.to
theorem RepDt.mono {H H' : View} {d : Dt} {vr va vt : Value} (h : RepDt H d vr va vt) (hle : VLe H H') : RepDt H' d vr va vt := ⟨h.r.mono hle, SlAt.mono h.a hle, h.t.mono hle⟩
theorem ints_snoc (xs : List Int) (x : Int) : ints (xs ++ [x]) = ints xs ++ [.int .i64 x] := by simp [ints]
theorem pow_le2 {k n : Nat} (hk : k ≤ 512) (hn : n ≤ 2) : k ^ n ≤ 262144 := by
  match n, hn with
  | 0, _ => simp
  | 1, _ => rw [Nat.pow_one]; omega
  | 2, _ => calc k ^ 2 ≤ 512 ^ 2 := Nat.pow_le_pow_left hk 2
      _ = 262144 := by decide
theorem range_map_succ {α : Type} (f : Nat → α) (k : Nat) : (List.range (k + 1)).map f = (List.range k).map f ++ [f k] := by
  rw [List.range_succ, List.map_append]; rfl
/-! ### Lists in their order -/
def cmpL : List Int → List Int → Int
  | [], [] => 0
  | [], _ :: _ => -1
  | _ :: _, [] => 1
  | x :: xs, y :: ys => if x < y then -1 else if y < x then 1 else cmpL xs ys
theorem cmpL_self : ∀ xs : List Int, cmpL xs xs = 0
  | [] => rfl
  | x :: xs => by simp [cmpL, cmpL_self xs]
theorem cmpL_eq : ∀ {xs ys : List Int}, cmpL xs ys = 0 ↔ xs = ys
  | [], [] => by simp [cmpL]
  | [], _ :: _ => by simp [cmpL]
  | _ :: _, [] => by simp [cmpL]
  | x :: xs, y :: ys => by
    simp only [cmpL, List.cons.injEq]
    by_cases h1 : x < y
    · rw [if_pos h1]; constructor
      · intro h; cases h
      · rintro ⟨rfl, _⟩; omega
    · rw [if_neg h1]
      by_cases h2 : y < x
      · rw [if_pos h2]; constructor
        · intro h; cases h
        · rintro ⟨rfl, _⟩; omega
      · rw [if_neg h2, cmpL_eq]
        constructor
        · intro h; exact ⟨by omega, h⟩
        · exact fun h => h.2
theorem cmpL_end {xs ys : List Int} {k : Nat} (h1 : k ≤ xs.length) (h2 : k ≤ ys.length) (h : k = xs.length ∨ k = ys.length) : cmpL (xs.drop k) (ys.drop k) = if xs.length < ys.length then -1 else if ys.length < xs.length then 1 else 0 := by
  rcases h with h | h
  · subst h
    rw [List.drop_length]
    by_cases h3 : xs.length < ys.length
    · rw [if_pos h3, List.drop_eq_getElem_cons h3]; rfl
    · have h4 : ys.length ≤ xs.length := by omega
      rw [if_neg h3, if_neg (by omega), List.drop_eq_nil_of_le h4]; rfl
  · subst h
    rw [List.drop_length]
    by_cases h3 : ys.length < xs.length
    · rw [if_neg (by omega), if_pos h3, List.drop_eq_getElem_cons h3]; rfl
    · have h4 : xs.length ≤ ys.length := by omega
      rw [if_neg (by omega), if_neg h3, List.drop_eq_nil_of_le h4]; rfl
theorem SB.get {H : View} {a : Option Addr} {k cap : Nat} {xs : List Bool} (h : SB H (.slice a k cap) xs) {i : Nat} (hi : i < xs.length) : ∃ b off, a = some ⟨b, off, none⟩ ∧ At H b (off + i * 1) [.bool xs[i]] := by
  obtain ⟨a', c', h1, h2⟩ := h
  cases h1
  rcases h2 with ⟨h2, _⟩ | ⟨b, off, rfl, h2⟩
  · omega
  · have := h2.one (j := i) (v := .bool xs[i]) (by simp [bools, hi])
    exact ⟨b, off, rfl, by simpa using this⟩
/-! ### The document's example -/
def knownA : Au := ⟨[0, 2], 2, [⟨0, [], 0⟩, ⟨0, [], 1⟩, ⟨1, [0, 1], 1⟩], [1]⟩
end Pal

/-
  Loops that keep what they do not write: rules over PalA. Own work. No statement of the seat is proved here.
-/
namespace Pal
open Go
def memN (k : Nat) : List Nat → Bool
  | [] => false
  | a :: r => cond (Nat.beq a k) true (memN k r)
def del (ks : List Nat) : KL → KL
  | [] => []
  | (k, v) :: r => cond (memN k ks) (del ks r) ((k, v) :: del ks r)
theorem beqN (a b : Nat) : Nat.beq a b = (a == b) := by
  by_cases h : a = b
  · subst h; simp [Nat.beq_refl]
  · simp [beq_ne h, h]
theorem look_del {ks : List Nat} {t : Nat} {v : Value} : ∀ {l : KL}, look (del ks l) t = some v → memN t ks = false ∧ look l t = some v
  | [], h => by simp [del, look] at h
  | (k, u) :: r, h => by
    simp only [del] at h
    cases hm : memN k ks with
    | true =>
      rw [hm] at h
      obtain ⟨h1, h2⟩ := look_del (l := r) h
      have hne : k ≠ t := fun e => by subst e; rw [hm] at h1; cases h1
      exact ⟨h1, by simp only [look, beq_ne hne]; exact h2⟩
    | false =>
      rw [hm] at h
      simp only [cond_false, look] at h
      by_cases e : k = t
      · subst e
        simp only [Nat.beq_refl, cond_true] at h
        exact ⟨hm, by simp only [look, Nat.beq_refl, cond_true]; exact h⟩
      · rw [beq_ne e] at h
        obtain ⟨h1, h2⟩ := look_del (l := r) h
        exact ⟨h1, by simp only [look, beq_ne e]; exact h2⟩
theorem look_app {t : Nat} {b : KL} : ∀ {a : KL}, look (a ++ b) t = match look a t with | some v => some v | none => look b t
  | [] => rfl
  | (k, u) :: r => by
    simp only [List.cons_append, look]
    cases Nat.beq k t with
    | true => rfl
    | false => exact look_app (a := r)
section
variable {P : Program} {n : Nat} {c : Cx} {Q : Exit → Act → World → Prop} {l l0 : KL} {hl : HL} {H : View}
theorem Mt.loop {ρ : Env} {M : KL} {ks : List Nat} (h : Mt n ρ l) (hs : subs M l) (hd : del ks l = l0) : Mt n ρ (M ++ l0) := by
  intro t v hv
  rw [look_app] at hv
  cases hm : look M t with
  | some u => rw [hm] at hv; cases hv; exact h.sub hs t _ hm
  | none =>
    rw [hm] at hv
    exact h t v (look_del (hd ▸ hv)).2
def LDat {G : Type} (M : G → KL) (l0 : KL) (O : G → HL) (V : G → View) (I : G → Prop) (n : Nat) (c : Cx) (g : G) (a : Act) (w : World) : Prop :=
  I g ∧ ∃ ρ, a = fr n ρ ∧ Mt n ρ (M g ++ l0) ∧ Ok c w (V g) (O g)
def LDnext {G : Type} (_ks : List Nat) (M : G → KL) (l0 : KL) (O : G → HL) (V : G → View) (I : G → Prop) (μ : G → Nat) (n : Nat) (c : Cx) (g : G) (a : Act) (w : World) : Prop :=
  ∃ g', LDat M l0 O V I n c g' a w ∧ μ g' < μ g
/-- ks: the slots that a round may write; M: what is known of them at a round's head. -/
theorem K_loopD {G : Type} (ks : List Nat) (M : G → KL) (O : HL → G → HL) (V : G → View) (I : G → Prop) (μ : G → Nat) (g : G) {code : Code} (hI : I g) (hs : subs (M g) l) (hd : del ks l = l0) (ho : hl = O hl g) (hV : H = V g)
    (round : ∀ g, I g → KC P n c code (Exit.then (LDnext ks M l0 (O hl) V I μ n c g) Q) (M g ++ l0) (O hl g) (V g)) : KC P n c (.loop code) Q l hl H := by
  intro ρ w hm hok
  refine wp_loop_g (LDat M l0 (O hl) V I n c) μ (g₀ := g) ⟨hI, ρ, rfl, hm.loop hs hd, hV ▸ ho ▸ hok⟩ ?_
  rintro g a w ⟨hI, ρ, rfl, hm, hok⟩
  exact round g hI ρ w hm hok
theorem Q_nextD {G : Type} {ks : List Nat} {M : G → KL} {O : G → HL} {V : G → View} {I : G → Prop} {μ : G → Nat} {g : G} (g' : G) (hI : I g') (hμ : μ g' < μ g) (hs : subs (M g') l) (hd : del ks l = l0) (ho : hl = O g') (hV : H = V g') :
    KQ n c (Exit.then (LDnext ks M l0 O V I μ n c g) Q) .normal l hl H := by
  intro ρ w hm hok
  exact ⟨g', ⟨hI, ρ, rfl, hm.loop hs hd, hV ▸ ho ▸ hok⟩, hμ⟩
end
end Pal

/-
  Appends to an empty literal; slices of slices. Own work. No statement of the seat is proved here.
-/
namespace Pal
open Go
section
variable {P : Program} {n : Nat} {c : Cx} {Q : Exit → Act → World → Prop} {l : KL} {hl : HL} {H : View} {keep : HL} {fin : Bool}
variable {ol : List Oper} {ops : Array Oper} {rest : List Oper} {R : List Nat} {T : ST} {d : Nat} {op : Op} {ty : TypeId} {pos : String} {aft : Array Edge} {g : Option (Nat × Bool)} {v : Value}
/-- An empty literal's block is a row. -/
theorem Has.row0 {w : World} {b : Nat} {e : TypeId} {sz : Nat} {r : HL} (h : Has w H (blk b (.cells #[] e (0, 0)) :: r)) : Has w H (row (slc 0 b) e sz 0 [] :: r) := by
  have hb : w.heap[b]? = some (.cells #[] e (0, 0)) := h.own _ List.mem_cons_self
  refine ⟨h.has, ?_, fun k hk => h.foot k (by simpa [feet, row, rowFoot, blk, slc] using hk), by simpa [feet, row, rowFoot, blk, slc] using h.nd⟩
  intro en hen
  rcases List.mem_cons.1 hen with rfl | hen
  · exact ⟨by simp, .inr ⟨b, 0, #[], rfl, hb, Nat.le_refl _, by decide, by simp, by simp⟩⟩
  · exact h.own en (List.mem_cons_of_mem _ hen)
theorem Ok.row0 {w : World} {b : Nat} {e : TypeId} {sz : Nat} {r : HL} (h : Ok c w H (blk b (.cells #[] e (0, 0)) :: r)) : Ok c w H (row (slc 0 b) e sz 0 [] :: r) :=
  ⟨h.os, h.tape, h.output, h.drawn, h.size, h.old, h.vold, h.le, h.has, (Has.row0 h.hasL).own, fun k hk => h.foot k (by simpa [feet, row, rowFoot, blk, slc] using hk), by simpa [feet, row, rowFoot, blk, slc] using h.nd⟩
theorem KO_row0 {b : Nat} {e : TypeId} (sz : Nat) {r : HL} (h : KO P n c ops Q rest l (row (slc 0 b) e sz 0 [] :: r) H) : KO P n c ops Q rest l (blk b (.cells #[] e (0, 0)) :: r) H := fun ρ w hm ho => h ρ w hm ho.row0
theorem run_append_ty {t t' e e' ty : TypeId} (hs : slcOk P t e) (hs' : slcOk P t' e') (args : Array Value) (w : World) : (Builtin.append_ #[t, t'] ty args).run P w = (Builtin.append_ #[t, t] ty args).run P w := by
  unfold Builtin.append_
  cases h0 : args[0]? with
  | none => rfl
  | some s => cases h1 : args[1]? with
    | none => rfl
    | some x =>
      simp only [List.getElem?_toArray, List.getElem?_cons_zero, List.getElem?_cons_succ, Sem.run_bind, run_underlying hs, Result.andThen_ok]
      cases s with
      | slice base sLen sCap =>
        simp only [Sem.run_bind]
        cases (Go.sizeOf e).run P w with
        | ok size w1 =>
          simp only [Result.andThen_ok, run_underlying hs, run_underlying hs', Sem.run_pure]
        | _ => rfl
      | _ => rfl
theorem Eff.append_ty {t t' e e' : TypeId} {x y : Operand} {p : HL} {post : Value → View → HL → Prop} (hs : slcOk P t e) (hs' : slcOk P t' e') (hx : ∃ v, ev l x = some v) (hy : ∃ v, ev l y = some v)
    (h : Eff P l H p (.call ⟨.builtin .append, #[x, y], #[t, t]⟩) ty post) : Eff P l H p (.call ⟨.builtin .append, #[x, y], #[t, t']⟩) ty post := by
  intro e2 w hk ho
  obtain ⟨vx, hx⟩ := hx
  obtain ⟨vy, hy⟩ := hy
  have := h e2 w hk ho
  have he : (ex e2 (.call ⟨.builtin .append, #[x, y], #[t, t']⟩) ty).run P w = (ex e2 (.call ⟨.builtin .append, #[x, y], #[t, t]⟩) ty).run P w := by
    have := run_append_ty (ty := ty) hs hs' #[vx, vy] w
    simp [ex, execOp, resolve, invoke, builtin, hk x _ hx, hk y _ hy]
    rw [this]
  rw [he]
  exact this
/-- append(E{}, y...), y read through the view. -/
theorem E_append0 {x y : Operand} {t t' e : TypeId} {sz bytes m b : Nat} {news : List Value} {u : Value} (hA : App P t e sz bytes) (ht' : slcOk P t' e) (hx : ev l x = some (slc 0 b)) (hy : ev l y = some u)
    (hu : SlAt H u m news) (hl' : news.length = m * sz) (h1 : news.all Value.oneCell' = true) (hb : m * bytes ≤ 140737488355328 ∧ m ≤ 140737488355328) :
    Eff P l H [blk b (.cells #[] e (0, 0))] (.call ⟨.builtin .append, #[x, y], #[t, t']⟩) ty fun v' H' q => ∃ a cap, v' = .slice a m cap ∧ H' = H ∧ q = [row v' e sz m news] := by
  refine Eff.append_ty hA.s ht' ⟨_, hx⟩ ⟨_, hy⟩ ?_
  intro e2 w hk ho
  have ho' : Has w H [row (slc 0 b) e sz 0 []] := Has.row0 ho
  have key : ∀ {u : Value} {m : Nat}, ev l y = some u → (u = .slice none 0 0 ∧ m = 0 ∧ news = [] ∨ ∃ b off cp, u = .slice (some ⟨b, off, none⟩) m cp ∧ At H b off news) → news.length = m * sz → m * bytes ≤ 140737488355328 ∧ m ≤ 140737488355328 →
      Upon P ((ex e2 (.call ⟨.builtin .append, #[x, y], #[t, t]⟩) ty).run P w) fun v w' => ∃ H' q, Ok ⟨w, H, feet [blk b (.cells #[] e (0, 0))]⟩ w' H' q ∧ ∃ a cap, v = .slice a m cap ∧ H' = H ∧ q = [row v e sz m news] := by
    intro u m hy hu hl' hb
    have h := E_appendH (P := P) (ty := ty) (k := 0) (xs := []) (v := slc 0 b) hA hx hy hu hl' h1 ⟨by simpa using hb.1, by simpa using hb.2⟩ e2 w hk ho'
    refine h.mono ?_
    rintro v w' ⟨H', q, hok, a, cap, rfl, rfl, rfl, _⟩
    refine ⟨H', _, ?_, a, cap, by simp, rfl, rfl⟩
    simpa [feet, row, rowFoot, blk, slc] using hok
  obtain ⟨a, cap, rfl, h2⟩ := hu
  rcases h2 with ⟨rfl, rfl⟩ | ⟨b', off, rfl, hAt⟩
  · obtain ⟨i, z, hi, hz, hs, hzs, hby⟩ := hA.i
    have hf : (Builtin.firstCells i.size 0 (.slice a 0 cap)).run P w = .ok #[] w := by
      cases a <;> simp [Builtin.firstCells, loadCells, loadCellsFrom]
    have hr : (Builtin.append_ #[t, t] ty #[slc 0 b, .slice a 0 cap]).run P w = .ok (slc 0 b) w := by
      simp [slc, Builtin.append_, run_underlying hA.s, Go.sizeOf, typeInfo, hi, Builtin.lenOf, hf, storeCells]
    have hrun : (ex e2 (.call ⟨.builtin .append, #[x, y], #[t, t]⟩) ty).run P w = .ok (.value (slc 0 b)) w := by
      simp [ex, execOp, resolve, invoke, builtin, hk x _ hx, hk y _ hy]
      rw [hr]; rfl
    rw [hrun]
    refine ⟨H, [row (slc 0 b) e sz 0 []], ?_, some ⟨b, 0, none⟩, 0, rfl, rfl, rfl⟩
    simpa [feet, row, rowFoot, blk, slc] using Has.ok ho'
  · exact key hy (.inr ⟨b', off, cap, rfl, hAt⟩) hl' hb
theorem D_append0 {x y : Operand} {t t' e : TypeId} {sz bytes m b i : Nat} {news : List Value} {u : Value} (j : Nat) (hA : App P t e sz bytes) (ht' : slcOk P t' e)
    (ho : nthO ol i = some ⟨some d, .call ⟨.builtin .append, #[x, y], #[t, t']⟩, ty, pos, aft, g⟩) (hw : wlO ol l g = some true) (hx : ev l x = some (slc 0 b)) (hy : ev l y = some u)
    (hi : hl[j]? = some (blk b (.cells #[] e (0, 0)))) (hkp : memAll keep (hl.eraseIdx j)) (hu : SlAt H u m news) (hl' : news.length = m * sz) (h1 : news.all Value.oneCell' = true) (hb : m * bytes ≤ 140737488355328 ∧ m ≤ 140737488355328)
    (h : ∀ a cap, KD P n ol.toArray keep fin T R ((d, .slice a m cap) :: l) (row (.slice a m cap) e sz m news :: hl.eraseIdx j) H) : KD P n ol.toArray keep fin T (i :: R) l hl H := by
  refine D_eff _ (hl.eraseIdx j) ho hw rfl (perm_erase hi) hkp.mem (E_append0 hA ht' hx hy hu hl' h1 hb) ?_
  rintro v' H' q _ ⟨a, cap, rfl, rfl, rfl⟩
  exact h a cap
end
end Pal

/-
  Slices that may be read, whether they lie in the view or are owned; the reference's subset construction in plain lists. Own work. No statement of the seat is proved here.
-/
namespace Pal
open Go
section
variable {P : Program} {n : Nat} {c : Cx} {Q : Exit → Act → World → Prop} {l : KL} {hl : HL} {H : View} {ops : Array Oper} {rest : List Oper}
/-- A slice's cells can be read by whoever holds p. -/
structure Rd (H : View) (p : HL) (v : Value) (n : Nat) (cells : List Value) : Prop where
  sh : ∃ a cap, v = .slice a n cap ∧ (n = 0 ∨ ∃ b off, a = some ⟨b, off, none⟩)
  rd : ∀ a k cap, v = .slice (some a) k cap → ∀ w, Has w H p → ∀ j u, cells[j]? = some u → w.cell? (a.add j) = some u
theorem Rd.mono {H H' : View} {p : HL} {v : Value} {n : Nat} {cells : List Value} (h : Rd H p v n cells) (hle : VLe H H') : Rd H' p v n cells :=
  ⟨h.sh, fun a k cap hv w hh => h.rd a k cap hv w (hh.le hle)⟩
theorem SlAt.rd {H : View} {v : Value} {n : Nat} {cells : List Value} (h : SlAt H v n cells) : Rd H [] v n cells := by
  obtain ⟨a, cap, rfl, h2⟩ := h
  constructor
  · refine ⟨a, cap, rfl, ?_⟩
    rcases h2 with ⟨rfl, _⟩ | ⟨b, off, rfl, _⟩
    · exact .inl rfl
    · exact .inr ⟨b, off, rfl⟩
  · intro a' k cap' hv w hw j u hj
    cases hv
    rcases h2 with ⟨rfl, rfl⟩ | ⟨b, off, hb, hA⟩
    · simp at hj
    · cases hb
      exact hA.cell hw.has j u hj
theorem Has.sub {w : World} {H : View} {hl p : HL} (h : Has w H hl) (hp : ∃ r, hl.Perm (p ++ r)) : Has w H p := by
  obtain ⟨r, hr⟩ := hp
  exact (h.perm hr).left
theorem permSelf (p : HL) : ∃ r, p.Perm (p ++ r) := ⟨[], by rw [List.append_nil]⟩
theorem permCons {a : Own} {hl p : HL} (h : ∃ r, hl.Perm (p ++ r)) : ∃ r, (a :: hl).Perm (p ++ r) := by
  obtain ⟨r, hr⟩ := h
  exact ⟨a :: r, (hr.cons a).trans List.perm_middle.symm⟩
end

theorem Rd.open' {H : View} {p : HL} {a : Option Addr} {n cap : Nat} {cells : List Value} (h : Rd H p (.slice a n cap) n cells) (hn : 0 < n) : ∃ b off, a = some ⟨b, off, none⟩ := by
  obtain ⟨a', cap', he, h2⟩ := h.sh
  cases he
  rcases h2 with h2 | h2
  · omega
  · exact h2

/-! ### The reference's functions -/
def ofM (l : List (List Int)) (xs : List Int) : List (List Int) := xs.map fun i => l.getD i.toNat []
/-- All tuples of m numbers below k. -/
def tups (k : Nat) : Nat → List (List Int)
  | 0 => [[]]
  | m + 1 => (tups k m).flatMap fun xs => (List.range k).map fun (j : Nat) => xs ++ [(j : Int)]
/-- Whether a rule fits: its operands are in the given sets. -/
def hasAll (l : List (List Int)) (args : List Int) (k : Nat) : Bool := (List.range k).all fun i => decide (args.getD i 0 ∈ l.getD i [])
def fitR (sym s : Int) (l : List (List Int)) (r : Rl) : Bool := decide (r.sym = sym ∧ r.to = s) && hasAll l r.args l.length
def refNext (a : Au) (sym : Int) (l : List (List Int)) : List Int := ((List.range a.states.toNat).filter fun (s : Nat) => a.rules.any (fitR sym (s : Int) l)).map fun (s : Nat) => (s : Int)
def refStep (a : Au) (sym : Int) (out : List (List Int)) (xs : List Int) : List (List Int) :=
  if refNext a sym (ofM out xs) ∈ out then out else out ++ [refNext a sym (ofM out xs)]
def refSteps (a : Au) (sym : Int) (xss : List (List Int)) (out : List (List Int)) : List (List Int) := xss.foldl (refStep a sym) out
def refSyms (a : Au) (was : Nat) : List Int → Int → List (List Int) → List (List Int)
  | [], _, out => out
  | r :: rs, sym, out => refSyms a was rs (sym + 1) (refSteps a sym (tups was r.toNat) out)
def refRounds (a : Au) : Nat → Int → List (List Int) → List (List Int)
  | 0, _, out => out
  | f + 1, was, out => if was < out.length then refRounds a f out.length (refSyms a out.length a.ranks 0 out) else out
end Pal

/-
  Plain lemmas on the reference's subset construction: how many subsets there are, steps and rounds. Own work. No statement of the seat is proved here.
-/
namespace Pal
open Go
/-- Pigeonhole. -/
theorem nodup_le : ∀ {n : Nat} {l : List Nat}, l.Nodup → (∀ x ∈ l, x < n) → l.length ≤ n
  | 0, l, _, h => by cases l with
    | nil => simp
    | cons a r => exact absurd (h a (by simp)) (by omega)
  | n + 1, l, hn, h => by
    by_cases hm : n ∈ l
    · have h1 := nodup_le (n := n) (l := l.erase n) (hn.erase n) (fun x hx => by
        have h2 := h x (List.mem_of_mem_erase hx)
        have h3 : x ≠ n := fun e => by subst e; exact (List.Nodup.not_mem_erase hn) hx
        omega)
      rw [List.length_erase_of_mem hm] at h1
      omega
    · have := nodup_le (n := n) hn (fun x hx => by
        have h2 := h x hx
        have h3 : x ≠ n := fun e => hm (e ▸ hx)
        omega)
      omega
def subL (m : Nat) (p : Nat → Bool) : List Int := ((List.range m).filter p).map fun (s : Nat) => (s : Int)
def codeL (m : Nat) (xs : List Int) : Nat := (List.range m).foldl (fun acc (s : Nat) => 2 * acc + (if (s : Int) ∈ xs then 1 else 0)) 0
theorem codeL_lt (m : Nat) (xs : List Int) : codeL m xs < 2 ^ m := by
  unfold codeL
  induction m with
  | zero => simp
  | succ m ih =>
    rw [List.range_succ, List.foldl_append, List.foldl_cons, List.foldl_nil, Nat.pow_succ]
    split <;> omega
theorem codeL_inj {m : Nat} {xs ys : List Int} (h : codeL m xs = codeL m ys) : ∀ s, s < m → ((s : Int) ∈ xs ↔ (s : Int) ∈ ys) := by
  unfold codeL at h
  induction m with
  | zero => intro s hs; omega
  | succ m ih =>
    rw [List.range_succ, List.foldl_append, List.foldl_append, List.foldl_cons, List.foldl_nil, List.foldl_cons, List.foldl_nil] at h
    intro s hs
    by_cases e : s = m
    · subst e
      by_cases h1 : (s : Int) ∈ xs <;> by_cases h2 : (s : Int) ∈ ys <;> simp [h1, h2] at h ⊢ <;> omega
    · refine ih ?_ s (by omega)
      split at h <;> split at h <;> omega
theorem mem_subL {m : Nat} {p : Nat → Bool} {s : Nat} : (s : Int) ∈ subL m p ↔ s < m ∧ p s = true := by
  simp only [subL, List.mem_map, List.mem_filter, List.mem_range]
  constructor
  · rintro ⟨t, ⟨h1, h2⟩, h3⟩
    have : t = s := by omega
    subst this; exact ⟨h1, h2⟩
  · rintro ⟨h1, h2⟩; exact ⟨s, ⟨h1, h2⟩, rfl⟩
theorem subL_congr {m : Nat} {p q : Nat → Bool} (h : ∀ s, s < m → p s = q s) : subL m p = subL m q := by
  unfold subL
  congr 1
  exact List.filter_congr fun s hs => h s (List.mem_range.1 hs)
theorem subL_code {m : Nat} {p q : Nat → Bool} (h : codeL m (subL m p) = codeL m (subL m q)) : subL m p = subL m q := by
  refine subL_congr fun s hs => ?_
  have := codeL_inj h s hs
  rw [mem_subL, mem_subL] at this
  simp only [hs, true_and] at this
  cases h1 : p s <;> cases h2 : q s <;> simp_all
structure RefOk (a : Au) (out : List (List Int)) : Prop where
  nd : out.Nodup
  sub : ∀ x ∈ out, ∃ p, x = subL a.states.toNat p
theorem RefOk.len {a : Au} {out : List (List Int)} (h : RefOk a out) (ha : a.states ≤ 6) : out.length ≤ 64 := by
  have h1 : (out.map (codeL a.states.toNat)).Nodup := by
    refine List.Pairwise.map _ (fun x y hxy => ?_) (List.Pairwise.and_mem.1 h.nd)
    intro e
    obtain ⟨p, rfl⟩ := h.sub x hxy.1
    obtain ⟨q, rfl⟩ := h.sub y hxy.2.1
    exact hxy.2.2 (subL_code e)
  have h2 := nodup_le (n := 64) h1 (fun x hx => by
    obtain ⟨y, _, rfl⟩ := List.mem_map.1 hx
    have := codeL_lt a.states.toNat y
    have h3 : 2 ^ a.states.toNat ≤ 2 ^ 6 := Nat.pow_le_pow_right (by decide) (by omega)
    omega)
  simpa using h2
theorem RefOk.nil (a : Au) : RefOk a [] := ⟨.nil, by simp⟩
theorem RefOk.snoc {a : Au} {out : List (List Int)} (h : RefOk a out) {sym : Int} {l : List (List Int)} (hn : ¬ refNext a sym l ∈ out) : RefOk a (out ++ [refNext a sym l]) := by
  refine ⟨?_, ?_⟩
  · rw [List.nodup_append]
    refine ⟨h.nd, by simp, ?_⟩
    intro x hx y hy e
    simp at hy; subst hy; subst e; exact hn hx
  · intro x hx
    rcases List.mem_append.1 hx with hx | hx
    · exact h.sub x hx
    · simp at hx; subst hx; exact ⟨_, rfl⟩
theorem all_succ {α : Type} {f : α → Bool} {xs : List α} {k : Nat} (hk : k < xs.length) : (xs.take (k + 1)).all f = ((xs.take k).all f && f xs[k]) := by
  rw [List.take_succ_eq_append_getElem hk, List.all_append]; simp only [List.all_cons, List.all_nil, Bool.and_true]
section
variable {P : Program} {n : Nat} {c : Cx} {Q : Exit → Act → World → Prop} {l : KL} {hl : HL} {H : View}
theorem KC_pubrow {v : Value} {e : TypeId} {sz k : Nat} {xs : List Value} {code : Code} (hnew : c.pass = []) (h : ∀ H', VLe H H' → rowAt H' v k xs → KC P n c code Q l hl H') : KC P n c code Q l (row v e sz k xs :: hl) H := by
  intro ρ w hm ho
  obtain ⟨H', h1, h2, h3⟩ := ho.pubrow (fun b _ hb => by rw [hnew] at hb; cases hb)
  exact h H' h1 h2 ρ w hm h3
end
theorem take_ints_snoc {α : Type} {f : α → Int} {xs : List α} {k : Nat} (hk : k < xs.length) : ints ((xs.take (k + 1)).map f) = ints ((xs.take k).map f) ++ [.int .i64 (f xs[k])] := by
  rw [take_map_succ hk, ints_snoc]
theorem SB.shape {H : View} {v : Value} {xs : List Bool} (h : SB H v xs) : ∃ a cap, v = .slice a xs.length cap := by
  obtain ⟨a, cap, h, _⟩ := h; exact ⟨a, cap, h⟩
theorem SB.mono {H H' : View} {v : Value} {xs : List Bool} (h : SB H v xs) (hle : VLe H H') : SB H' v xs := SlAt.mono h hle
end Pal

/-
  The program's subset construction is the reference's: steps, rounds, the whole. Own work. No statement of the seat is proved here.
-/
namespace Pal
open Go
def rankN (a : Au) (s : Nat) : Nat := (a.ranks.getD s 0).toNat
/-- A tuple of operands for symbol s below n subsets. -/
def Fits (a : Au) (s n : Nat) (args : List Int) : Prop := s < a.ranks.length ∧ args.length = rankN a s ∧ ∀ x ∈ args, 0 ≤ x ∧ x < (n : Int)
theorem Fits.rank {a : Au} (haok : AuOk a) {s n : Nat} {args : List Int} (h : Fits a s n args) : args.length ≤ 2 ∧ ∀ r ∈ a.rules, r.sym = (s : Int) → r.args.length = args.length := by
  obtain ⟨h1, h2, _⟩ := h
  have h3 := haok.rk s h1
  have h4 : a.ranks.getD s 0 = a.ranks[s] := by simp [List.getD, h1]
  refine ⟨?_, fun r hr hs => ?_⟩
  · rw [h2, rankN, h4]; omega
  · have h5 := (haok.ru r hr).2.2.1
    rw [hs, Int.toNat_natCast] at h5
    rw [h2, rankN, ← h5]
    omega
theorem Fits.mono {a : Au} {s n m : Nat} {args : List Int} (h : Fits a s n args) (hnm : n ≤ m) : Fits a s m args := ⟨h.1, h.2.1, fun x hx => by have := h.2.2 x hx; omega⟩
def KeysLe (st st' : DS) : Prop := ∀ k n, lookM st.res k = some n → lookM st'.res k = some n
theorem KeysLe.refl (st : DS) : KeysLe st st := fun _ _ h => h
theorem KeysLe.trans {a b c : DS} (h : KeysLe a b) (k : KeysLe b c) : KeysLe a c := fun x n hx => k x n (h x n hx)
theorem RefOk.step {a : Au} {out : List (List Int)} (h : RefOk a out) (sym : Int) (xs : List Int) : RefOk a (refStep a sym out xs) := by
  unfold refStep
  split
  · exact h
  · rename_i hn; exact h.snoc hn
theorem RefOk.steps {a : Au} (sym : Int) : ∀ (xss : List (List Int)) {out : List (List Int)}, RefOk a out → RefOk a (refSteps a sym xss out)
  | [], _, h => h
  | x :: xs, _, h => RefOk.steps sym xs (h.step sym x)
theorem RefOk.syms {a : Au} (was : Nat) : ∀ (rs : List Int) (sym : Int) {out : List (List Int)}, RefOk a out → RefOk a (refSyms a was rs sym out)
  | [], _, _, h => h
  | _ :: rs, sym, _, h => RefOk.syms was rs (sym + 1) (h.steps sym _)
theorem RefOk.rounds {a : Au} : ∀ (f : Nat) (was : Int) {out : List (List Int)}, RefOk a out → RefOk a (refRounds a f was out)
  | 0, _, _, h => h
  | f + 1, was, out, h => by
    rw [refRounds]
    split
    · exact RefOk.rounds f _ (h.syms _ _ _)
    · exact h
theorem RepDt.nil (H : View) : RepDt H ⟨[], [], []⟩ nilS nilS nilS := ⟨⟨⟨none, 0, rfl, .inl ⟨rfl, rfl⟩⟩, by simp⟩, ⟨none, 0, rfl, .inl ⟨rfl, rfl⟩⟩, SSI.nil _ none 0⟩
def DtSmall (d : Dt) : Prop := d.ranks.length ≤ 1099511627776 ∧ d.acc.length ≤ 1099511627776 ∧ d.to.length ≤ 1099511627776 ∧ ∀ x ∈ d.to, x.length ≤ 1099511627776
theorem DtSmall.nil : DtSmall ⟨[], [], []⟩ := ⟨by simp, by simp, by simp, by simp⟩
end Pal

/-
  Deterministic automata and trees asx plain data: what is wrong with them, runs, relabelings. Own work. No statement of the seat is proved here.
-/
namespace Pal
open Go
section
variable {P : Program} {l : KL} {hl : HL} {H : View} {ty : TypeId}
theorem R_max2 {x y : Operand} {ats : Array TypeId} {a b : Int} {k : IntKind} (hx : ev l x = some (.int k a)) (hy : ev l y = some (.int k b)) : ValOk P l H hl (.call ⟨.builtin .max, #[x, y], ats⟩) ty (.int k (if b > a then b else a)) := by
  intro e w hk _
  simp only [ex, execOp, resolve, hk x _ hx, hk y _ hy, invoke, builtin]
  simp [Builtin.max_, Builtin.max2, hk x _ hx, hk y _ hy]
end
theorem bools_one (xs : List Bool) : (bools xs).all Value.oneCell' = true := by
  induction xs with
  | nil => rfl
  | cons x r ih => exact ih
/-! ### Trees over an alphabet -/
mutual
def Tr.nodesErr (rk : List Int) : Tr → Int
  | .node s ts => if s < 0 ∨ (rk.length : Int) ≤ s then 6 else if (ts.length : Int) ≠ rk.getD s.toNat 0 then 3 else Tr.nodesErrs rk ts
def Tr.nodesErrs (rk : List Int) : List Tr → Int
  | [] => 0
  | t :: r => if Tr.nodesErr rk t ≠ 0 then Tr.nodesErr rk t else Tr.nodesErrs rk r
end
theorem Tr.nodesErrs_zero {rk : List Int} : ∀ {ts : List Tr}, Tr.nodesErrs rk ts = 0 ↔ ∀ t ∈ ts, Tr.nodesErr rk t = 0
  | [] => by simp [Tr.nodesErrs]
  | t :: r => by
    simp only [Tr.nodesErrs, List.mem_cons, forall_eq_or_imp]
    by_cases h : Tr.nodesErr rk t = 0
    · simp [h, Tr.nodesErrs_zero (ts := r)]
    · simp [h]
theorem Tr.nodesErr_zero {rk : List Int} {s : Int} {ts : List Tr} : Tr.nodesErr rk (.node s ts) = 0 ↔ (0 ≤ s ∧ s < rk.length) ∧ (ts.length : Int) = rk.getD s.toNat 0 ∧ ∀ t ∈ ts, Tr.nodesErr rk t = 0 := by
  simp only [Tr.nodesErr]
  by_cases h : s < 0 ∨ (rk.length : Int) ≤ s
  · rw [if_pos h]
    constructor
    · intro h2; omega
    · rintro ⟨h1, _⟩; omega
  · rw [if_neg h]
    by_cases h2 : (ts.length : Int) = rk.getD s.toNat 0
    · rw [if_neg (by omega), Tr.nodesErrs_zero]
      constructor
      · intro h3; exact ⟨by omega, h2, h3⟩
      · rintro ⟨_, _, h3⟩; exact h3
    · rw [if_pos h2]
      constructor
      · intro h3; omega
      · rintro ⟨_, h3, _⟩; exact absurd h3 h2
def widthBad (d : Dt) : Bool := (List.range d.to.length).any fun s => decide ((d.to.getD s []).length ≠ d.acc.length ^ (d.ranks.getD s 0).toNat)
def entryBad (d : Dt) : Bool := d.to.any fun l => l.any (badQ d.acc.length)
def dtErr (d : Dt) : Int :=
  if ranksErr d.ranks ≠ 0 then ranksErr d.ranks else if (d.acc.length : Int) < 1 ∨ (512 : Int) < d.acc.length then 2 else if (d.to.length : Int) ≠ d.ranks.length then 3
  else if widthBad d = true then 3 else if entryBad d = true then 2 else 0
theorem ranksErr_ok {rk : List Int} (h : ranksErr rk = 0) : (1 ≤ rk.length ∧ rk.length ≤ 4096) ∧ ∀ s (hs : s < rk.length), 0 ≤ rk[s] ∧ rk[s] ≤ 2 := by
  unfold ranksErr at h
  split at h
  · cases h
  · split at h
    · cases h
    · rename_i h1 h2
      refine ⟨by omega, fun s hs => ?_⟩
      have h3 := List.any_eq_false.1 (Bool.eq_false_iff.2 h2) _ (List.getElem_mem hs)
      simp only [decide_eq_true_eq] at h3
      omega
structure DtOk (d : Dt) : Prop where
  rk : ranksErr d.ranks = 0
  n : 1 ≤ d.acc.length ∧ d.acc.length ≤ 512
  tl : d.to.length = d.ranks.length
  w : ∀ s, s < d.ranks.length → (d.to.getD s []).length = d.acc.length ^ (d.ranks.getD s 0).toNat
  e : ∀ x ∈ d.to, ∀ q ∈ x, 0 ≤ q ∧ q < d.acc.length
theorem DtOk.of {d : Dt} (h : dtErr d = 0) : DtOk d := by
  unfold dtErr at h
  split at h
  · rename_i h1; exact absurd h h1
  · split at h
    · cases h
    · split at h
      · cases h
      · split at h
        · cases h
        · split at h
          · cases h
          · rename_i h1 h2 h3 h4 h5
            have htl : d.to.length = d.ranks.length := by omega
            refine ⟨Decidable.not_not.1 h1, by omega, htl, ?_, ?_⟩
            · intro s hs
              have := List.any_eq_false.1 (Bool.eq_false_iff.2 h4) s (List.mem_range.2 (by omega))
              simpa using this
            · intro x hx q hq
              have := List.any_eq_false.1 (Bool.eq_false_iff.2 h5) x hx
              have := List.any_eq_false.1 (Bool.eq_false_iff.2 this) q hq
              exact badQ_false (Bool.eq_false_iff.2 this)
theorem DtOk.err {d : Dt} (h : DtOk d) : dtErr d = 0 := by
  unfold dtErr
  have hn := h.n
  rw [if_neg (by rw [h.rk]; simp), if_neg (by omega), if_neg (by rw [h.tl]; simp)]
  have h4 : widthBad d = false := by
    unfold widthBad
    rw [List.any_eq_false]
    intro s hs
    have := h.w s (by have := List.mem_range.1 hs; rw [h.tl] at this; exact this)
    simp only [this, ne_eq, not_true_eq_false, decide_false]; simp
  have h5 : entryBad d = false := by
    unfold entryBad
    rw [List.any_eq_false]
    intro x hx
    rw [Bool.not_eq_true, List.any_eq_false]
    intro q hq
    have := h.e x hx q hq
    simp [badQ, this]
  rw [h4, h5]
  simp
/-- The place of operand states. -/
def placeM (n : Nat) (l : List Int) : Int := l.foldl (fun p s => p * (n : Int) + s) 0
theorem placeM_take {n : Nat} {l : List Int} {k : Nat} (hk : k < l.length) : placeM n (l.take (k + 1)) = placeM n (l.take k) * n + l[k] := by
  unfold placeM
  rw [List.take_succ_eq_append_getElem hk, List.foldl_append]; rfl
theorem placeM_lt {n : Nat} {l : List Int} (h : ∀ x ∈ l, 0 ≤ x ∧ x < (n : Int)) : ∀ k, k ≤ l.length → 0 ≤ placeM n (l.take k) ∧ placeM n (l.take k) < ((n ^ k : Nat) : Int)
  | 0, _ => by simp [placeM]
  | k + 1, hk => by
    obtain ⟨h1, h2⟩ := placeM_lt h k (by omega)
    obtain ⟨h3, h4⟩ := h _ (List.getElem_mem (show k < l.length by omega))
    rw [placeM_take (show k < l.length by omega)]
    have h5 : placeM n (l.take k) + 1 ≤ ((n ^ k : Nat) : Int) := by omega
    have h6 : (placeM n (l.take k) + 1) * (n : Int) ≤ ((n ^ k : Nat) : Int) * (n : Int) := Int.mul_le_mul_of_nonneg_right h5 (by omega)
    have h7 : (((n ^ (k + 1) : Nat)) : Int) = ((n ^ k : Nat) : Int) * (n : Int) := by rw [Nat.pow_succ]; exact Int.natCast_mul _ _
    have h8 : 0 ≤ placeM n (l.take k) * (n : Int) := Int.mul_nonneg h1 (by omega)
    rw [Int.add_mul, Int.one_mul] at h6
    exact ⟨by omega, by omega⟩
def atM (d : Dt) (sym : Int) (l : List Int) : Int := (d.to.getD sym.toNat []).getD (placeM d.acc.length l).toNat 0
mutual
def Tr.run (d : Dt) : Tr → Int
  | .node s ts => atM d s (Tr.runs d ts)
def Tr.runs (d : Dt) : List Tr → List Int
  | [] => []
  | t :: r => Tr.run d t :: Tr.runs d r
end
/-- Operands of a symbol: asx many asx its rank, all states. -/
theorem DtOk.at_ok {d : Dt} (h : DtOk d) {s : Int} {l : List Int} (hs : 0 ≤ s ∧ s < d.ranks.length) (hl : (l.length : Int) = d.ranks.getD s.toNat 0) (hx : ∀ x ∈ l, 0 ≤ x ∧ x < (d.acc.length : Int)) :
    s.toNat < d.to.length ∧ (0 ≤ placeM d.acc.length l ∧ (placeM d.acc.length l).toNat < (d.to.getD s.toNat []).length) ∧ 0 ≤ atM d s l ∧ atM d s l < d.acc.length := by
  have hs' : s.toNat < d.ranks.length := by omega
  have hw := h.w _ hs'
  have hp := placeM_lt hx l.length (Nat.le_refl _)
  rw [List.take_length] at hp
  have hr : (d.ranks.getD s.toNat 0).toNat = l.length := by omega
  rw [hr] at hw
  have hlt : (placeM d.acc.length l).toNat < (d.to.getD s.toNat []).length := by omega
  have htl : s.toNat < d.to.length := by rw [h.tl]; exact hs'
  have hg : d.to.getD s.toNat [] = d.to[s.toNat] := by simp [List.getD, htl]
  refine ⟨htl, ⟨hp.1, hlt⟩, ?_⟩
  unfold atM
  have hg2 : (d.to.getD s.toNat []).getD (placeM d.acc.length l).toNat 0 = (d.to.getD s.toNat [])[(placeM d.acc.length l).toNat] := by
    simp only [List.getD_eq_getElem?_getD (l := d.to.getD s.toNat []), List.getElem?_eq_getElem hlt, Option.getD_some]
  rw [hg2]
  exact h.e (d.to.getD s.toNat []) (hg ▸ List.getElem_mem htl) _ (List.getElem_mem hlt)
end Pal

/-
  Parts of slices; the reference's normal form of an automaton. Own work. No statement of the seat is proved here.
-/
namespace Pal
open Go
section
variable {P : Program} {n : Nat} {c : Cx} {Q : Exit → Act → World → Prop} {l : KL} {hl : HL} {H : View} {ops : Array Oper} {rest : List Oper} {ty : TypeId}
def hiV (a : Option Addr) (cap m : Nat) : Value := .slice (if cap = 0 then a else a.map (·.add 0)) m cap
def loV (a : Option Addr) (k cap m sz : Nat) : Value := .slice (if cap = m then a else a.map (·.add (m * sz))) (k - m) (cap - m)
theorem R_sliceHi {t e : TypeId} {x y : Operand} {a : Option Addr} {k cap m : Nat} {agg : Bool} {sz : Nat} (hS : slcOk P t e) (hT : Ty P e agg sz) (hx : ev l x = some (.slice a k cap)) (hy : ev l y = some (.int .i64 (m : Int))) (hc : m ≤ cap) :
    ValOk P l H hl (.slice t x none (some y) none) ty (hiV a cap m) := by
  intro e w hk _
  have hS' : P.underlying t = some (.slice _) := hS
  simp only [ex, execOp, Instr.sliceAt, Option.map_none, Option.map_some, hk x _ hx, hk y _ hy, Sem.run_bind, run_underlying hS', Result.andThen_ok]
  simp [Instr.slice, Instr.sliceBounds, run_underlying hS', Instr.sliceBound, asIntOf, hc, hT.run_sizeOf, hiV]
theorem R_sliceLo {t e : TypeId} {x y : Operand} {a : Option Addr} {k cap m : Nat} {agg : Bool} {sz : Nat} (hS : slcOk P t e) (hT : Ty P e agg sz) (hx : ev l x = some (.slice a k cap)) (hy : ev l y = some (.int .i64 (m : Int))) (hc : m ≤ k) :
    ValOk P l H hl (.slice t x (some y) none none) ty (loV a k cap m sz) := by
  intro e w hk _
  have hS' : P.underlying t = some (.slice _) := hS
  simp only [ex, execOp, Instr.sliceAt, Option.map_none, Option.map_some, hk x _ hx, hk y _ hy, Sem.run_bind, run_underlying hS', Result.andThen_ok]
  simp [Instr.slice, Instr.sliceBounds, run_underlying hS', Instr.sliceBound, asIntOf, hc, hT.run_sizeOf, loV]
theorem SlAt.hi {a : Option Addr} {k cap m sz : Nat} {cells : List Value} (h : SlAt H (.slice a k cap) k cells) (hm : m ≤ k) (hc : k ≤ cap) : SlAt H (hiV a cap m) m (cells.take (m * sz)) := by
  obtain ⟨a', cap', he, h2⟩ := h
  cases he
  refine ⟨_, _, rfl, ?_⟩
  rcases Nat.eq_zero_or_pos m with h0 | h0
  · subst h0; exact .inl ⟨rfl, by simp⟩
  · rcases h2 with ⟨h2, _⟩ | ⟨b, off, rfl, cs, T, fz, hb, hA⟩
    · omega
    · refine .inr ⟨b, off, ?_, cs, T, fz, hb, ?_⟩
      · rw [if_neg (by omega)]; simp [Addr.add]
      · intro j v hj
        rw [List.getElem?_take] at hj
        split at hj
        · exact hA j v hj
        · cases hj
theorem SlAt.lo {a : Option Addr} {k cap m sz : Nat} {cells : List Value} (h : SlAt H (.slice a k cap) k cells) (hl : cells.length = k * sz) (hm : m ≤ k) (hc : k ≤ cap) : SlAt H (loV a k cap m sz) (k - m) (cells.drop (m * sz)) := by
  obtain ⟨a', cap', he, h2⟩ := h
  cases he
  refine ⟨_, _, rfl, ?_⟩
  rcases Nat.eq_zero_or_pos (k - m) with h0 | h0
  · refine .inl ⟨h0, ?_⟩
    rw [List.drop_eq_nil_iff, hl]
    exact Nat.mul_le_mul_right _ (by omega)
  · rcases h2 with ⟨h2, _⟩ | ⟨b, off, rfl, hA⟩
    · omega
    · refine .inr ⟨b, off + m * sz, ?_, hA.sub ?_⟩
      · rw [if_neg (by omega)]; simp [addr_add]
      · intro j v hj
        rw [List.getElem?_drop] at hj
        exact hj
section
variable {keep : HL} {fin : Bool} {ol : List Oper} {R : List Nat} {T : ST} {d : Nat} {pos : String} {aft : Array Edge} {g : Option (Nat × Bool)}
end
end
theorem RepL.take {α : Type} {R : α → List Value → Prop} {sz : Nat} {xs : List α} {cells : List Value} (h : RepL R sz xs cells) (m : Nat) : RepL R sz (xs.take m) (cells.take (m * sz)) := by
  induction h generalizing m with
  | nil => simpa using RepL.nil
  | @cons x cs xs ys hx hl ht ih =>
    cases m with
    | zero => simpa using RepL.nil
    | succ m =>
      have e1 : cs.take ((m + 1) * sz) = cs := List.take_of_length_le (by rw [hl, Nat.add_mul]; omega)
      rw [List.take_succ_cons, List.take_append, e1, hl, show (m + 1) * sz - sz = m * sz by rw [Nat.add_mul]; omega]
      exact .cons hx hl (ih m)
theorem RepL.drop {α : Type} {R : α → List Value → Prop} {sz : Nat} {xs : List α} {cells : List Value} (h : RepL R sz xs cells) (m : Nat) : RepL R sz (xs.drop m) (cells.drop (m * sz)) := by
  induction h generalizing m with
  | nil => simpa using RepL.nil
  | @cons x cs xs ys hx hl ht ih =>
    cases m with
    | zero => simpa using RepL.cons hx hl ht
    | succ m =>
      have e1 : cs.drop ((m + 1) * sz) = [] := List.drop_of_length_le (by rw [hl, Nat.add_mul]; omega)
      rw [List.drop_succ_cons, List.drop_append, e1, List.nil_append, hl, show (m + 1) * sz - sz = m * sz by rw [Nat.add_mul]; omega]
      exact ih m
theorem RepR.one {H : View} {r : Rl} {cs : List Value} (h : RepR H r cs) : cs.all Value.oneCell' = true := by
  obtain ⟨a, cp, rfl, _⟩ := h; rfl
/-! ### Normal form -/
end Pal

/-
  Deterministic automata asx nondeterministic ones, their reachable states; visits whose state depends on the view. Own work. No statement of the seat is proved here.
-/
namespace Pal
open Go
theorem AuOk.err {a : Au} (h : AuOk a) (h0 : ranksErr a.ranks = 0) : auErr a = 0 := by
  have hst := h.st
  have hul := h.ul
  have hru : ∀ r ∈ a.rules, ruleErr a r = 0 := by
    intro r hr
    obtain ⟨h1, h2, h3, h4, h5, h6⟩ := h.ru r hr
    unfold ruleErr
    have hb : r.args.any (badQ a.states) = false := by
      rw [List.any_eq_false]; intro q hq; have := h4 q hq; simp [badQ, this]
    have hb2 : badQ a.states r.to = false := by simp [badQ, h5, h6]
    rw [if_neg (by omega), if_neg (by rw [h3]; simp), hb, hb2]
    simp
  have hfi : a.final.any (badQ a.states) = false := by
    rw [List.any_eq_false]; intro q hq; have := h.fi q hq; simp [badQ, this]
  have hrs : rulesErr a a.rules = 0 := rulesErr_zero fun j hj => hru _ (List.getElem_mem hj)
  unfold auErr
  rw [if_neg (by rw [h0]; simp), if_neg (by omega), if_neg (by rw [hrs]; simp), hfi]
  simp
def ones (out : List Int) : List (List Int) := out.map fun q => [q]
def States (d : Dt) (out : List Int) : Prop := ∀ q ∈ out, 0 ≤ q ∧ q < (d.acc.length : Int)
end Pal

/-
  Publishing what was handed over; a new element and the row published at once. Own work. No statement of the seat is proved here.
-/
namespace Pal
open Go
theorem Ok.pubrowF {c : Cx} {H : View} {hl : HL} {w : World} {v : Value} {e : TypeId} {sz k : Nat} {xs : List Value} (h : Ok c w H (row v e sz k xs :: hl)) :
    ∃ H', VLe H H' ∧ rowAt H' v k xs ∧ (∃ a cap, v = .slice a k cap ∧ k ≤ cap) ∧ Ok c w H' hl := by
  have hh : (row v e sz k xs).holds (heapOf w) := h.own _ List.mem_cons_self
  obtain ⟨hlen, hh⟩ := hh
  rcases hh with ⟨rfl, rfl⟩ | ⟨g, cap, cur, rfl, hg, hk, hcap, hsz, htake⟩
  · exact ⟨H, VLe.refl H, .inl ⟨rfl, rfl, List.eq_nil_of_length_eq_zero (by simpa using hlen)⟩, ⟨none, 0, rfl, Nat.le_refl _⟩, h.sublist (List.sublist_cons_self _ _)⟩
  · have h2 : Ok c w H (blk g (.cells cur e (0, 0)) :: hl) := by
      refine ⟨h.os, h.tape, h.output, h.drawn, h.size, h.old, h.vold, h.le, h.has, ?_, ?_, ?_⟩
      · intro en hen
        rcases List.mem_cons.1 hen with rfl | hen
        · exact hg
        · exact h.own en (List.mem_cons_of_mem _ hen)
      · intro b hb; exact h.foot b (by simpa [feet, row, rowFoot, blk] using hb)
      · simpa [feet, row, rowFoot, blk] using h.nd
    have hH : H g = none := (h.foot g (by simp [feet, row, rowFoot])).1
    refine ⟨vadd H g (.cells cur e (0, 0)), ?_, .inr ⟨g, cap, rfl, ⟨cur, e, (0, 0), by simp [vadd], ?_⟩⟩, ⟨_, cap, rfl, hk⟩, h2.publishF⟩
    · intro b o hb
      have : b ≠ g := fun e => by subst e; rw [hH] at hb; cases hb
      simp [vadd, this, hb]
    · intro j u hj
      rw [← htake, List.getElem?_take] at hj
      split at hj
      · simpa using hj
      · cases hj
section
variable {P : Program} {n : Nat} {c : Cx} {Q : Exit → Act → World → Prop} {l : KL} {hl : HL} {H : View} {ops : Array Oper} {rest : List Oper} {ty : TypeId}
theorem KO_pubrowF {v : Value} {e : TypeId} {sz k : Nat} {xs : List Value} (h : ∀ H', VLe H H' → rowAt H' v k xs → (∃ a cap, v = .slice a k cap ∧ k ≤ cap) → KO P n c ops Q rest l hl H') : KO P n c ops Q rest l (row v e sz k xs :: hl) H := by
  intro ρ w hm ho
  obtain ⟨H', h1, h2, h3, h4⟩ := ho.pubrowF
  exact h H' h1 h2 h3 ρ w hm h4
theorem Ok.publishLe {w : World} {b : Nat} {o : Obj} (h : Ok c w H (blk b o :: hl)) : VLe H (vadd H b o) := by
  have hb : H b = none := (h.foot b (by simp [feet, blk])).1
  intro k o' hk
  have : k ≠ b := fun e => by subst e; rw [hb] at hk; cases hk
  simp [vadd, this, hk]
theorem KQ_pubF {x : Exit} {b : Nat} {o : Obj} (h : ∀ H', VLe H H' → H' b = some o → KQ n c Q x l hl H') : KQ n c Q x l (blk b o :: hl) H :=
  fun ρ w hm ho => h (vadd H b o) ho.publishLe (vadd_self _ _ _) ρ w hm ho.publishF
theorem KO_pubF {b : Nat} {o : Obj} (h : ∀ H', VLe H H' → H' b = some o → KO P n c ops Q rest l hl H') : KO P n c ops Q rest l (blk b o :: hl) H :=
  fun ρ w hm ho => h (vadd H b o) ho.publishLe (vadd_self _ _ _) ρ w hm ho.publishF
theorem KC_pubF {code : Code} {b : Nat} {o : Obj} (h : ∀ H', VLe H H' → H' b = some o → KC P n c code Q l hl H') : KC P n c code Q l (blk b o :: hl) H :=
  fun ρ w hm ho => h (vadd H b o) ho.publishLe (vadd_self _ _ _) ρ w hm ho.publishF
section
variable {keep : HL} {fin : Bool} {ol : List Oper} {R : List Nat} {T : ST} {d : Nat} {pos : String} {aft : Array Edge} {g : Option (Nat × Bool)}
end
end
section
variable {P : Program} {n : Nat} {c : Cx} {Q : Exit → Act → World → Prop} {l : KL} {hl : HL} {H : View} {ops : Array Oper} {rest : List Oper} {ty : TypeId}
/-- append(x, y...), y readable by whoever holds p. -/
theorem E_appendRd {x y : Operand} {t t' e : TypeId} {sz bytes k m : Nat} {xs news : List Value} {v u : Value} {p : HL} (hA : App P t e sz bytes) (ht' : slcOk P t' e) (hx : ev l x = some v) (hy : ev l y = some u)
    (hrd : Rd H p u m news) (hl' : news.length = m * sz) (h1 : news.all Value.oneCell' = true) (hb : (k + m) * bytes ≤ 140737488355328 ∧ k + m ≤ 140737488355328) :
    Eff P l H (row v e sz k xs :: p) (.call ⟨.builtin .append, #[x, y], #[t, t']⟩) ty fun v' H' q => ∃ a cap, v' = .slice a (k + m) cap ∧ H' = H ∧ q = row v' e sz (k + m) (xs ++ news) :: p := by
  refine Eff.append_ty hA.s ht' ⟨_, hx⟩ ⟨_, hy⟩ ?_
  intro e2 w hk ho
  obtain ⟨i, z, hi, hz, hs, hzs, hby⟩ := hA.i
  have hown := ho.own _ List.mem_cons_self
  obtain ⟨a', cap', rfl⟩ := row_shape hown
  obtain ⟨a, cap, rfl, h2⟩ := hrd.sh
  have hp : Has w H p := ho.sub (permCons (permSelf p))
  have ho1 : Has w H [row (.slice a' k cap') e sz k xs] := Has.left (r := p) ho
  have hown' := row_owns.1 hown
  by_cases hm : m = 0
  · subst hm
    have hn : news = [] := by simpa using hl'
    subst hn
    have hf : (Builtin.firstCells i.size 0 (.slice a 0 cap)).run P w = .ok #[] w := by
      cases a <;> simp [Builtin.firstCells, loadCells, loadCellsFrom]
    have hcap : k ≤ cap' := by
      rcases hown.2 with ⟨h3, h4⟩ | ⟨g, cp, cur, h3, _, h4, _⟩
      · cases h3; omega
      · cases h3; exact h4
    have hr : (Builtin.append_ #[t, t] ty #[.slice a' k cap', .slice a 0 cap]).run P w = .ok (.slice a' k cap') w := by
      cases a' <;> simp [Builtin.append_, run_underlying hA.s, Go.sizeOf, typeInfo, hi, Builtin.lenOf, hf, storeCells, hcap]
    have hrun : (ex e2 (.call ⟨.builtin .append, #[x, y], #[t, t]⟩) ty).run P w = .ok (.value (.slice a' k cap')) w := by
      simp [ex, execOp, resolve, invoke, builtin, hk x _ hx, hk y _ hy]
      rw [hr]; rfl
    rw [hrun]
    exact ⟨H, row (.slice a' k cap') e sz k xs :: p, Has.ok ho, a', cap', rfl, rfl, by simp⟩
  · obtain ⟨b, off, rfl⟩ := h2.resolve_left hm
    obtain ⟨v', w', hr, hown2, hg, hblk, hnil⟩ := run_append_own2 (P := P) w t ty e i z sz hA.s hi hz hs hzs hA.pos _ k xs hown' _ m news (.inr ⟨_, cap, rfl, hrd.rd _ _ _ rfl w hp⟩) hl' (List.all_eq_true.1 h1) (by simp only [maxLen]; omega) (by rw [hby]; exact hb.1)
    have hrun : (ex e2 (.call ⟨.builtin .append, #[x, y], #[t, t]⟩) ty).run P w = .ok (.value v') w' := by
      simp [ex, execOp, resolve, invoke, builtin, hk x _ hx, hk y _ hy]
      rw [hr]; rfl
    rw [hrun]
    have hf := rowFoot_eq hown'
    have hf' := rowFoot_eq hown2
    have k1 : Ok ⟨w, H, feet [row (.slice a' k cap') e sz k xs]⟩ w' H [row v' e sz (k + m) (xs ++ news)] := by
      refine ok1 ho1 hg.1.os hg.1.tape hg.1.output hg.2 hg.1.size (fun q hq hn => hg.1.block q hq (fun e => hn ((hf.1 q).2 e.symm))) (row_owns.2 hown2) (fun b hb => ?_) hf'.2
      have hb' := (hf'.1 b).1 hb
      rcases hblk with h | h
      · exact .inl ((hf.1 b).2 (h ▸ hb'))
      · rw [h] at hb'; cases hb'; exact .inr (Nat.le_refl _)
    have k2 := Ok.call (c := ⟨w, H, feet (row (.slice a' k cap') e sz k xs :: p)⟩) (p := [row (.slice a' k cap') e sz k xs]) (r := p) (Has.ok (hl := row (.slice a' k cap') e sz k xs :: p) ho) k1
    obtain ⟨a2, c2, rfl⟩ := row_shape (row_owns.2 hown2)
    exact ⟨H, _, k2, a2, c2, rfl, rfl, rfl⟩
theorem K_appendRd0 {x y : Operand} {t t' e : TypeId} {sz bytes m b : Nat} {news : List Value} {u : Value} {p r : HL} {d : Nat} {pos : String} {aft : Array Edge} (hA : App P t e sz bytes) (ht' : slcOk P t' e) (hx : ev l x = some (slc 0 b)) (hy : ev l y = some u)
    (hp : hl.Perm (blk b (.cells #[] e (0, 0)) :: (p ++ r))) (hrd : Rd H p u m news) (hl' : news.length = m * sz) (h1 : news.all Value.oneCell' = true) (hb : m * bytes ≤ 140737488355328 ∧ m ≤ 140737488355328) (hdn : Nat.blt d n = true)
    (h : ∀ a cap, KO P n c ops Q rest ((d, .slice a m cap) :: l) (row (.slice a m cap) e sz m news :: (p ++ r)) H) :
    KO P n c ops Q (⟨some d, .call ⟨.builtin .append, #[x, y], #[t, t']⟩, ty, pos, aft, none⟩ :: rest) l hl H := by
  refine KO_perm _ hp ?_
  refine KO_row0 sz ?_
  refine KE (row (slc 0 b) e sz 0 [] :: p) r (by simp) (E_appendRd hA ht' hx hy hrd hl' h1 (by simpa using hb)) hdn ?_
  rintro v' H' q _ ⟨a, cap, rfl, rfl, rfl⟩
  simp only [Nat.zero_add, List.nil_append, List.cons_append]
  exact h a cap
end
/-! ### Places asx tuples -/
end Pal

/-
  Reachable states asx the program finds them: marks, steps. Own work. No statement of the seat is proved here.
-/
namespace Pal
open Go
theorem putCells_one {cs : Array Value} {off : Nat} {v : Value} (h : off < cs.size) : putCells cs off [v] = cs.setIfInBounds off v := by
  unfold putCells putL
  apply Array.ext'
  rw [Array.toList_setIfInBounds]
  have hl : off < cs.toList.length := by simpa using h
  simp only [List.length_cons, List.length_nil, Nat.zero_add]
  rw [List.set_eq_take_append_cons_drop, if_pos hl, List.append_assoc]
  rfl
def marks (n : Nat) (out : List Int) : Array Value := ((List.range n).map fun (q : Nat) => Value.bool (decide ((q : Int) ∈ out))).toArray
def findD (d : Dt) (s : Int) (out xs : List Int) : List Int := if atM d s xs ∈ out then out else out ++ [atM d s xs]
/-- Nodup, and states. -/
structure FoundOk (d : Dt) (out : List Int) : Prop where
  nd : out.Nodup
  st : States d out
theorem FoundOk.nil (d : Dt) : FoundOk d [] := ⟨.nil, fun q hq => by cases hq⟩
theorem FoundOk.len {d : Dt} {out : List Int} (h : FoundOk d out) : out.length ≤ d.acc.length := by
  have h1 : (out.map Int.toNat).Nodup := by
    refine List.Pairwise.map _ (fun x y hxy => ?_) (List.Pairwise.and_mem.1 h.nd)
    intro e
    have h1 := h.st x hxy.1
    have h2 := h.st y hxy.2.1
    exact hxy.2.2 (by omega)
  have := nodup_le h1 (fun x hx => by
    obtain ⟨y, hy, rfl⟩ := List.mem_map.1 hx
    have := h.st y hy
    show y.toNat < d.acc.length
    omega)
  simpa using this
theorem FoundOk.step {d : Dt} {out : List Int} {s : Int} {xs : List Int} (h : FoundOk d out) (hat : 0 ≤ atM d s xs ∧ atM d s xs < d.acc.length) : FoundOk d (findD d s out xs) := by
  unfold findD
  split
  · exact h
  · rename_i hm
    refine ⟨?_, ?_⟩
    · rw [List.nodup_append]
      refine ⟨h.nd, by simp, ?_⟩
      intro x hx y hy e
      simp at hy; subst hy; subst e; exact hm hx
    · intro q hq
      rcases List.mem_append.1 hq with hq | hq
      · exact h.st q hq
      · simp at hq; subst hq; exact hat
theorem made_one (v : Value) (n : Nat) : madeCells #[v] (n * 1) = (List.replicate n v).toArray := by
  apply Array.ext
  · simp [madeCells]
  · intro i h1 h2
    simp [madeCells, Nat.mod_one]
section
variable {P : Program} {n : Nat} {c : Cx} {Q : Exit → Act → World → Prop} {l : KL} {hl : HL} {H : View} {ops : Array Oper} {rest : List Oper}
theorem KO_rowshape {v : Value} {e : TypeId} {sz k : Nat} {xs : List Value} (i : Nat) (hi : hl[i]? = some (row v e sz k xs)) (h : subsV v k → KO P n c ops Q rest l hl H) : KO P n c ops Q rest l hl H := by
  intro ρ w hm ho
  have hh : (row v e sz k xs).holds (heapOf w) := ho.own _ (List.mem_of_getElem? hi)
  refine h ?_ ρ w hm ho
  rcases hh.2 with ⟨rfl, rfl⟩ | ⟨g, cap, _, rfl, _⟩
  · exact .inl ⟨rfl, rfl⟩
  · exact .inr ⟨g, cap, rfl⟩
end
theorem States.ok {d : Dt} {out : List Int} (h : States d out) (hn : d.acc.length ≤ 1048576) : ∀ x ∈ out, i64ok x := by
  intro x hx
  have := h x hx
  simp only [i64ok]; omega
end Pal

/-
  Building a deterministic automaton by two functions: digits of a place in a made block, calls of function values. Own work. No statement of the seat is proved here.
-/
namespace Pal
open Go
section
variable {P : Program} {n : Nat} {c : Cx} {Q : Exit → Act → World → Prop} {l : KL} {hl : HL} {H : View} {ops : Array Oper} {rest : List Oper} {ty : TypeId}
theorem E_callV {g : Operand} {xs : List Operand} {ats : Array TypeId} {f : FuncId} {captured vs : List Value} {post : Value → View → Prop}
    (hcal : callable P f = true) (hg : ev l g = some (.func (.func f) #[] captured.toArray)) (hxs : evs l xs = some vs) (hS : Sat P f ([] ++ vs ++ captured).toArray H post) :
    Eff P l H [] (.call ⟨.value g, xs.toArray, ats⟩) ty fun v H' q => q = [] ∧ post v H' := by
  intro e w hk ho
  refine Upon.mono (E_call (first := []) (captured := captured) (post := fun v H' _ => post v H') hcal hg hxs (by simpa [Sat] using hS) e w hk ho) ?_
  rintro v w' ⟨H', q, ho', hp⟩
  exact ⟨H', [], ho'.sublist (List.nil_sublist q), rfl, hp⟩
theorem K_callV {d : Nat} {pos : String} {aft : Array Edge} {g : Operand} {xs : List Operand} {ats : Array TypeId} {f : FuncId} {captured vs : List Value} {post : Value → View → Prop}
    (hcal : callable P f = true) (hg : ev l g = some (.func (.func f) #[] captured.toArray)) (hxs : evs l xs = some vs) (hdn : Nat.blt d n = true) (hS : Sat P f ([] ++ vs ++ captured).toArray H post)
    (h : ∀ u H', VLe H H' → post u H' → KO P n c ops Q rest ((d, u) :: l) hl H') :
    KO P n c ops Q (⟨some d, .call ⟨.value g, xs.toArray, ats⟩, ty, pos, aft, none⟩ :: rest) l hl H :=
  KE [] hl (List.Perm.refl _) (E_callV hcal hg hxs hS) hdn (by rintro v H' q hle ⟨rfl, hp⟩; exact h v H' hle hp)
end
section
variable {P : Program} {n : Nat} {l : KL} {hl : HL} {H : View} {ol : List Oper} {i : Nat} {ty : TypeId} {keep : HL} {fin : Bool} {R : List Nat} {T : ST} {d : Nat} {pos : String} {aft : Array Edge} {g : Option (Nat × Bool)}
theorem D_callV {gx : Operand} {xs : List Operand} {ats : Array TypeId} {f : FuncId} {captured vs : List Value} {post : Value → View → Prop} (hi : nthO ol i = some ⟨some d, .call ⟨.value gx, xs.toArray, ats⟩, ty, pos, aft, g⟩)
    (hw : wlO ol l g = some true) (hcal : callable P f = true) (hg : ev l gx = some (.func (.func f) #[] captured.toArray)) (hxs : evs l xs = some vs) (hkp : memAll keep hl) (hS : Sat P f ([] ++ vs ++ captured).toArray H post)
    (h : ∀ u H', VLe H H' → post u H' → KD P n ol.toArray keep fin T R ((d, u) :: l) hl H') : KD P n ol.toArray keep fin T (i :: R) l hl H :=
  D_eff [] hl hi hw rfl (List.Perm.refl _) hkp.mem (E_callV hcal hg hxs hS) (by rintro v H' q hle ⟨rfl, hp⟩; exact h v H' hle hp)
end
/-! ### The automaton with rules -/
theorem RepAu.nil (H : View) : RepAu H ⟨[], 0, [], []⟩ nilS nilS nilS :=
  ⟨⟨⟨none, 0, rfl, .inl ⟨rfl, rfl⟩⟩, by simp⟩, ⟨[], ⟨none, 0, rfl, .inl ⟨rfl, rfl⟩⟩, .nil⟩, ⟨⟨none, 0, rfl, .inl ⟨rfl, rfl⟩⟩, by simp⟩, by simp [i64ok], by simp, by simp, by simp⟩
end Pal

/-
  Nondeterministic automata asx plain data: runs, their number, the least one. Own work. No statement of the seat is proved here.
-/
namespace Pal
open Go
/-! ### The order of slices -/
theorem cmpL_vals : ∀ xs ys : List Int, cmpL xs ys = -1 ∨ cmpL xs ys = 0 ∨ cmpL xs ys = 1
  | [], [] => by simp [cmpL]
  | [], _ :: _ => by simp [cmpL]
  | _ :: _, [] => by simp [cmpL]
  | x :: xs, y :: ys => by
    simp only [cmpL]
    split
    · simp
    · split
      · simp
      · exact cmpL_vals xs ys
theorem cmpL_swap : ∀ xs ys : List Int, cmpL ys xs = - cmpL xs ys
  | [], [] => by simp [cmpL]
  | [], _ :: _ => by simp [cmpL]
  | _ :: _, [] => by simp [cmpL]
  | x :: xs, y :: ys => by
    simp only [cmpL]
    by_cases h1 : x < y
    · rw [if_pos h1, if_neg (by omega), if_pos h1]; rfl
    · by_cases h2 : y < x
      · rw [if_pos h2, if_neg h1, if_pos h2]
      · rw [if_neg h1, if_neg h2, if_neg h2, if_neg h1]
        exact cmpL_swap xs ys
theorem cmpL_trans : ∀ {xs ys zs : List Int}, cmpL xs ys < 0 → cmpL ys zs < 0 → cmpL xs zs < 0
  | [], [], zs, h, _ => by simp [cmpL] at h
  | [], y :: ys, [], _, h => by simp [cmpL] at h
  | [], y :: ys, z :: zs, _, _ => by simp [cmpL]
  | x :: xs, [], zs, h, _ => by simp [cmpL] at h
  | x :: xs, y :: ys, [], _, h => by simp [cmpL] at h
  | x :: xs, y :: ys, z :: zs, h1, h2 => by
    simp only [cmpL] at h1 h2 ⊢
    by_cases a1 : x < y
    · by_cases b1 : y < z
      · rw [if_pos (by omega)]; decide
      · rw [if_neg b1] at h2
        by_cases b2 : z < y
        · rw [if_pos b2] at h2; omega
        · rw [if_pos (by omega)]; decide
    · rw [if_neg a1] at h1
      by_cases a2 : y < x
      · rw [if_pos a2] at h1; omega
      · rw [if_neg a2] at h1
        have hxy : x = y := by omega
        subst hxy
        by_cases b1 : x < z
        · rw [if_pos b1]; decide
        · rw [if_neg b1] at h2 ⊢
          by_cases b2 : z < x
          · rw [if_pos b2] at h2; omega
          · rw [if_neg b2] at h2 ⊢
            exact cmpL_trans h1 h2
theorem cmpL_le_trans {xs ys zs : List Int} (h1 : cmpL xs ys ≤ 0) (h2 : cmpL ys zs ≤ 0) : cmpL xs zs ≤ 0 := by
  by_cases e1 : cmpL xs ys = 0
  · rw [cmpL_eq.1 e1]; exact h2
  · by_cases e2 : cmpL ys zs = 0
    · rw [← cmpL_eq.1 e2]; exact h1
    · have := cmpL_trans (show cmpL xs ys < 0 by omega) (show cmpL ys zs < 0 by omega); omega
theorem cmpL_append_self : ∀ (xs us vs : List Int), cmpL (xs ++ us) (xs ++ vs) = cmpL us vs
  | [], us, vs => rfl
  | x :: xs, us, vs => by
    have h : cmpL (x :: (xs ++ us)) (x :: (xs ++ vs)) = cmpL (xs ++ us) (xs ++ vs) := by simp [cmpL]
    rw [List.cons_append, List.cons_append, h]
    exact cmpL_append_self xs us vs
theorem cmpL_append_lt : ∀ {xs ys : List Int} (us vs : List Int), xs.length = ys.length → cmpL xs ys < 0 → cmpL (xs ++ us) (ys ++ vs) < 0
  | [], [], us, vs, _, h => by simp [cmpL] at h
  | x :: xs, y :: ys, us, vs, h, h2 => by
    simp only [List.cons_append, cmpL] at h2 ⊢
    by_cases a1 : x < y
    · rw [if_pos a1]; decide
    · rw [if_neg a1] at h2 ⊢
      by_cases a2 : y < x
      · rw [if_pos a2] at h2; omega
      · rw [if_neg a2] at h2 ⊢
        exact cmpL_append_lt us vs (by simpa using h) h2
/-- The least of a list of slices. -/
def IsLeast (m : List Int) (l : List (List Int)) : Prop := m ∈ l ∧ ∀ x ∈ l, cmpL m x ≤ 0
theorem IsLeast.uniq {m m' : List Int} {l : List (List Int)} (h : IsLeast m l) (h' : IsLeast m' l) : m = m' := by
  have h1 := h.2 _ h'.1
  have h2 := h'.2 _ h.1
  rw [cmpL_swap] at h2
  exact cmpL_eq.1 (by omega)
/-- What a search keeps that takes each one that is less. -/
def bestO (o : Option (List Int)) (x : List Int) : Option (List Int) := match o with
  | none => some x
  | some b => if cmpL x b < 0 then some x else some b
def lastI (r : List Int) : Int := r.getLast?.getD 0
mutual
/-- All runs of a tree. -/
def Tr.ways (rs : List Rl) : Tr → List (List Int)
  | .node s ts => (Tr.pairs rs ts).flatMap fun p => (rs.filter fun r => decide (r.sym = s ∧ r.args = p.2)).map fun r => p.1 ++ [r.to]
def Tr.pairs (rs : List Rl) : List Tr → List (List Int × List Int)
  | [] => [([], [])]
  | t :: ts => (Tr.ways rs t).flatMap fun r => (Tr.pairs rs ts).map fun d => (r ++ d.1, lastI r :: d.2)
end
mutual
/-- The number of runs that end in a state. -/
def Tr.cnt (rs : List Rl) : Tr → Int → Nat
  | .node s ts, q => ((rs.filter fun r => decide (r.sym = s ∧ r.to = q)).map fun r => Tr.cnts rs ts r.args).sum
def Tr.cnts (rs : List Rl) : List Tr → List Int → Nat
  | [], [] => 1
  | t :: ts, q :: qs => Tr.cnt rs t q * Tr.cnts rs ts qs
  | [], _ :: _ => 0
  | _ :: _, [] => 0
end
mutual
def Tr.least (rs : List Rl) : Tr → Int → Option (List Int)
  | .node s ts, q => (((rs.filter fun r => decide (r.sym = s ∧ r.to = q)).filterMap fun r => Tr.leasts rs ts r.args).map fun l => l ++ [q]).foldl bestO none
def Tr.leasts (rs : List Rl) : List Tr → List Int → Option (List Int)
  | [], [] => some []
  | t :: ts, q :: qs => match Tr.least rs t q, Tr.leasts rs ts qs with
    | some x, some y => some (x ++ y)
    | _, _ => none
  | [], _ :: _ => none
  | _ :: _, [] => none
end
/-- Nothing there and none, or the least. -/
def LeastO (o : Option (List Int)) (l : List (List Int)) : Prop := (l = [] ∧ o = none) ∨ ∃ m, o = some m ∧ IsLeast m l
theorem LeastO.uniq {o o' : Option (List Int)} {l : List (List Int)} (h : LeastO o l) (h' : LeastO o' l) : o = o' := by
  rcases h with ⟨h1, h2⟩ | ⟨m, h1, h2⟩ <;> rcases h' with ⟨g1, g2⟩ | ⟨m', g1, g2⟩
  · rw [h2, g2]
  · subst h1; exact absurd g2.1 (by simp)
  · subst g1; exact absurd h2.1 (by simp)
  · rw [h1, g1, h2.uniq g2]
end Pal

/-
  Natural numbers asx words below 2^32, the least word first. Own work. No statement of the seat is proved here.
-/
namespace Pal
open Go
def valW : List Nat → Nat
  | [] => 0
  | w :: ws => w + 4294967296 * valW ws
def WordsOk (ws : List Nat) : Prop := ∀ w ∈ ws, w < 4294967296
def Canon (ws : List Nat) : Prop := WordsOk ws ∧ ws.getLast? ≠ some 0
theorem valW_append (xs ys : List Nat) : valW (xs ++ ys) = valW xs + 4294967296 ^ xs.length * valW ys := by
  induction xs with
  | nil => simp [valW]
  | cons x xs ih =>
    simp only [List.cons_append, valW, ih, List.length_cons, Nat.pow_succ]
    rw [Nat.mul_add, Nat.add_assoc, Nat.mul_comm (4294967296 ^ xs.length) 4294967296, Nat.mul_assoc]
theorem valW_snoc (xs : List Nat) (y : Nat) : valW (xs ++ [y]) = valW xs + 4294967296 ^ xs.length * y := by
  rw [valW_append]; simp [valW]
theorem valW_zeros (n : Nat) : valW (List.replicate n 0) = 0 := by
  induction n with
  | zero => rfl
  | succ n ih => simp [List.replicate_succ, valW, ih]
/-- Trailing zeros do not count. -/
theorem valW_take {ws : List Nat} {k : Nat} (hz : ∀ j (h : j < ws.length), k ≤ j → ws[j] = 0) : valW (ws.take k) = valW ws := by
  have e : ws = ws.take k ++ List.replicate (ws.length - k) 0 := by
    refine List.ext_getElem (by simp; omega) fun i h1 h2 => ?_
    by_cases hi : i < k
    · rw [List.getElem_append_left (by rw [List.length_take]; omega), List.getElem_take]
    · rw [List.getElem_append_right (by rw [List.length_take]; omega), List.getElem_replicate]
      exact hz i h1 (by omega)
  conv => rhs; rw [e]
  rw [valW_append, valW_zeros, Nat.mul_zero, Nat.add_zero]
theorem valW_pos {ws : List Nat} (h : ws ≠ []) (hl : ws.getLast? ≠ some 0) : 0 < valW ws := by
  obtain ⟨xs, y, rfl⟩ : ∃ xs y, ws = xs ++ [y] := ⟨ws.dropLast, ws.getLast h, (List.dropLast_concat_getLast h).symm⟩
  rw [valW_snoc]
  have hy : y ≠ 0 := by intro e; subst e; simp at hl
  have h1 : 0 < 4294967296 ^ xs.length := Nat.pow_pos (by decide)
  have := Nat.mul_pos h1 (Nat.pos_of_ne_zero hy)
  omega
theorem Canon.tail {w : Nat} {ws : List Nat} (h : Canon (w :: ws)) : Canon ws := by
  refine ⟨fun x hx => h.1 x (List.mem_cons_of_mem _ hx), ?_⟩
  cases ws with
  | nil => simp
  | cons x xs => have := h.2; rw [List.getLast?_cons_cons] at this; exact this
/-- A number has one form alone. -/
theorem Canon.uniq : ∀ {xs ys : List Nat}, Canon xs → Canon ys → valW xs = valW ys → xs = ys
  | [], [], _, _, _ => rfl
  | [], y :: ys, _, h2, h => by
    have := valW_pos (List.cons_ne_nil y ys) h2.2
    rw [← h] at this; simp [valW] at this
  | x :: xs, [], h1, _, h => by
    have := valW_pos (List.cons_ne_nil x xs) h1.2
    rw [h] at this; simp [valW] at this
  | x :: xs, y :: ys, h1, h2, h => by
    have a1 := h1.1 x List.mem_cons_self
    have a2 := h2.1 y List.mem_cons_self
    simp only [valW] at h
    have e1 : x = y := by omega
    have e2 : valW xs = valW ys := by omega
    rw [e1, Canon.uniq h1.tail h2.tail e2]
theorem Canon.take {ws : List Nat} (h : WordsOk ws) {k : Nat} (hk : k ≤ ws.length) (hl : k = 0 ∨ ∃ h : k - 1 < ws.length, ws[k - 1] ≠ 0) : Canon (ws.take k) := by
  refine ⟨fun x hx => h x (List.mem_of_mem_take hx), ?_⟩
  rcases hl with rfl | ⟨h1, h2⟩
  · simp
  · by_cases h0 : k = 0
    · subst h0; simp
    · rw [List.getLast?_eq_getElem?, List.length_take, Nat.min_eq_left hk, List.getElem?_take]
      rw [if_pos (by omega), List.getElem?_eq_getElem h1]
      simpa using h2
/-- The value of the first words; words that lack count asx zero. -/
def valN (ws : List Nat) (i : Nat) : Nat := valW ((List.range i).map fun j => ws.getD j 0)
theorem valN_succ (ws : List Nat) (i : Nat) : valN ws (i + 1) = valN ws i + 4294967296 ^ i * ws.getD i 0 := by
  unfold valN
  rw [range_map_succ, valW_snoc]
  simp
theorem valN_all {ws : List Nat} {i : Nat} (h : ws.length ≤ i) : valN ws i = valW ws := by
  have e : (List.range i).map (fun j => ws.getD j 0) = ws ++ List.replicate (i - ws.length) 0 := by
    refine List.ext_getElem (by simp; omega) fun j h1 h2 => ?_
    by_cases hj : j < ws.length
    · rw [List.getElem_append_left hj]; simp [List.getD, hj]
    · rw [List.getElem_append_right (by omega)]; simp [List.getD, hj]
  unfold valN
  rw [e, valW_append, valW_zeros, Nat.mul_zero, Nat.add_zero]
theorem valW_set : ∀ {ws : List Nat} {j : Nat} (h : j < ws.length) (v : Nat), valW (ws.set j v) + 4294967296 ^ j * ws[j] = valW ws + 4294967296 ^ j * v
  | w :: ws, 0, _, v => by simp [valW]; omega
  | w :: ws, j + 1, h, v => by
    have ih := valW_set (ws := ws) (j := j) (by simpa using h) v
    simp only [List.set_cons_succ, valW, List.getElem_cons_succ, Nat.pow_succ]
    have e1 : ∀ z, 4294967296 ^ j * 4294967296 * z = 4294967296 * (4294967296 ^ j * z) := fun z => by rw [Nat.mul_comm (4294967296 ^ j) 4294967296, Nat.mul_assoc]
    rw [e1, e1]
    omega
theorem mul_step {x y z c : Nat} (hx : x < 4294967296) (hy : y < 4294967296) (hz : z < 4294967296) (hc : c < 4294967296) : x * y + z + c < 18446744073709551616 ∧ (x * y + z + c) / 4294967296 < 4294967296 := by
  have h1 : x * y ≤ 4294967295 * 4294967295 := Nat.mul_le_mul (by omega) (by omega)
  omega
end Pal

/-
  Runs over the same rules in another order; the reference's loops over runs; accepted runs by state. Own work. No statement of the seat is proved here.
-/
namespace Pal
open Go
theorem IsLeast.congr {m : List Int} {l l' : List (List Int)} (h : ∀ x, x ∈ l ↔ x ∈ l') (hm : IsLeast m l) : IsLeast m l' := ⟨(h m).1 hm.1, fun x hx => hm.2 x ((h x).2 hx)⟩
theorem LeastO.congr {o : Option (List Int)} {l l' : List (List Int)} (h : ∀ x, x ∈ l ↔ x ∈ l') (ho : LeastO o l) : LeastO o l' := by
  rcases ho with ⟨h1, h2⟩ | ⟨m, h1, h2⟩
  · refine .inl ⟨?_, h2⟩
    rw [List.eq_nil_iff_forall_not_mem]
    intro x hx
    have := (h x).2 hx
    rw [h1] at this; cases this
  · exact .inr ⟨m, h1, h2.congr h⟩
end Pal

/-
  Numbers of package bignat in the heap; choices of the comparison. Own work. No statement of the seat is proved here.
-/
namespace Pal
open Go
def words (ws : List Nat) : List Value := ws.map fun (w : Nat) => Value.int .u32 (w : Int)
def UW (H : View) (v : Value) (ws : List Nat) : Prop := SlAt H v ws.length (words ws) ∧ WordsOk ws
theorem UW.mono {H H' : View} {v : Value} {ws : List Nat} (h : UW H v ws) (hle : VLe H H') : UW H' v ws := ⟨h.1.mono hle, h.2⟩
theorem UW.shape {H : View} {v : Value} {ws : List Nat} (h : UW H v ws) : ∃ a cap, v = .slice a ws.length cap := by
  obtain ⟨⟨a, cap, h1, _⟩, _⟩ := h
  exact ⟨a, cap, h1⟩
theorem UW.get {H : View} {a : Option Addr} {k cap : Nat} {ws : List Nat} (h : UW H (.slice a k cap) ws) {i : Nat} (hi : i < ws.length) : ∃ b off, a = some ⟨b, off, none⟩ ∧ At H b (off + i * 1) [.int .u32 (ws[i] : Int)] := by
  obtain ⟨⟨a', c', h1, h2⟩, _⟩ := h
  cases h1
  rcases h2 with ⟨h2, _⟩ | ⟨b, off, rfl, h2⟩
  · omega
  · have := h2.one (j := i) (v := .int .u32 (ws[i] : Int)) (by simp [words, hi])
    exact ⟨b, off, rfl, by simpa using this⟩
theorem words_snoc (ws : List Nat) (w : Nat) : words (ws ++ [w]) = words ws ++ [.int .u32 (w : Int)] := by simp [words]
/-- A number. -/
def RepN (H : View) (v : Value) (n : Nat) : Prop := ∃ ws, Canon ws ∧ valW ws = n ∧ UW H v ws
theorem RepN.mono {H H' : View} {v : Value} {n : Nat} (h : RepN H v n) (hle : VLe H H') : RepN H' v n := by
  obtain ⟨ws, h1, h2, h3⟩ := h
  exact ⟨ws, h1, h2, h3.mono hle⟩
theorem RepN.zero (H : View) : RepN H (.slice none 0 0) 0 := ⟨[], ⟨(fun w hw => by cases hw), by simp⟩, rfl, ⟨none, 0, rfl, .inl ⟨rfl, rfl⟩⟩, (fun w hw => by cases hw)⟩
/-- The order of rules. -/
def ordR (r s : Rl) : Int := if r.sym < s.sym then -1 else if s.sym < r.sym then 1 else if cmpL r.args s.args ≠ 0 then cmpL r.args s.args else if r.to < s.to then -1 else if s.to < r.to then 1 else 0
theorem ordR_eq {r s : Rl} : ordR r s = 0 ↔ r = s := by
  unfold ordR
  obtain ⟨a, b, c⟩ := r
  obtain ⟨d, e, f⟩ := s
  simp only [Rl.mk.injEq]
  constructor
  · intro h
    split at h
    · cases h
    · split at h
      · cases h
      · split at h
        · rename_i h3; exact absurd h h3
        · rename_i h1 h2 h3
          split at h
          · cases h
          · split at h
            · cases h
            · rename_i h4 h5
              exact ⟨by omega, cmpL_eq.1 (Decidable.not_not.1 h3), by omega⟩
  · rintro ⟨rfl, rfl, rfl⟩
    simp [cmpL_self]
section
variable {P : Program} {l : KL} {ty : TypeId}
/-- make([]T, 0, k). -/
theorem A_makeSlice0 {t e : TypeId} {x y : Operand} {z : Value} {k sz bytes : Nat} {agg : Bool} (hA : App P t e sz bytes) (hz : zeroOk P e z) (_hT : Ty P e agg sz) (hx : ev l x = some (.int .i64 0)) (hy : ev l y = some (.int .i64 (k : Int)))
    (hb : bytes * k ≤ 281474976710656) (hk : k ≤ 9223372036854775807) : AllocOk P l (.makeSlice t x y) ty (fun b => .slice (some ⟨b, 0, none⟩) 0 k) (.cells (madeCells z.cells (k * sz)) e) := by
  obtain ⟨i, z', hi, hz', hsz, _, hbt⟩ := hA.i
  obtain ⟨i2, hi2, hz2⟩ := hz
  rw [hi] at hi2; cases hi2
  intro e w hkn
  have hS : P.underlying t = some (.slice _) := hA.s
  have hb' : (i.bytes : Int) * (k : Int) ≤ 281474976710656 := by
    rw [hbt]
    have h : ((bytes * k : Nat) : Int) ≤ 281474976710656 := by omega
    rwa [Int.natCast_mul] at h
  have h := run_make (P := P) w t _ i z hS hi hz2 .i64 .i64 (0 : Int) (k : Int) (by omega) (by omega) hb' (by omega)
  simp only [Int.toNat_natCast, Int.toNat_zero, hsz] at h
  simp only [ex, execOp, hkn x _ hx, hkn y _ hy, Sem.run_bind, h, Result.andThen_ok, Sem.run_pure]
end
section
variable {P : Program} {n : Nat} {c : Cx} {Q : Exit → Act → World → Prop} {l : KL} {H : View} {ops : Array Oper} {rest : List Oper}
/-- A made block of length 0 is a row. -/
theorem Ok.rowMade {w : World} {b cap sz : Nat} {e : TypeId} {cur : Array Value} {r : HL} (hs : cur.size = cap * sz) (hc : cap ≤ maxLen) (h : Ok c w H (blk b (.cells cur e (0, 0)) :: r)) : Ok c w H (row (.slice (some ⟨b, 0, none⟩) 0 cap) e sz 0 [] :: r) := by
  have hb : w.heap[b]? = some (.cells cur e (0, 0)) := h.own _ List.mem_cons_self
  refine ⟨h.os, h.tape, h.output, h.drawn, h.size, h.old, h.vold, h.le, h.has, ?_, fun k hk => h.foot k (by simpa [feet, row, rowFoot, blk] using hk), by simpa [feet, row, rowFoot, blk] using h.nd⟩
  intro en hen
  rcases List.mem_cons.1 hen with rfl | hen
  · exact ⟨by simp, .inr ⟨b, cap, cur, rfl, hb, Nat.zero_le _, hc, hs, by simp⟩⟩
  · exact h.own en (List.mem_cons_of_mem _ hen)
theorem KQ_rowMade {x : Exit} {b cap sz : Nat} {e : TypeId} {cur : Array Value} {r : HL} (hs : cur.size = cap * sz) (hc : cap ≤ maxLen) (h : KQ n c Q x l (row (.slice (some ⟨b, 0, none⟩) 0 cap) e sz 0 [] :: r) H) : KQ n c Q x l (blk b (.cells cur e (0, 0)) :: r) H :=
  fun ρ w hm ho => h ρ w hm (ho.rowMade hs hc)
end
/-! ### Words one by one, with a carry -/
def joinF (f : Nat → Nat → Nat × Nat) : Nat → List Nat × Nat
  | 0 => ([], 0)
  | n + 1 => ((joinF f n).1 ++ [(f n (joinF f n).2).1], (f n (joinF f n).2).2)
def joinW (f : Nat → Nat → Nat × Nat) (n : Nat) : List Nat := if 0 < (joinF f n).2 then (joinF f n).1 ++ [(joinF f n).2] else (joinF f n).1
theorem joinF_len (f : Nat → Nat → Nat × Nat) : ∀ n, (joinF f n).1.length = n
  | 0 => rfl
  | n + 1 => by simp [joinF, joinF_len f n]
theorem joinF_ok {f : Nat → Nat → Nat × Nat} {m : Nat} (hf : ∀ i c, c ≤ m → (f i c).1 < 4294967296 ∧ (f i c).2 ≤ m) : ∀ n, WordsOk (joinF f n).1 ∧ (joinF f n).2 ≤ m
  | 0 => ⟨fun w hw => by simp [joinF] at hw, Nat.zero_le _⟩
  | n + 1 => by
    obtain ⟨h1, h2⟩ := joinF_ok hf n
    obtain ⟨h3, h4⟩ := hf n _ h2
    refine ⟨fun w hw => ?_, h4⟩
    rcases List.mem_append.1 hw with hw | hw
    · exact h1 w hw
    · simp at hw; subst hw; exact h3
def addF (xs ys : List Nat) (i c : Nat) : Nat × Nat := ((xs.getD i 0 + ys.getD i 0 + c) % 4294967296, (xs.getD i 0 + ys.getD i 0 + c) / 2 ^ 32)
theorem addF_val (xs ys : List Nat) : ∀ n, valW (joinF (addF xs ys) n).1 + 4294967296 ^ n * (joinF (addF xs ys) n).2 = valN xs n + valN ys n
  | 0 => by simp [joinF, valW, valN]
  | n + 1 => by
    have ih := addF_val xs ys n
    rw [valN_succ, valN_succ]
    simp only [joinF]
    rw [valW_snoc, joinF_len]
    generalize (joinF (addF xs ys) n).2 = c at ih ⊢
    simp only [addF]
    generalize xs.getD n 0 = x
    generalize ys.getD n 0 = y
    have h1 : (x + y + c) % 4294967296 + 4294967296 * ((x + y + c) / 2 ^ 32) = x + y + c := by omega
    have h2 : 4294967296 ^ n * ((x + y + c) % 4294967296) + 4294967296 ^ (n + 1) * ((x + y + c) / 2 ^ 32) = 4294967296 ^ n * (x + y + c) := by
      rw [Nat.pow_succ, Nat.mul_assoc, ← Nat.mul_add, h1]
    have h3 : 4294967296 ^ n * (x + y + c) = 4294967296 ^ n * x + 4294967296 ^ n * y + 4294967296 ^ n * c := by rw [Nat.mul_add, Nat.mul_add]
    omega
theorem joinW_val (xs ys : List Nat) (n : Nat) (hx : xs.length ≤ n) (hy : ys.length ≤ n) : valW (joinW (addF xs ys) n) = valW xs + valW ys := by
  have h := addF_val xs ys n
  rw [valN_all hx, valN_all hy] at h
  unfold joinW
  split
  · rw [valW_snoc, joinF_len]; exact h
  · have h0 : (joinF (addF xs ys) n).2 = 0 := by omega
    rw [h0] at h; simpa using h
end Pal

/-
  Lists that rise strictly by an order; rules in their order; what sorting and compacting give. Own work. No statement of the seat is proved here.
-/
namespace Pal
open Go
/-- Two lists that rise strictly, of the same elements, are the same. -/
theorem rise_uniq {α : Type} {lt : α → α → Prop} (irr : ∀ x, ¬ lt x x) (tr : ∀ x y z, lt x y → lt y z → lt x z) :
    ∀ {xs ys : List α}, xs.Pairwise lt → ys.Pairwise lt → (∀ x, x ∈ xs ↔ x ∈ ys) → xs = ys
  | [], [], _, _, _ => rfl
  | [], y :: ys, _, _, h => by have := (h y).2 List.mem_cons_self; cases this
  | x :: xs, [], _, _, h => by have := (h x).1 List.mem_cons_self; cases this
  | x :: xs, y :: ys, h1, h2, h => by
    have g1 := List.pairwise_cons.1 h1
    have g2 := List.pairwise_cons.1 h2
    have hxy : x = y := by
      rcases List.mem_cons.1 ((h x).1 List.mem_cons_self) with e | hx
      · exact e
      · rcases List.mem_cons.1 ((h y).2 List.mem_cons_self) with e | hy
        · exact e.symm
        · exact absurd (tr _ _ _ (g1.1 y hy) (g2.1 x hx)) (irr x)
    subst hxy
    have : ∀ z, z ∈ xs ↔ z ∈ ys := fun z => by
      constructor
      · intro hm
        rcases List.mem_cons.1 ((h z).1 (List.mem_cons_of_mem _ hm)) with e | e
        · subst e; exact absurd (g1.1 _ hm) (irr _)
        · exact e
      · intro hm
        rcases List.mem_cons.1 ((h z).2 (List.mem_cons_of_mem _ hm)) with e | e
        · subst e; exact absurd (g2.1 _ hm) (irr _)
        · exact e
    rw [rise_uniq irr tr g1.2 g2.2 this]

/-! ### Neighbours alike dropped -/
def compF {α : Type} (eq : α → α → Bool) : Option α → List α → List α
  | _, [] => []
  | none, x :: r => x :: compF eq (some x) r
  | some p, x :: r => if eq x p = true then compF eq (some x) r else x :: compF eq (some x) r
theorem compF_append {α : Type} (eq : α → α → Bool) : ∀ (o : Option α) (xs ys : List α), compF eq o (xs ++ ys) = compF eq o xs ++ compF eq (match xs.getLast? with | some x => some x | none => o) ys
  | _, [], _ => by simp [compF]
  | none, x :: r, ys => by
    simp only [List.cons_append, compF, compF_append eq (some x) r ys]
    cases r with
    | nil => simp
    | cons y r => simp [List.getLast?_eq_some_getLast]
  | some p, x :: r, ys => by
    simp only [List.cons_append, compF]
    rw [compF_append eq (some x) r ys]
    have : (match (x :: r).getLast? with | some x => some x | none => some p) = (match r.getLast? with | some y => some y | none => some x) := by
      cases r with
      | nil => simp
      | cons y r => simp [List.getLast?_eq_some_getLast]
    rw [this]
    split <;> simp
theorem compF_sublist {α : Type} (eq : α → α → Bool) : ∀ (o : Option α) (xs : List α), List.Sublist (compF eq o xs) xs
  | _, [] => by simp [compF]
  | none, x :: r => by simp only [compF]; exact (compF_sublist eq (some x) r).cons_cons x
  | some p, x :: r => by
    simp only [compF]
    split
    · exact (compF_sublist eq (some x) r).cons x
    · exact (compF_sublist eq (some x) r).cons_cons x
/-- Over a list that falls nowhere: it rises strictly; each element has its like there. -/
theorem compF_rise {α : Type} {eq : α → α → Bool} {lt : α → α → Prop} (heq : ∀ x y, eq x y = true → ∀ z, lt z x ↔ lt z y) (htr : ∀ x y z, lt x y → ¬ lt z y → lt x z) (hne : ∀ x y, eq x y = false → ¬ lt x y → lt y x)
    : ∀ (o : Option α) (xs : List α), xs.Pairwise (fun x y => ¬ lt y x) → (∀ p, o = some p → ∀ x ∈ xs, ¬ lt x p) → (compF eq o xs).Pairwise lt ∧ (∀ p, o = some p → ∀ x ∈ compF eq o xs, lt p x)
  | _, [], _, _ => by simp [compF]
  | none, x :: r, h, _ => by
    have g := List.pairwise_cons.1 h
    obtain ⟨h1, h2⟩ := compF_rise heq htr hne (some x) r g.2 (fun p hp y hy => by cases hp; exact g.1 y hy)
    simp only [compF]
    exact ⟨List.pairwise_cons.2 ⟨fun y hy => h2 x rfl y hy, h1⟩, fun p hp => by cases hp⟩
  | some p, x :: r, h, ho => by
    have g := List.pairwise_cons.1 h
    obtain ⟨h1, h2⟩ := compF_rise heq htr hne (some x) r g.2 (fun q hq y hy => by cases hq; exact g.1 y hy)
    simp only [compF]
    split
    · rename_i he
      refine ⟨h1, fun q hq y hy => ?_⟩
      cases hq
      have hxy := h2 x rfl y hy
      have hpx : ¬ lt x p := ho p rfl x List.mem_cons_self
      -- x is like p
      by_cases hlt : lt p y
      · exact hlt
      · exact absurd (htr x y p hxy hlt) hpx
    · rename_i he
      have he' : eq x p = false := by simpa using he
      have hpx : lt p x := hne x p he' (ho p rfl x List.mem_cons_self)
      refine ⟨List.pairwise_cons.2 ⟨fun y hy => h2 x rfl y hy, h1⟩, fun q hq y hy => ?_⟩
      cases hq
      rcases List.mem_cons.1 hy with e | e
      · subst e; exact hpx
      · exact htr p x y hpx (g.1 y ((compF_sublist eq (some x) r).subset e))
theorem compF_mem {α β : Type} {eq : α → α → Bool} {f : α → β} (heq : ∀ x y, eq x y = true → f x = f y) :
    ∀ (o : Option α) (xs : List α) (x : α), x ∈ xs → (∃ y ∈ compF eq o xs, f y = f x) ∨ ∃ p, o = some p ∧ f p = f x
  | _, [], x, h => by cases h
  | none, a :: r, x, h => by
    simp only [compF]
    rcases List.mem_cons.1 h with e | e
    · exact .inl ⟨a, List.mem_cons_self, by rw [e]⟩
    · rcases compF_mem heq (some a) r x e with ⟨y, hy, e⟩ | ⟨p, hp, e⟩
      · exact .inl ⟨y, List.mem_cons_of_mem _ hy, e⟩
      · cases hp; exact .inl ⟨_, List.mem_cons_self, e⟩
  | some p, a :: r, x, h => by
    simp only [compF]
    split
    · rename_i he
      rcases List.mem_cons.1 h with e | e
      · subst e; exact .inr ⟨p, rfl, (heq _ _ he).symm⟩
      · rcases compF_mem heq (some a) r x e with ⟨y, hy, e⟩ | ⟨q, hq, e⟩
        · exact .inl ⟨y, hy, e⟩
        · cases hq; exact .inr ⟨p, rfl, (heq _ _ he).symm.trans e⟩
    · rcases List.mem_cons.1 h with e | e
      · exact .inl ⟨a, List.mem_cons_self, by rw [e]⟩
      · rcases compF_mem heq (some a) r x e with ⟨y, hy, e⟩ | ⟨q, hq, e⟩
        · exact .inl ⟨y, List.mem_cons_of_mem _ hy, e⟩
        · cases hq; exact .inl ⟨_, List.mem_cons_self, e⟩

/-! ### Rules -/
def ltR (r s : Rl) : Prop := ordR r s < 0
instance (r s : Rl) : Decidable (ltR r s) := by unfold ltR; infer_instance
theorem ordR_lt {r s : Rl} : ordR r s < 0 ↔ r.sym < s.sym ∨ (r.sym = s.sym ∧ (cmpL r.args s.args < 0 ∨ (r.args = s.args ∧ r.to < s.to))) := by
  unfold ordR
  by_cases h1 : r.sym < s.sym
  · simp [h1]
  · by_cases h2 : s.sym < r.sym
    · rw [if_neg h1, if_pos h2]
      constructor
      · intro h; omega
      · rintro (h | ⟨h, _⟩) <;> omega
    · have e : r.sym = s.sym := by omega
      rw [if_neg h1, if_neg h2]
      by_cases h3 : cmpL r.args s.args = 0
      · have e3 := cmpL_eq.1 h3
        rw [if_neg (by simpa using h3)]
        by_cases h4 : r.to < s.to
        · rw [if_pos h4]; exact ⟨fun _ => .inr ⟨e, .inr ⟨e3, h4⟩⟩, fun _ => by decide⟩
        · rw [if_neg h4]
          constructor
          · intro h; split at h <;> omega
          · rintro (h | ⟨_, h | ⟨_, h⟩⟩) <;> omega
      · rw [if_pos h3]
        constructor
        · intro h; exact .inr ⟨e, .inl h⟩
        · rintro (h | ⟨_, h | ⟨h, _⟩⟩)
          · omega
          · exact h
          · exact absurd (cmpL_eq.2 h) h3
theorem ordR_gt {r s : Rl} : 0 < ordR r s ↔ ordR s r < 0 := by
  rw [ordR_lt]
  unfold ordR
  by_cases h1 : r.sym < s.sym
  · rw [if_pos h1]
    constructor
    · intro h; omega
    · rintro (h | ⟨h, _⟩) <;> omega
  · by_cases h2 : s.sym < r.sym
    · rw [if_neg h1, if_pos h2]; exact ⟨fun _ => .inl h2, fun _ => by decide⟩
    · have e : r.sym = s.sym := by omega
      rw [if_neg h1, if_neg h2]
      have hs := cmpL_swap r.args s.args
      by_cases h3 : cmpL r.args s.args = 0
      · have e3 := cmpL_eq.1 h3
        rw [if_neg (by simpa using h3)]
        by_cases h4 : r.to < s.to
        · rw [if_pos h4]
          constructor
          · intro h; omega
          · rintro (h | ⟨_, h | ⟨_, h⟩⟩) <;> omega
        · rw [if_neg h4]
          by_cases h5 : s.to < r.to
          · rw [if_pos h5]; exact ⟨fun _ => .inr ⟨e.symm, .inr ⟨e3.symm, h5⟩⟩, fun _ => by decide⟩
          · rw [if_neg h5]
            constructor
            · intro h; omega
            · rintro (h | ⟨_, h | ⟨_, h⟩⟩) <;> omega
      · rw [if_pos h3]
        constructor
        · intro h; exact .inr ⟨e.symm, .inl (by omega)⟩
        · rintro (h | ⟨_, h | ⟨h, _⟩⟩)
          · omega
          · omega
          · exact absurd (cmpL_eq.2 h.symm) h3
theorem ltR_irr (r : Rl) : ¬ ltR r r := by unfold ltR; rw [ordR_eq.2 rfl]; omega
theorem ltR_trans (r s t : Rl) (h1 : ltR r s) (h2 : ltR s t) : ltR r t := by
  unfold ltR at *
  rw [ordR_lt] at *
  rcases h1 with h1 | ⟨e1, h1⟩
  · rcases h2 with h2 | ⟨e2, _⟩
    · exact .inl (by omega)
    · exact .inl (by omega)
  · rcases h2 with h2 | ⟨e2, h2⟩
    · exact .inl (by omega)
    · refine .inr ⟨by omega, ?_⟩
      rcases h1 with h1 | ⟨a1, h1⟩
      · rcases h2 with h2 | ⟨a2, _⟩
        · exact .inl (cmpL_trans h1 h2)
        · exact .inl (by rw [← a2]; exact h1)
      · rcases h2 with h2 | ⟨a2, h2⟩
        · exact .inl (by rw [a1]; exact h2)
        · exact .inr ⟨a1.trans a2, by omega⟩
theorem ltR_total (r s : Rl) : ltR r s ∨ r = s ∨ ltR s r := by
  unfold ltR
  rcases Int.lt_trichotomy (ordR r s) 0 with h | h | h
  · exact .inl h
  · exact .inr (.inl (ordR_eq.1 h))
  · exact .inr (.inr (ordR_gt.1 h))
theorem ltR_htr (r s t : Rl) (h1 : ltR r s) (h2 : ¬ ltR t s) : ltR r t := by
  rcases ltR_total s t with h | h | h
  · exact ltR_trans _ _ _ h1 h
  · subst h; exact h1
  · exact absurd h h2
def insO (r : Rl) : List Rl → List Rl
  | [] => [r]
  | x :: xs => if ordR r x < 0 then r :: x :: xs else if ordR r x = 0 then x :: xs else x :: insO r xs
/-- The rules in their order, each once. -/
def sortO (rs : List Rl) : List Rl := rs.foldr insO []
theorem insO_mem {r x : Rl} : ∀ {l : List Rl}, x ∈ insO r l ↔ x = r ∨ x ∈ l
  | [] => by simp [insO]
  | y :: l => by
    simp only [insO]
    split
    · simp
    · split
      · rename_i h; have := ordR_eq.1 h; subst this; simp
      · rw [List.mem_cons, insO_mem (l := l), List.mem_cons]
        constructor
        · rintro (h | h | h) <;> simp [h]
        · rintro (h | h | h) <;> simp [h]
theorem insO_rise {r : Rl} : ∀ {l : List Rl}, l.Pairwise ltR → (insO r l).Pairwise ltR
  | [], _ => by simp [insO]
  | y :: l, h => by
    have g := List.pairwise_cons.1 h
    simp only [insO]
    split
    · rename_i h1
      refine List.pairwise_cons.2 ⟨fun z hz => ?_, h⟩
      rcases List.mem_cons.1 hz with e | e
      · subst e; exact h1
      · exact ltR_trans _ _ _ h1 (g.1 z e)
    · split
      · exact h
      · rename_i h1 h2
        refine List.pairwise_cons.2 ⟨fun z hz => ?_, insO_rise g.2⟩
        rcases insO_mem.1 hz with e | e
        · subst e
          rcases ltR_total y z with h | h | h
          · exact h
          · subst h; exact absurd (ordR_eq.2 rfl) h2
          · exact absurd h h1
        · exact g.1 z e
theorem sortO_mem {rs : List Rl} {x : Rl} : x ∈ sortO rs ↔ x ∈ rs := by
  induction rs with
  | nil => simp [sortO]
  | cons r rs ih =>
    show x ∈ insO r (sortO rs) ↔ _
    rw [insO_mem, ih, List.mem_cons]
theorem sortO_rise (rs : List Rl) : (sortO rs).Pairwise ltR := by
  induction rs with
  | nil => exact List.Pairwise.nil
  | cons r rs ih => exact insO_rise ih
theorem sortO_uniq {rs l : List Rl} (h1 : l.Pairwise ltR) (h2 : ∀ x, x ∈ l ↔ x ∈ rs) : l = sortO rs :=
  rise_uniq ltR_irr ltR_trans h1 (sortO_rise rs) fun x => (h2 x).trans sortO_mem.symm
theorem sortO_congr {rs ss : List Rl} (h : ∀ x, x ∈ rs ↔ x ∈ ss) : sortO rs = sortO ss := sortO_uniq (sortO_rise rs) fun x => sortO_mem.trans (h x)
theorem sortO_len (rs : List Rl) : (sortO rs).length ≤ rs.length := by
  induction rs with
  | nil => simp [sortO]
  | cons r rs ih =>
    have : ∀ (l : List Rl), (insO r l).length ≤ l.length + 1 := by
      intro l
      induction l with
      | nil => simp [insO]
      | cons y l ih =>
        simp only [insO]
        split
        · simp
        · split
          · simp
          · simp only [List.length_cons]; omega
    show (insO r (sortO rs)).length ≤ _
    have := this (sortO rs)
    simp only [List.length_cons]; omega
/-! the reference's order, where rules of a symbol take asx many operands -/
def insI (x : Int) : List Int → List Int
  | [] => [x]
  | y :: l => if x < y then x :: y :: l else if x = y then y :: l else y :: insI x l
def sortI (xs : List Int) : List Int := xs.foldr insI []
theorem insI_mem {r x : Int} : ∀ {l : List Int}, x ∈ insI r l ↔ x = r ∨ x ∈ l
  | [] => by simp [insI]
  | y :: l => by
    simp only [insI]
    split
    · simp
    · split
      · rename_i h; subst h; simp
      · rw [List.mem_cons, insI_mem (l := l), List.mem_cons]
        constructor
        · rintro (h | h | h) <;> simp [h]
        · rintro (h | h | h) <;> simp [h]
theorem insI_rise {r : Int} : ∀ {l : List Int}, l.Pairwise (· < ·) → (insI r l).Pairwise (· < ·)
  | [], _ => by simp [insI]
  | y :: l, h => by
    have g := List.pairwise_cons.1 h
    simp only [insI]
    split
    · rename_i h1
      refine List.pairwise_cons.2 ⟨fun z hz => ?_, h⟩
      rcases List.mem_cons.1 hz with e | e
      · omega
      · have := g.1 z e; omega
    · split
      · exact h
      · rename_i h1 h2
        refine List.pairwise_cons.2 ⟨fun z hz => ?_, insI_rise g.2⟩
        rcases insI_mem.1 hz with e | e
        · omega
        · exact g.1 z e
theorem sortI_mem {rs : List Int} {x : Int} : x ∈ sortI rs ↔ x ∈ rs := by
  induction rs with
  | nil => simp [sortI]
  | cons r rs ih =>
    show x ∈ insI r (sortI rs) ↔ _
    rw [insI_mem, ih, List.mem_cons]
theorem sortI_rise (rs : List Int) : (sortI rs).Pairwise (· < ·) := by
  induction rs with
  | nil => exact List.Pairwise.nil
  | cons r rs ih => exact insI_rise ih
theorem sortI_uniq {rs l : List Int} (h1 : l.Pairwise (· < ·)) (h2 : ∀ x, x ∈ l ↔ x ∈ rs) : l = sortI rs :=
  rise_uniq (fun x => by omega) (fun x y z => by omega) h1 (sortI_rise rs) fun x => (h2 x).trans sortI_mem.symm
theorem sortI_congr {rs ss : List Int} (h : ∀ x, x ∈ rs ↔ x ∈ ss) : sortI rs = sortI ss := sortI_uniq (sortI_rise rs) fun x => sortI_mem.trans (h x)
theorem sortI_len (rs : List Int) : (sortI rs).length ≤ rs.length := by
  induction rs with
  | nil => simp [sortI]
  | cons r rs ih =>
    have : ∀ (l : List Int), (insI r l).length ≤ l.length + 1 := by
      intro l
      induction l with
      | nil => simp [insI]
      | cons y l ih =>
        simp only [insI]
        split
        · simp
        · split
          · simp
          · simp only [List.length_cons]; omega
    show (insI r (sortI rs)).length ≤ _
    have := this (sortI rs)
    simp only [List.length_cons]; omega
/-- The normal form. -/
def normA (a : Au) : Au := ⟨a.ranks, a.states, sortO a.rules, sortI a.final⟩
theorem normA_ok {a : Au} (h : AuOk a) : AuOk (normA a) :=
  ⟨h.rl, h.rk, h.st, Nat.le_trans (sortO_len _) h.ul, fun r hr => h.ru r (sortO_mem.1 hr), fun q hq => h.fi q (sortI_mem.1 hq)⟩
/-- What sorting and then dropping like neighbours gives. -/
theorem comp_ints {xs : List Int} (h : xs.Pairwise (· ≤ ·)) : compF (fun x y => decide (x = y)) none xs = sortI xs := by
  refine sortI_uniq (compF_rise (lt := (· < ·)) (fun x y h z => by simp at h; subst h; rfl) (fun x y z => by omega) (fun x y h1 h2 => by simp at h1; omega) none xs (h.imp fun h => by omega) (fun p hp => by cases hp)).1 fun x => ⟨fun hx => (compF_sublist _ none xs).subset hx, fun hx => ?_⟩
  rcases compF_mem (f := fun x => x) (eq := fun x y => decide (x = y)) (fun x y h => by simpa using h) none xs x hx with ⟨y, hy, e⟩ | ⟨p, hp, _⟩
  · subst e; exact hy
  · cases hp
def eqP (x y : Rl × Value) : Bool := decide (ordR x.1 y.1 = 0)
theorem comp_rules {ps : List (Rl × Value)} (h : ps.Pairwise fun x y => ¬ ltR y.1 x.1) : (compF eqP none ps).map (·.1) = sortO (ps.map (·.1)) := by
  refine sortO_uniq ?_ fun x => ?_
  · rw [List.pairwise_map]
    exact (compF_rise (lt := fun x y : Rl × Value => ltR x.1 y.1) (fun x y h z => by simp only [eqP, decide_eq_true_eq] at h; rw [ordR_eq.1 h]) (fun x y z => ltR_htr _ _ _) (fun x y h1 h2 => by
      simp only [eqP, decide_eq_false_iff_not] at h1
      rcases ltR_total x.1 y.1 with h | h | h
      · exact absurd h h2
      · exact absurd (ordR_eq.2 h) h1
      · exact h) none ps h (fun p hp => by cases hp)).1
  · simp only [List.mem_map]
    constructor
    · rintro ⟨p, hp, rfl⟩; exact ⟨p, (compF_sublist _ none ps).subset hp, rfl⟩
    · rintro ⟨p, hp, rfl⟩
      rcases compF_mem (f := fun x : Rl × Value => x.1) (eq := eqP) (fun x y h => by simp only [eqP, decide_eq_true_eq] at h; exact ordR_eq.1 h) none ps p hp with ⟨y, hy, e⟩ | ⟨p, hp, _⟩
      · exact ⟨y, hy, e⟩
      · cases hp
end Pal

/-
  Maps with ints asx keys, told by their entries in the order in which they were laid: one block. Lookups, stores, ranges. Own work. No statement of the seat is proved here.
-/
namespace Pal
open Go
abbrev KVs := List (Int × Value)
def entO (p : (Int × Value) × Nat) : MapEntry := ⟨.int .i64 p.1.1, p.1.2, p.2⟩
def mkEs (kvs : KVs) : Array MapEntry := (kvs.zipIdx.map entO).toArray
def mapOb (kvs : KVs) : Obj := .map (mkEs kvs) kvs.length
def findI (q : Int) : KVs → Nat → Option (Nat × Value)
  | [], _ => none
  | p :: r, j => if q = p.1 then some (j, p.2) else findI q r (j + 1)
def lookI (kvs : KVs) (q : Int) : Option Value := (findI q kvs 0).map (·.2)
theorem mkEs_get (kvs : KVs) (i : Nat) : (mkEs kvs)[i]? = (kvs[i]?).map fun p => entO (p, i) := by
  simp [mkEs, List.getElem?_zipIdx]
  cases kvs[i]? <;> simp
theorem mkEs_snoc (kvs : KVs) (p : Int × Value) : mkEs (kvs ++ [p]) = (mkEs kvs).push (entO (p, kvs.length)) := by
  simp [mkEs, List.zipIdx_append]
theorem findNow_mk (q : Int) : ∀ (kvs : KVs) (s j : Nat), Instr.findNow (.int .i64) (.int .i64 q) ((kvs.zipIdx s).map entO) j = some (findI q kvs j)
  | [], _, _ => rfl
  | p :: r, s, j => by
    rw [List.zipIdx_cons, List.map_cons]
    simp only [Instr.findNow, entO, Instr.sameNow, if_true, findI]
    by_cases h : q = p.1
    · simp [h]
    · have : (q == p.1) = false := by simpa using h
      rw [this, if_neg h]
      exact findNow_mk q r (s + 1) (j + 1)
theorem findI_some {q : Int} : ∀ {kvs : KVs} {j i : Nat} {v : Value}, findI q kvs j = some (i, v) → j ≤ i ∧ kvs[i - j]? = some (q, v) ∧ ∀ k, k < i - j → ∀ p, kvs[k]? = some p → p.1 ≠ q
  | [], _, _, _, h => by simp [findI] at h
  | p :: r, j, i, v, h => by
    simp only [findI] at h
    by_cases e : q = p.1
    · rw [if_pos e] at h
      cases h
      refine ⟨Nat.le_refl _, ?_, fun k hk => by omega⟩
      rw [Nat.sub_self]
      simp [e]
    · rw [if_neg e] at h
      obtain ⟨h1, h2, h3⟩ := findI_some h
      refine ⟨by omega, ?_, fun k hk p' hp' => ?_⟩
      · rw [show i - j = (i - (j + 1)) + 1 by omega]; simpa using h2
      · cases k with
        | zero => simp at hp'; subst hp'; exact fun e' => e e'.symm
        | succ k => exact h3 k (by omega) p' (by simpa using hp')
theorem findI_none {q : Int} : ∀ {kvs : KVs} {j : Nat}, findI q kvs j = none → ∀ p ∈ kvs, p.1 ≠ q
  | [], _, _, p, hp => by cases hp
  | a :: r, j, h, p, hp => by
    simp only [findI] at h
    by_cases e : q = a.1
    · rw [if_pos e] at h; cases h
    · rw [if_neg e] at h
      rcases List.mem_cons.1 hp with h' | h'
      · subst h'; exact fun e' => e e'.symm
      · exact findI_none h p h'
theorem lookI_none {kvs : KVs} {q : Int} (h : lookI kvs q = none) : ∀ p ∈ kvs, p.1 ≠ q := by
  unfold lookI at h
  cases hf : findI q kvs 0 with
  | none => exact findI_none hf
  | some p => rw [hf] at h; cases h
theorem lookI_some {kvs : KVs} {q : Int} {v : Value} (h : lookI kvs q = some v) : (q, v) ∈ kvs := by
  unfold lookI at h
  cases hf : findI q kvs 0 with
  | none => rw [hf] at h; cases h
  | some p =>
    obtain ⟨i, u⟩ := p
    rw [hf] at h
    cases h
    obtain ⟨_, h2, _⟩ := findI_some hf
    exact List.mem_of_getElem? h2
theorem lookI_isSome {kvs : KVs} {q : Int} : (lookI kvs q).isSome = true ↔ q ∈ kvs.map (·.1) := by
  cases h : lookI kvs q with
  | none =>
    simp only [Option.isSome_none, Bool.false_eq_true, false_iff]
    intro hm
    obtain ⟨p, hp, e⟩ := List.mem_map.1 hm
    exact lookI_none h p hp e
  | some v =>
    simp only [Option.isSome_some, true_iff]
    exact List.mem_map.2 ⟨_, lookI_some h, rfl⟩
theorem lookI_mem {kvs : KVs} {q : Int} {v : Value} (hn : (kvs.map (·.1)).Nodup) (h : (q, v) ∈ kvs) : lookI kvs q = some v := by
  cases hl : lookI kvs q with
  | none => exact absurd rfl (lookI_none hl _ h)
  | some u =>
    have := lookI_some hl
    have e := nodup_map_inj hn h this rfl
    cases e; rfl
/-- A store. -/
def setI (kvs : KVs) (q : Int) (v : Value) : KVs := match findI q kvs 0 with
  | some (i, _) => kvs.set i (q, v)
  | none => kvs ++ [(q, v)]
theorem setI_keys {kvs : KVs} (q : Int) (v : Value) (hn : (kvs.map (·.1)).Nodup) : ((setI kvs q v).map (·.1)).Nodup := by
  unfold setI
  cases h : findI q kvs 0 with
  | none =>
    simp only
    rw [List.map_append, List.nodup_append]
    refine ⟨hn, by simp, ?_⟩
    intro a ha b hb e
    simp at hb
    obtain ⟨p, hp, e2⟩ := List.mem_map.1 ha
    exact findI_none h p hp (by rw [e2, e, hb])
  | some p =>
    obtain ⟨i, u⟩ := p
    obtain ⟨_, h2, _⟩ := findI_some h
    simp only
    have : (kvs.set i (q, v)).map (·.1) = kvs.map (·.1) := by
      rw [List.map_set]
      apply List.ext_getElem?
      intro k
      rw [List.getElem?_set]
      split
      · rename_i e
        subst e
        simp only [Nat.sub_zero] at h2
        rw [List.getElem?_map, h2]
        have : i < kvs.length := (List.getElem?_eq_some_iff.1 h2).1
        simp [this]
      · rfl
    rw [this]; exact hn
theorem setI_mem {kvs : KVs} {q : Int} {v : Value} (hn : (kvs.map (·.1)).Nodup) {p : Int × Value} : p ∈ setI kvs q v ↔ p = (q, v) ∨ (p.1 ≠ q ∧ p ∈ kvs) := by
  unfold setI
  cases h : findI q kvs 0 with
  | none =>
    simp only [List.mem_append, List.mem_singleton]
    constructor
    · rintro (h1 | h1)
      · exact .inr ⟨findI_none h p h1, h1⟩
      · exact .inl h1
    · rintro (h1 | h1)
      · exact .inr h1
      · exact .inl h1.2
  | some r =>
    obtain ⟨i, u⟩ := r
    obtain ⟨_, h2, h3⟩ := findI_some h
    simp only [Nat.sub_zero] at h2
    have hi : i < kvs.length := (List.getElem?_eq_some_iff.1 h2).1
    have hge : kvs[i] = (q, u) := by simpa [hi] using h2
    simp only
    constructor
    · intro hm
      obtain ⟨k, hk, e⟩ := List.getElem_of_mem hm
      rw [List.getElem_set] at e
      split at e
      · exact .inl e.symm
      · rename_i hne
        have hk' : k < kvs.length := by simpa using hk
        refine .inr ⟨fun e2 => hne ?_, e ▸ List.getElem_mem _⟩
        have a1 : (kvs.map (·.1))[k]'(by simpa using hk') = (kvs.map (·.1))[i]'(by simpa using hi) := by
          simp only [List.getElem_map]
          rw [e, e2, hge]
        have hpw := List.pairwise_iff_getElem.1 hn
        rcases Nat.lt_trichotomy i k with h | h | h
        · exact absurd a1.symm (hpw i k (by simpa using hi) (by simpa using hk') h)
        · exact h
        · exact absurd a1 (hpw k i (by simpa using hk') (by simpa using hi) h)
    · rintro (h1 | ⟨h1, h2'⟩)
      · subst h1
        exact List.mem_iff_getElem.2 ⟨i, by simpa using hi, by simp⟩
      · obtain ⟨k, hk, e⟩ := List.getElem_of_mem h2'
        refine List.mem_iff_getElem.2 ⟨k, by simpa using hk, ?_⟩
        rw [List.getElem_set_ne]
        · exact e
        · intro e2
          subst e2
          rw [hge] at e
          rw [← e] at h1
          exact h1 rfl
theorem lookI_setI {kvs : KVs} {q q' : Int} {v : Value} (hn : (kvs.map (·.1)).Nodup) : lookI (setI kvs q v) q' = if q' = q then some v else lookI kvs q' := by
  by_cases e : q' = q
  · rw [if_pos e, e]
    exact lookI_mem (setI_keys q v hn) ((setI_mem hn).2 (.inl rfl))
  · rw [if_neg e]
    cases h : lookI kvs q' with
    | none =>
      cases h2 : lookI (setI kvs q v) q' with
      | none => rfl
      | some u =>
        rcases (setI_mem hn).1 (lookI_some h2) with h3 | ⟨_, h3⟩
        · cases h3; exact absurd rfl e
        · exact absurd rfl (lookI_none h _ h3)
    | some u => exact lookI_mem (setI_keys q v hn) ((setI_mem hn).2 (.inr ⟨e, lookI_some h⟩))
section
variable {P : Program} {n : Nat} {c : Cx} {Q : Exit → Act → World → Prop} {l : KL} {hl : HL} {H : View} {keep : HL} {fin : Bool}
variable {ol : List Oper} {ops : Array Oper} {rest : List Oper} {R : List Nat} {T : ST} {d i : Nat} {ty : TypeId} {pos : String} {aft : Array Edge} {g : Option (Nat × Bool)}
theorem run_checkKey_int {kt : TypeId} (hk : P.underlying kt = some (.int .i64)) (emp : Bool) (q : Int) (w : World) : (Instr.checkKey emp 10000 kt (.int .i64 q)).run P w = .ok () w := by
  show (Instr.checkKey emp (9999 + 1) kt (.int .i64 q)).run P w = _
  rw [Instr.checkKey, Sem.run_bind, run_underlying hk]
  rfl
theorem run_findKey_int {kt : TypeId} (hk : P.underlying kt = some (.int .i64)) (q : Int) (kvs : KVs) (w : World) : (Instr.findKey kt (.int .i64 q) (mkEs kvs).toList).run P w = .ok (findI q kvs 0) w := by
  have : (mkEs kvs).toList = (kvs.zipIdx 0).map entO := by simp [mkEs]
  rw [this]
  simp [Instr.findKey, run_underlying hk, findNow_mk]
/-- In the view, or owned. -/
def MapAt (H : View) (hl : HL) (b : Nat) (kvs : KVs) : Prop := H b = some (mapOb kvs) ∨ blk b (mapOb kvs) ∈ hl
theorem MapAt.heap {b : Nat} {kvs : KVs} (h : MapAt H hl b kvs) {w : World} (hw : Has w H hl) : w.heap[b]? = some (mapOb kvs) := by
  rcases h with h | h
  · exact hw.has _ _ h
  · exact hw.own _ h
theorem R_lookI {t kt et : TypeId} {x y : Operand} {b : Nat} {kvs : KVs} {q : Int} {ok : Bool} {z : Value} (ht : P.underlying t = some (.map kt et)) (hk : P.underlying kt = some (.int .i64)) (hz : zeroOk P et z)
    (hx : ev l x = some (mp b)) (hy : ev l y = some (.int .i64 q)) (hm : MapAt H hl b kvs) :
    ValOk P l H hl (.lookup t x y ok) ty (if ok then .tuple #[(lookI kvs q).getD z, .bool (lookI kvs q).isSome] else (lookI kvs q).getD z) := by
  intro e w hkn hw
  have hb' := hm.heap hw
  simp only [ex, execOp, hkn x _ hx, hkn y _ hy, Sem.run_bind, Instr.lookup, run_underlying ht, Result.andThen_ok, mp, MapKept.run_getObj_map hb', Sem.run_pure, run_checkKey_int hk, run_findKey_int hk, lookI]
  cases findI q kvs 0 with
  | none => cases ok <;> simp [hz.run w]
  | some p => cases ok <;> simp
theorem R_lookT {t kt et : TypeId} {x y : Operand} {b : Nat} {kvs : KVs} {q : Int} {z v : Value} (ht : P.underlying t = some (.map kt et)) (hk : P.underlying kt = some (.int .i64)) (hz : zeroOk P et z)
    (hx : ev l x = some (mp b)) (hy : ev l y = some (.int .i64 q)) (hm : MapAt H hl b kvs) (hv : .tuple #[(lookI kvs q).getD z, .bool (lookI kvs q).isSome] = v) : ValOk P l H hl (.lookup t x y true) ty v :=
  hv ▸ R_lookI (ok := true) ht hk hz hx hy hm
theorem R_lookV {t kt et : TypeId} {x y : Operand} {b : Nat} {kvs : KVs} {q : Int} {z v : Value} (ht : P.underlying t = some (.map kt et)) (hk : P.underlying kt = some (.int .i64)) (hz : zeroOk P et z)
    (hx : ev l x = some (mp b)) (hy : ev l y = some (.int .i64 q)) (hm : MapAt H hl b kvs) (hv : (lookI kvs q).getD z = v) : ValOk P l H hl (.lookup t x y false) ty v :=
  hv ▸ R_lookI (ok := false) ht hk hz hx hy hm
theorem run_setMap {w : World} {b : Nat} {es : Array MapEntry} {clk : Nat} (hb : w.heap[b]? = some (.map es clk)) (o' : Obj) : (setObj b o').run P w = .ok () (w.putObj b o') := by simp [setObj, Sem.run, hb, World.putObj]
theorem ok_put {w : World} {b : Nat} {o : Obj} (o' : Obj) (hw : Has w H [blk b o]) : Ok ⟨w, H, feet [blk b o]⟩ (w.putObj b o') H [blk b o'] := Ok.put o' hw.ok
theorem sameBits_int (q : Int) : Instr.sameBits 10000 (.int .i64 q) (.int .i64 q) = true := by
  show Instr.sameBits (9999 + 1) _ _ = _
  simp [Instr.sameBits]
theorem mkEs_set {kvs : KVs} {i : Nat} {q : Int} {v : Value} (hi : i < kvs.length) : mkEs (kvs.set i (q, v)) = (mkEs kvs).modify i fun e => { e with key := .int .i64 q, val := v } := by
  apply Array.ext_getElem?
  intro k
  rw [mkEs_get, Array.getElem?_modify, mkEs_get, List.getElem?_set]
  by_cases e : i = k
  · subst e
    simp [hi, entO]
  · simp [e]
theorem E_mapSet {t kt et : TypeId} {x y z : Operand} {b : Nat} {kvs : KVs} {q : Int} {val : Value} (ht : P.underlying t = some (.map kt et)) (hk : P.underlying kt = some (.int .i64))
    (hx : ev l x = some (mp b)) (hy : ev l y = some (.int .i64 q)) (hz : ev l z = some val) :
    Eff P l H [blk b (mapOb kvs)] (.mapUpdate t x y z) ty fun _ H' r => ∃ en', r = [en'] ∧ (H' = H ∧ en' = blk b (mapOb (setI kvs q val))) := by
  intro e w hkn hw
  have hb : w.heap[b]? = some (.map (mkEs kvs) kvs.length) := hw.own (blk b (mapOb kvs)) (by simp)
  have hrun : (ex e (.mapUpdate t x y z) ty).run P w = .ok .skip (w.putObj b (mapOb (setI kvs q val))) := by
    simp only [ex, execOp, hkn x _ hx, hkn y _ hy, hkn z _ hz, Sem.run_bind, Instr.mapUpdate, run_underlying ht, Result.andThen_ok, mp, MapKept.run_getObj_map hb, Sem.run_pure, run_checkKey_int hk, run_findKey_int hk]
    unfold setI
    cases hf : findI q kvs 0 with
    | none =>
      simp only [run_setMap hb, Result.andThen_ok, mapOb, mkEs_snoc, entO, List.length_append, List.length_singleton]
    | some p =>
      obtain ⟨i, u⟩ := p
      obtain ⟨_, h2, _⟩ := findI_some hf
      simp only [Nat.sub_zero] at h2
      have hi : i < kvs.length := (List.getElem?_eq_some_iff.1 h2).1
      have hkey : (((mkEs kvs)[i]?).map (·.key)).getD (.int .i64 q) = .int .i64 q := by rw [mkEs_get, h2]; rfl
      simp only [hkey, Instr.keyThatStays, sameBits_int, if_true, Sem.run_bind, Sem.run_pure, Result.andThen_ok, run_setMap hb, mapOb, mkEs_set hi, List.length_set]
  rw [hrun]
  exact ⟨H, _, ok_put _ hw, _, rfl, rfl, rfl⟩
theorem K_mapSet {t kt et : TypeId} {x y z : Operand} {b : Nat} {kvs : KVs} {q : Int} {val : Value} (ht : P.underlying t = some (.map kt et)) (hk : P.underlying kt = some (.int .i64)) (j : Nat)
    (hx : ev l x = some (mp b)) (hy : ev l y = some (.int .i64 q)) (hz : ev l z = some val) (hj : hl[j]? = some (blk b (mapOb kvs)))
    (h : KO P n c ops Q rest l (hl.set j (blk b (mapOb (setI kvs q val)))) H) : KO P n c ops Q (⟨none, .mapUpdate t x y z, ty, pos, aft, none⟩ :: rest) l hl H :=
  KE1_ j hj (E_mapSet ht hk hx hy hz) (by rintro v H' en' _ ⟨rfl, rfl⟩; exact h)
theorem D_lastSet {t kt et : TypeId} {x y z : Operand} {b : Nat} {kvs : KVs} {q : Int} {val : Value} (ht : P.underlying t = some (.map kt et)) (hk : P.underlying kt = some (.int .i64)) (j : Nat)
    (hi : nthO ol i = some ⟨none, .mapUpdate t x y z, ty, pos, aft, g⟩) (hw : wlO ol l g = some true)
    (hx : ev l x = some (mp b)) (hy : ev l y = some (.int .i64 q)) (hz : ev l z = some val) (hj : hl[j]? = some (blk b (mapOb kvs)))
    (h : KQ n c Q .normal l (hl.set j (blk b (mapOb (setI kvs q val)))) H) : KD P n ol.toArray keep true (TQ n c Q) [i] l hl H :=
  D_last [_] (hl.eraseIdx j) hi hw rfl (perm_erase hj) (E_mapSet ht hk hx hy hz) (by
    rintro v H' q' _ ⟨en', rfl, rfl, rfl⟩
    exact fun ρ w hm ho => h ρ w hm (ho.perm (perm_set hj)))
/-! ### out[k] = f(out[k]) -/
def itO (m : Nat) (k : Nat) (seen : List Nat) : Obj := .mapIter (some m) k seen.toArray k
theorem E_range {t kt et : TypeId} {x : Operand} {m : Nat} {kvs : KVs} (ht : P.underlying t = some (.map kt et)) (hx : ev l x = some (mp m)) (hm : ∀ w, Has w H hl → w.heap[m]? = some (mapOb kvs)) :
    Eff P l H hl (.range t x) ty fun v H' r => ∃ b, v = ptr b ∧ H' = H ∧ r = blk b (itO m kvs.length []) :: hl := by
  intro e w hkn hw
  have hb : w.heap[m]? = some (.map (mkEs kvs) kvs.length) := hm w hw
  have hrun : (ex e (.range t x) ty).run P w = .ok (.value (ptr w.heap.size)) (w.alloc (itO m kvs.length [])) := by
    simp only [ex, execOp, hkn x _ hx, Sem.run_bind, Instr.range, run_underlying ht, Result.andThen_ok, mp, MapKept.run_getObj_map hb, Sem.run_pure, newObj, Sem.run]
    rfl
  rw [hrun]
  exact ⟨H, _, hw.ok.alloc _, _, rfl, rfl, rfl⟩
theorem E_next {xo : Operand} {b m : Nat} {kvs : KVs} {seen : List Nat} {p : HL} (hx : ev l xo = some (ptr b)) (hm : ∀ w, Has w H (blk b (itO m kvs.length seen) :: p) → w.heap[m]? = some (mapOb kvs)) :
    Eff P l H (blk b (itO m kvs.length seen) :: p) (.next xo false) ty fun v H' r => H' = H ∧
      ((v = .tuple #[.bool false] ∧ r = blk b (itO m kvs.length seen) :: p ∧ ∀ i, i < kvs.length → i ∈ seen) ∨
       ∃ (i : Nat) (q : Int) (u : Value), kvs[i]? = some (q, u) ∧ i ∉ seen ∧ v = .tuple #[.bool true, .int .i64 q, u] ∧ r = blk b (itO m kvs.length (seen ++ [i])) :: p) := by
  intro e w hkn hw
  have hb : w.heap[b]? = some (.mapIter (some m) kvs.length seen.toArray kvs.length) := hw.own (blk b (itO m kvs.length seen)) (by simp)
  have hmm : w.heap[m]? = some (.map (mkEs kvs) kvs.length) := hm w hw
  have hborn : ∀ x ∈ (mkEs kvs).toList, ∃ i q u, kvs[i]? = some (q, u) ∧ x = ⟨.int .i64 q, u, i⟩ := by
    intro x hx
    obtain ⟨i, hi⟩ := List.mem_iff_getElem?.1 hx
    have h2 := mkEs_get kvs i
    rw [Array.getElem?_toList] at hi
    rw [hi] at h2
    cases hk : kvs[i]? with
    | none => rw [hk] at h2; cases h2
    | some p =>
      rw [hk] at h2
      exact ⟨i, p.1, p.2, by rw [hk], by simpa [entO] using h2⟩
  have hold : ∀ x ∈ (mkEs kvs).toList, x.born < kvs.length := by
    intro x hx
    obtain ⟨i, q, u, h1, rfl⟩ := hborn x hx
    exact (List.getElem?_eq_some_iff.1 h1).1
  rcases run_next_at (P := P) w ty b m kvs.length kvs.length seen.toArray (mkEs kvs) kvs.length hb hmm hold (Nat.le_refl _) with ⟨h0, hr⟩ | ⟨x, hx2, w1, hw1, hr⟩
  · have hrun : (ex e (.next xo false) ty).run P w = .ok (.value (.tuple #[.bool false])) w := by
      simp only [ex, execOp, hkn xo _ hx, ptr, Sem.run_bind, hr, Result.andThen_ok, Sem.run_pure]
    rw [hrun]
    refine ⟨H, _, hw.ok, rfl, .inl ⟨rfl, rfl, fun i hi => ?_⟩⟩
    have he : leftOf (mkEs kvs) seen.toArray = #[] := Array.eq_empty_of_size_eq_zero h0
    unfold leftOf at he
    rw [Array.filter_eq_empty_iff] at he
    have hg : (mkEs kvs)[i]? = some (entO (kvs[i], i)) := by rw [mkEs_get, List.getElem?_eq_getElem hi]; rfl
    have := he _ (Array.mem_of_getElem? hg)
    simpa [entO] using this
  · have hin : x ∈ (mkEs kvs).toList ∧ ¬ x.born ∈ seen := by
      unfold leftOf at hx2
      simpa using hx2
    obtain ⟨i, q, u, h1, rfl⟩ := hborn x hin.1
    have hsb : ChangeMaps.setBlock w1 b (.mapIter (some m) kvs.length (seen.toArray.push i) kvs.length) = w1.putObj b (itO m kvs.length (seen ++ [i])) := by
      simp [ChangeMaps.setBlock, World.putObj, itO]
    have hrun : (ex e (.next xo false) ty).run P w = .ok (.value (.tuple #[.bool true, .int .i64 q, u])) (w1.putObj b (itO m kvs.length (seen ++ [i]))) := by
      simp only [ex, execOp, hkn _ _ hx, ptr, Sem.run_bind, hr, Result.andThen_ok, Sem.run_pure, hsb]
    rw [hrun]
    have hw2 : Ok ⟨w, H, feet (blk b (itO m kvs.length seen) :: p)⟩ w1 H (blk b (itO m kvs.length seen) :: p) := by
      rcases hw1 with rfl | rfl
      · exact hw.ok
      · exact hw.ok.drew
    exact ⟨H, _, hw2.put _, rfl, .inr ⟨i, q, u, h1, hin.2, rfl, rfl⟩⟩
end
end Pal

/-
  Owned blocks lent to the view for one call; sorted rows. Own work. No statement of the seat is proved here.
-/
namespace Pal
open Go
/-- What is owned is shown for one call that only reads it. -/
theorem SatO.lend {P : Program} {f : FuncId} {args : Array Value} {H : View} {hl : HL} (p : HL) {post : Value → HL → Prop}
    (h : ∀ H2, VLe H H2 → (∀ e ∈ p, e.holds H2) → SatO P f args H2 hl (fun v _ q => post v q)) : SatO P f args H (hl ++ p) (fun v H' q => H' = H ∧ ∃ q', q = q' ++ p ∧ post v q') := by
  intro w hw
  have hnd := hw.nd
  rw [feet_append, List.nodup_append] at hnd
  obtain ⟨nd1, nd2, ndx⟩ := hnd
  let H2 : View := fun b => if b ∈ feet p then w.heap[b]? else H b
  have hHn : ∀ b ∈ feet p, H b = none := fun b hb => hw.foot b (by rw [feet_append]; exact List.mem_append_right _ hb)
  have hle : VLe H H2 := by
    intro b o ho
    have : b ∉ feet p := fun hm => by rw [hHn b hm] at ho; cases ho
    simp only [H2, this, if_false]; exact ho
  have hown : ∀ e ∈ p, e.holds H2 := by
    intro e he
    refine e.loc _ _ (fun b hb => ?_) (hw.own e (List.mem_append_right _ he))
    have : b ∈ feet p := mem_feet.2 ⟨e, he, hb⟩
    simp only [H2, this, if_true]; rfl
  have hw2 : Has w H2 hl := by
    refine ⟨fun b o hb => ?_, fun e he => hw.own e (List.mem_append_left _ he), fun b hb => ?_, nd1⟩
    · by_cases hm : b ∈ feet p
      · simpa only [H2, hm, if_true] using hb
      · simp only [H2, hm, if_false] at hb; exact hw.has b o hb
    · have hm : b ∉ feet p := fun hm => ndx b hb b hm rfl
      simp only [H2, hm, if_false]
      exact hw.foot b (by rw [feet_append]; exact List.mem_append_left _ hb)
  refine Calls.mono (h H2 hle hown w hw2) ?_
  rintro e w' ⟨v, H', q, rfl, k, hpost⟩
  have hlt : ∀ b ∈ feet p, b < w.heap.size := fun b hb => hw.lt (by rw [feet_append]; exact List.mem_append_right _ hb)
  have hsame : ∀ b ∈ feet p, w'.heap[b]? = w.heap[b]? := fun b hb => k.old b (hlt b hb) (fun hm => ndx b hm b hb rfl)
  have hsome : ∀ b ∈ feet p, ∃ o, H' b = some o := by
    intro b hb
    have hb2 : H2 b = w.heap[b]? := by simp only [H2, hb, if_true]
    have := Array.getElem?_eq_getElem (hlt b hb)
    exact ⟨_, k.le b _ (by show H2 b = _; rw [hb2, this])⟩
  refine ⟨v, H, q ++ p, rfl, ⟨k.os, k.tape, k.output, k.drawn, k.size, ?_, fun _ _ _ => rfl, fun _ _ h => h, ?_, ?_, ?_, ?_⟩, rfl, q, rfl, hpost⟩
  · intro b hb hp
    exact k.old b hb (fun hm => hp (by show b ∈ feet (hl ++ p); rw [feet_append]; exact List.mem_append_left _ hm))
  · intro b o hb
    exact k.has b o (k.le b o (hle b o hb))
  · intro e he
    rcases List.mem_append.1 he with he | he
    · exact k.own e he
    · exact e.loc _ _ (fun b hb => hsame b (mem_feet.2 ⟨e, he, hb⟩)) (hw.own e (List.mem_append_right _ he))
  · intro b hb
    rw [feet_append] at hb
    show H b = none ∧ (w.heap.size ≤ b ∨ b ∈ feet (hl ++ p))
    rcases List.mem_append.1 hb with hb | hb
    · obtain ⟨h2, h3⟩ := k.foot b hb
      refine ⟨?_, ?_⟩
      · cases hH : H b with
        | none => rfl
        | some o => have := k.le b o (hle b o hH); rw [h2] at this; cases this
      · rcases h3 with h3 | h3
        · exact .inl h3
        · exact .inr (by rw [feet_append]; exact List.mem_append_left _ h3)
    · exact ⟨hHn b hb, .inr (by rw [feet_append]; exact List.mem_append_right _ hb)⟩
  · rw [feet_append, List.nodup_append]
    refine ⟨k.nd, nd2, ?_⟩
    intro b hb b' hb' e
    subst e
    obtain ⟨o, ho⟩ := hsome b hb'
    rw [(k.foot b hb).1] at ho; cases ho
theorem row_view {v : Value} {e : TypeId} {sz k : Nat} {xs : List Value} {H : View} (h : (row v e sz k xs).holds H) : rowAt H v k xs ∧ ∃ a cap, v = .slice a k cap ∧ k ≤ cap := by
  obtain ⟨h1, h2⟩ := h
  rcases h2 with ⟨rfl, rfl⟩ | ⟨g, cap, cur, rfl, hg, hk, hc, hs, ht⟩
  · exact ⟨.inl ⟨rfl, rfl, List.eq_nil_of_length_eq_zero (by simpa using h1)⟩, none, 0, rfl, Nat.le_refl _⟩
  · refine ⟨.inr ⟨g, cap, rfl, cur, e, _, hg, fun j u hj => ?_⟩, _, _, rfl, hk⟩
    rw [← ht, List.getElem?_take] at hj
    split at hj
    · simpa using hj
    · cases hj

/-! ### A row, sorted in place -/
theorem putRow_at {α : Type} [Inhabited α] {enc : α → Value} {w : World} {b : Nat} {d : Array α} {cur : Array Value} {e : TypeId} {fz : Nat × Nat} (hb : w.heap[b]? = some (.cells cur e fz)) :
    (Sort.putRow enc w b 0 d).heap[b]? = some (.cells (Sort.putCells enc 0 d cur) e fz) ∧ (∀ k, k ≠ b → (Sort.putRow enc w b 0 d).heap[k]? = w.heap[k]?) ∧ (Sort.putRow enc w b 0 d).heap.size = w.heap.size := by
  unfold Sort.putRow Sort.mapBlock
  refine ⟨?_, fun k hk => ?_, ?_⟩
  · simp [Array.getElem?_modify, hb, Sort.onCells]
  · have : b ≠ k := fun e => hk e.symm
    simp [Array.getElem?_modify, this]
  · simp
theorem putCells_take {α : Type} [Inhabited α] {enc : α → Value} {d : Array α} {cur : Array Value} (h : d.size ≤ cur.size) : (Sort.putCells enc 0 d cur).toList.take d.size = d.toList.map enc ∧ (Sort.putCells enc 0 d cur).size = cur.size := by
  refine ⟨?_, by simp [Sort.putCells]⟩
  apply List.ext_getElem?
  intro i
  rw [List.getElem?_take, List.getElem?_map]
  by_cases hi : i < d.size
  · have h2 : i < cur.size := by omega
    simp [hi, Sort.putCells, h2]
  · simp [hi]
theorem ok_sorted {α : Type} [Inhabited α] {enc : α → Value} {w : World} {H : View} {g k cap sz n : Nat} {cur : Array Value} {e : TypeId} {d : Array α} {os : Array Obj} {xs : List Value} (hw : Has w H [row (.slice (some ⟨g, 0, none⟩) k cap) e sz k xs])
    (hg : w.heap[g]? = some (.cells cur e (0, 0))) (hk : k ≤ cap) (hc : cap ≤ maxLen) (hs : cur.size = cap * sz) (hd : d.size = k * sz) :
    Ok ⟨w, H, feet [row (.slice (some ⟨g, 0, none⟩) k cap) e sz k xs]⟩ (Sort.grow (Sort.putRow enc (Sort.ahead w n) g 0 d) os) H [row (.slice (some ⟨g, 0, none⟩) k cap) e sz k (d.toList.map enc)] := by
  have hle : d.size ≤ cur.size := by rw [hd, hs]; exact Nat.mul_le_mul_right _ hk
  obtain ⟨p1, p2, p3⟩ := putRow_at (enc := enc) (w := Sort.ahead w n) (d := d) hg
  have hlt : g < w.heap.size := lt_of_heap hg
  have hsz : w.heap.size ≤ (Sort.grow (Sort.putRow enc (Sort.ahead w n) g 0 d) os).heap.size := by
    rw [Sort.size_grow, p3]; exact Nat.le_add_right _ _
  refine ok1 hw rfl rfl rfl (Nat.le_add_right _ _) hsz ?_ ?_ (fun b hb => .inl hb) (by simp [row, rowFoot])
  · intro j hj hn
    have hne : j ≠ g := fun e => hn (by subst e; simp [row, rowFoot])
    rw [Sort.heap_grow_old _ _ (by rw [p3]; exact hj), p2 j hne]; rfl
  · obtain ⟨t1, t2⟩ := putCells_take (enc := enc) hle
    refine ⟨by simp [hd], .inr ⟨g, cap, _, rfl, ?_, hk, hc, by rw [t2, hs], by rw [← hd]; exact t1⟩⟩
    show (Sort.grow _ os).heap[g]? = _
    rw [Sort.heap_grow_old _ _ (by rw [p3]; exact hlt), p1]
theorem holds_of_row {α : Type} [Inhabited α] {enc : α → Value} {w : World} {g : Nat} {cur : Array Value} {e : TypeId} {d : Array α} (hg : w.heap[g]? = some (.cells cur e (0, 0))) (hc : cur.toList.take d.size = d.toList.map enc) : Sort.Holds enc w g 0 d := by
  intro j hj
  have h1 : (cur.toList.take d.size)[j]? = (d.toList.map enc)[j]? := by rw [hc]
  rw [List.getElem?_take, if_pos hj, List.getElem?_map] at h1
  refine ⟨?_, ?_⟩
  · simp only [World.cell?, hg, Nat.zero_add]
    have : (d[j]!) = d[j] := getElem!_pos d j hj
    rw [this]
    simpa [hj] using h1
  · simp [World.frozen?, hg]
/-! ### slices.SortFunc at rules -/
/-- A rule and its slice's value. -/
def RVok (H : View) (p : Rl × Value) : Prop := SI H p.2 p.1.args ∧ p.1.args.length ≤ 1099511627776 ∧ i64ok p.1.sym ∧ i64ok p.1.to
theorem RVok.mono {H H' : View} {p : Rl × Value} (h : RVok H p) (hle : VLe H H') : RVok H' p := ⟨h.1.mono hle, h.2⟩
def cellRV (p : Rl × Value) : List Value := [.int .i64 p.1.sym, p.2, .int .i64 p.1.to]
def cellsP (ps : List (Rl × Value)) : List Value := ps.flatMap cellRV
theorem flatK_toList {α : Type} [Inhabited α] {enc : α → List Value} {k : Nat} (hk : ∀ x, (enc x).length = k) (d : Array α) : (Go.Sort.flatK enc k d).toList = d.toList.flatMap enc := by
  have hlen : ∀ l : List α, (l.flatMap enc).length = l.length * k := by
    intro l
    induction l with
    | nil => simp
    | cons a l ih => simp only [List.flatMap_cons, List.length_append, ih, hk, List.length_cons, Nat.succ_mul]; omega
  have hget : ∀ (l : List α) (t : Nat), t < l.length * k → ∀ (a : α), l[t / k]? = some a → (l.flatMap enc)[t]? = (enc a)[t % k]? := by
    intro l
    induction l with
    | nil => intro t h; simp at h
    | cons b l ih =>
      intro t h a ha
      rw [List.flatMap_cons, List.getElem?_append, hk]
      by_cases ht : t < k
      · rw [if_pos ht]
        rw [Nat.div_eq_of_lt ht] at ha
        simp at ha
        rw [Nat.mod_eq_of_lt ht, ha]
      · rw [if_neg ht]
        have h0 : 0 < k := by
          rcases Nat.eq_zero_or_pos k with e | e
          · subst e; simp at h
          · exact e
        have e1 : t / k = (t - k) / k + 1 := by rw [Nat.div_eq_sub_div h0 (by omega)]
        have e2 : t % k = (t - k) % k := by rw [Nat.mod_eq_sub_mod (by omega)]
        rw [e1] at ha
        rw [e2]
        refine ih (t - k) (by simp only [List.length_cons, Nat.succ_mul] at h; omega) a (by simpa using ha)
  apply List.ext_getElem?
  intro t
  by_cases ht : t < d.size * k
  · have h0 : 0 < k := by
      rcases Nat.eq_zero_or_pos k with e | e
      · subst e; simp at ht
      · exact e
    have hq : t / k < d.size := by rw [Nat.div_lt_iff_lt_mul h0]; exact ht
    rw [hget d.toList t (by simpa using ht) d[t / k] (by simp [hq])]
    have hs : t < (Go.Sort.flatK enc k d).size := by rw [Go.Sort.size_flatK]; exact ht
    have hg := Go.Sort.get_flatK enc k d t ht
    rw [getElem!_pos _ t hs] at hg
    rw [Array.getElem?_toList, Array.getElem?_eq_getElem hs, hg, getElem!_pos d _ hq]
    have hm : t % k < (enc d[t / k]).length := by rw [hk]; exact Nat.mod_lt _ h0
    rw [getElem!_pos (enc d[t / k]) (t % k) hm, List.getElem?_eq_getElem hm]
  · rw [List.getElem?_eq_none (by simp [Go.Sort.size_flatK]; omega), List.getElem?_eq_none (by rw [hlen]; simp; omega)]
section
variable {P : Program} {ρ : Go.Shelf.Ren}
open Go.Proofs Go.Shelf Go.Sort
theorem sortRules (L : SlLaysF0.n6 P ρ) (aE : ∀ w, (isAgg (ρ.t 24)).run P w = .ok true w) (zE : ∀ w, (Go.sizeOf (ρ.t 24)).run P w = .ok 3 w) (g : Nat) (hg : callable P g = true) (H : View) (e : TypeId)
    (hord : ∀ (r s : Rl) (v u : Value), RVok H (r, v) → RVok H (s, u) → Sat P g #[.agg #[.int .i64 r.sym, v, .int .i64 r.to], .agg #[.int .i64 s.sym, u, .int .i64 s.to]] H (fun x _ => x = .int .i64 (ordR r s)))
    (ps : List (Rl × Value)) (hps : ∀ p ∈ ps, RVok H p) (v : Value) (hlen : ps.length < 4611686018427387904) :
    SatO P (ρ.f 6) #[v, .func (.func g) #[] #[]] H [row v e 3 ps.length (cellsP ps)] (fun r H' q => r = .tuple #[] ∧ H' = H ∧ ∃ ps', ps'.Perm ps ∧ ps'.Pairwise (fun x y => ¬ ltR y.1 x.1) ∧ q = [row v e 3 ps'.length (cellsP ps')]) := by
  intro w hw
  obtain ⟨hl1, hrow⟩ := hw.own _ (List.mem_cons_self ..)
  rcases hrow with ⟨rfl, h0⟩ | ⟨gb, cap, cur, rfl, hgb, hk, hc, hs, ht⟩
  · have hnil : ps = [] := List.eq_nil_of_length_eq_zero h0
    subst hnil
    refine Calls.mono (AnyF.slices_SortFunc_none L none 0 _ w) ?_
    rintro e w' ⟨rfl, rfl⟩
    exact ⟨_, H, _, rfl, hw.ok, rfl, rfl, [], List.Perm.refl _, List.Pairwise.nil, rfl⟩
  · let A := { p : Rl × Value // RVok H p }
    let enc : A → List Value := fun x => cellRV x.1
    have dflt : RVok H (⟨0, [], 0⟩, nilS) := ⟨⟨⟨none, 0, rfl, .inl ⟨rfl, rfl⟩⟩, fun x hx => by cases hx⟩, by simp, (by unfold i64ok; decide), (by unfold i64ok; decide)⟩
    haveI : Inhabited A := ⟨⟨_, dflt⟩⟩
    let d : Array A := (ps.attach.map fun p => (⟨p.1, hps p.1 p.2⟩ : A)).toArray
    have hdl : d.toList.map (·.1) = ps := by simp only [d, List.map_map, Function.comp_def]; exact List.attach_map_subtype_val ps
    have hds : d.size = ps.length := by simp [d]
    let cf : A → A → Int := fun x y => ordR x.1.1 y.1.1
    have hencl : ∀ x : A, (enc x).length = 3 := fun x => rfl
    have hfl : ∀ l : List A, l.flatMap enc = cellsP (l.map (·.1)) := by
      intro l
      simp only [cellsP, List.flatMap_map]
      rfl
    have hlt : ∀ x y : A, ltOf cf x y = true ↔ ltR x.1.1 y.1.1 := fun x y => by simp [ltOf, cf, ltR]
    have hO : SWO (ltOf cf) := by
      refine ⟨fun x => ?_, fun x y z h1 h2 => ?_, fun x y z h1 h2 => ?_⟩
      · cases h : ltOf cf x x with
        | false => rfl
        | true => exact absurd ((hlt x x).1 h) (ltR_irr _)
      · exact (hlt x z).2 (ltR_trans _ _ _ ((hlt x y).1 h1) ((hlt y z).1 h2))
      · cases h : ltOf cf x z with
        | false => rfl
        | true =>
          have n1 : ¬ ltR x.1.1 y.1.1 := fun hh => by rw [(hlt x y).2 hh] at h1; cases h1
          have n2 : ¬ ltR y.1.1 z.1.1 := fun hh => by rw [(hlt y z).2 hh] at h2; cases h2
          exact absurd (ltR_htr _ _ _ ((hlt x z).1 h) n2) n1
    have hblk : gb < w.heap.size := lt_of_heap hgb
    have hFl : (Go.Sort.flatK enc 3 d).toList = cellsP ps := by rw [flatK_toList hencl, hfl, hdl]
    have hH : HoldsK enc 3 w gb 0 d := by
      refine holds_of_row hgb ?_
      rw [Go.Sort.size_flatK, hds, ht, hFl]; simp
    have hold : ∀ (w2 : World), (∀ b o, H b = some o → w2.heap[b]? = some o) → Has w2 H [] := fun w2 h => ⟨h, fun _ he => (by cases he), fun _ hb => (by simp [feet] at hb), by simp [feet]⟩
    have hHgb : H gb = none := hw.foot gb (by simp [feet, row, rowFoot])
    have hcmp : CmpLays P g #[] enc 3 cf gb 0 d.size w := by
      intro m os dk hdk x y
      have hs2 : dk.size = d.size := hdk
      obtain ⟨p1, p2, p3⟩ := putRow_at (enc := id) (w := Sort.ahead w m) (d := Go.Sort.flatK enc 3 dk) hgb
      have hhas : ∀ b o, H b = some o → (sortWorldK enc 3 w gb 0 m dk os).heap[b]? = some o := by
        intro b o hb
        have hne : b ≠ gb := fun e => by subst e; rw [hHgb] at hb; cases hb
        have h1 := hw.has b o hb
        show (Sort.grow (Sort.putRow id (Sort.ahead w m) gb 0 _) os).heap[b]? = _
        rw [Sort.heap_grow_old _ _ (by rw [p3]; exact lt_of_heap h1), p2 b hne]; exact h1
      have hcall := hord x.1.1 y.1.1 x.1.2 y.1.2 x.2 y.2 _ (hold _ hhas)
      refine Calls.mono hcall ?_
      rintro e w' ⟨v, H', q, rfl, hok, rfl⟩
      refine ⟨rfl, w'.drawn - (sortWorldK enc 3 w gb 0 m dk os).drawn, w'.heap.extract (sortWorldK enc 3 w gb 0 m dk os).heap.size w'.heap.size, ?_⟩
      generalize sortWorldK enc 3 w gb 0 m dk os = W at hok ⊢
      have e1 : w'.heap = W.heap ++ w'.heap.extract W.heap.size w'.heap.size := by
        apply Array.ext_getElem?
        intro k
        rw [Array.getElem?_append]
        have hsz := hok.size
        dsimp only at hsz
        by_cases hk : k < W.heap.size
        · rw [if_pos hk]; exact hok.old k hk (by simp [feet])
        · rw [if_neg hk, Array.getElem?_extract]
          have : Nat.min w'.heap.size w'.heap.size = w'.heap.size := Nat.min_self _
          by_cases hk2 : k < w'.heap.size
          · rw [if_pos (by omega)]; congr 1; omega
          · rw [if_neg (by omega), Array.getElem?_eq_none (by omega)]
      have e2 := hok.os
      have e3 := hok.tape
      have e4 := hok.output
      have e5 := hok.drawn
      dsimp only at e2 e3 e4 e5
      unfold Sort.grow World.drewN
      cases w'
      cases W
      simp only at e1 e2 e3 e4 e5 ⊢
      subst e2 e3 e4
      simp only [World.mk.injEq, true_and, and_true]
      exact ⟨e1, by omega⟩
    have hrun := AnyQ.slices_SortFunc (α := A) L 3 aE zE enc hencl (fun x u hu => by
      obtain ⟨a, cp, he⟩ := x.2.1.shape
      simp only [enc, cellRV, List.mem_cons, List.not_mem_nil, or_false] at hu
      rcases hu with rfl | rfl | rfl
      · rfl
      · rw [he]; rfl
      · rfl) cf hO g #[] gb 0 cap d w (callable.run hg) hcmp hH hblk (by omega)
    rw [hds] at hrun
    refine Calls.mono hrun ?_
    rintro e w' ⟨rfl, d', n, os, hperm, hsort, rfl⟩
    obtain ⟨hsz, _, hpm⟩ := hperm
    have hext : ∀ (x : Array A), x.size = ps.length → x.extract 0 ps.length = x := by
      intro x hx; rw [← hx]; exact Array.extract_size
    rw [hext d' (hsz.trans hds), hext d hds] at hpm
    have hF' : (Go.Sort.flatK enc 3 d').toList = cellsP (d'.toList.map (·.1)) := by rw [flatK_toList hencl, hfl]
    have hlen' : (d'.toList.map (·.1)).length = ps.length := by simp [hsz, hds]
    refine ⟨_, H, _, rfl, ok_sorted (enc := id) (d := Go.Sort.flatK enc 3 d') (n := n) (os := os) hw hgb hk hc hs (by rw [Go.Sort.size_flatK, hsz, hds]), rfl, rfl, d'.toList.map (·.1), ?_, ?_, ?_⟩
    · rw [← hdl]; exact hpm.map _
    · rw [List.pairwise_map, List.pairwise_iff_getElem]
      intro i j hi hj hij hlt2
      have hi2 : i < d'.size := by simpa using hi
      have hj2 : j < d'.size := by simpa using hj
      have hq := hsort i j (Nat.zero_le _) hij (by rw [← hds, ← hsz]; exact hj2)
      rw [getElem!_pos d' j hj2, getElem!_pos d' i hi2] at hq
      rw [(hlt _ _).2 (by simpa using hlt2)] at hq
      cases hq
    · rw [hlen', List.map_id, hF']
end
end Pal

/-
  Rows opened and shut, a slice's end cleared, neighbours alike dropped in place. Own work. No statement of the seat is proved here.
-/
namespace Pal
open Go
section
variable {P : Program} {n : Nat} {c : Cx} {Q : Exit → Act → World → Prop} {l : KL} {hl : HL} {H : View} {ops : Array Oper} {rest : List Oper}
theorem Ok.openRow {w : World} {v : Value} {e : TypeId} {sz k : Nat} {xs : List Value} (h : Ok c w H (row v e sz k xs :: hl)) :
    (v = nilS ∧ k = 0 ∧ xs = []) ∨ ∃ g cap tail, v = .slice (some ⟨g, 0, none⟩) k cap ∧ k ≤ cap ∧ cap ≤ maxLen ∧ xs.length = k * sz ∧ (xs ++ tail).length = cap * sz ∧ Ok c w H (blk g (.cells (xs ++ tail).toArray e (0, 0)) :: hl) := by
  obtain ⟨h1, h2⟩ := h.own _ List.mem_cons_self
  rcases h2 with ⟨rfl, rfl⟩ | ⟨g, cap, cur, rfl, hg, hk, hc, hs, ht⟩
  · exact .inl ⟨rfl, rfl, List.eq_nil_of_length_eq_zero (by simpa using h1)⟩
  · have hcur : xs ++ cur.toList.drop (k * sz) = cur.toList := by rw [← ht]; exact List.take_append_drop _ _
    refine .inr ⟨g, cap, cur.toList.drop (k * sz), rfl, hk, hc, h1, by rw [hcur]; simpa using hs, ?_⟩
    rw [hcur]
    refine ⟨h.os, h.tape, h.output, h.drawn, h.size, h.old, h.vold, h.le, h.has, ?_, fun b hb => h.foot b (by simpa [feet, row, rowFoot, blk] using hb), by simpa [feet, row, rowFoot, blk] using h.nd⟩
    intro x hx
    rcases List.mem_cons.1 hx with rfl | hx
    · exact hg
    · exact h.own x (List.mem_cons_of_mem _ hx)
theorem Ok.shutRow {w : World} {e : TypeId} {sz k g cap : Nat} {xs : List Value} {cur : Array Value} (hk : k ≤ cap) (hc : cap ≤ maxLen) (hx : xs.length = k * sz) (hs : cur.size = cap * sz) (ht : cur.toList.take (k * sz) = xs)
    (h : Ok c w H (blk g (.cells cur e (0, 0)) :: hl)) : Ok c w H (row (.slice (some ⟨g, 0, none⟩) k cap) e sz k xs :: hl) := by
  refine ⟨h.os, h.tape, h.output, h.drawn, h.size, h.old, h.vold, h.le, h.has, ?_, fun b hb => h.foot b (by simpa [feet, row, rowFoot, blk] using hb), by simpa [feet, row, rowFoot, blk] using h.nd⟩
  intro x hx2
  rcases List.mem_cons.1 hx2 with rfl | hx2
  · exact ⟨hx, .inr ⟨g, cap, cur, rfl, h.own _ List.mem_cons_self, hk, hc, hs, ht⟩⟩
  · exact h.own x (List.mem_cons_of_mem _ hx2)
theorem KQ_shutRow {x : Exit} {e : TypeId} {sz k g cap : Nat} {xs : List Value} {cur : Array Value} (hk : k ≤ cap) (hc : cap ≤ maxLen) (hx : xs.length = k * sz) (hs : cur.size = cap * sz) (ht : cur.toList.take (k * sz) = xs)
    (h : KQ n c Q x l (row (.slice (some ⟨g, 0, none⟩) k cap) e sz k xs :: hl) H) : KQ n c Q x l (blk g (.cells cur e (0, 0)) :: hl) H :=
  fun ρ w hm ho => h ρ w hm (ho.shutRow hk hc hx hs ht)
theorem E_clear {x : Operand} {t e ty : TypeId} {b off k m cap : Nat} {cur : Array Value} {E : TypeId} {z : Value} (hS : slcOk P t e) (hz : zeroOk P e z) (hz1 : z.cells.all Value.oneCell' = true)
    (hx : ev l x = some (.slice (some ⟨b, off, none⟩) k cap)) (hzs : z.cells.size = m) (hfit : off + k * m ≤ cur.size) :
    Eff P l H [blk b (.cells cur E (0, 0))] (.call ⟨.builtin .clear, #[x], #[t]⟩) ty fun _ H' q => ∃ en', q = [en'] ∧ (H' = H ∧ ∃ cur', en' = blk b (.cells cur' E (0, 0)) ∧ cur'.size = cur.size ∧ cur'.toList.take off = cur.toList.take off) := by
  intro e' w hk ho
  have hb : w.heap[b]? = some (.cells cur E (0, 0)) := ho.own (blk b (.cells cur E (0, 0))) (by simp)
  have hS' : P.underlying t = some (.slice e) := hS
  by_cases hk0 : k = 0
  · subst hk0
    have hrun : (ex e' (.call ⟨.builtin .clear, #[x], #[t]⟩) ty).run P w = .ok (.value (.tuple #[])) w := by
      simp [ex, execOp, resolve, invoke, builtin, hk x _ hx, Builtin.clear_, run_underlying hS']
    rw [hrun]
    exact ⟨H, _, ho.ok, _, rfl, rfl, cur, rfl, rfl, rfl⟩
  · have hzl : (Builtin.zeroCells z.cells k).toList.length = k * m := by
      have := size_zeroCells z.cells k
      rw [hzs] at this
      simpa [Nat.mul_comm] using this
    have hone : ∀ v ∈ (Builtin.zeroCells z.cells k).toList, v.oneCell' = true := by
      intro v hv
      have hall := Array.all_eq_true.1 hz1
      simp only [Builtin.zeroCells, Array.toList_map, List.mem_map] at hv
      obtain ⟨i, hi, rfl⟩ := hv
      have h0 : 0 < z.cells.size := by
        rcases Nat.eq_zero_or_pos z.cells.size with h | h
        · rw [h] at hi; simp at hi
        · exact h
      have hm : i % z.cells.size < z.cells.size := Nat.mod_lt _ h0
      rw [getElem!_pos z.cells _ hm]
      exact hall _ hm
    have hst := run_storeCells_at P b off E (Builtin.zeroCells z.cells k).toList 0 cur w hb (by rw [hzl]; omega) hone
    simp only [Nat.add_zero] at hst
    have hrun : (ex e' (.call ⟨.builtin .clear, #[x], #[t]⟩) ty).run P w = .ok (.value (.tuple #[])) (w.setRow b (putCells cur off (Builtin.zeroCells z.cells k).toList)) := by
      obtain ⟨k', rfl⟩ : ∃ k', k = k' + 1 := ⟨k - 1, by omega⟩
      simp [ex, execOp, resolve, invoke, builtin, hk x _ hx, Builtin.clear_, run_underlying hS', hz.run w]
      rw [hst]
      rfl
    rw [hrun]
    obtain ⟨e1, e2, e3, e4⟩ := setRow_os w b (putCells cur off (Builtin.zeroCells z.cells k).toList)
    have hfit' : off + (Builtin.zeroCells z.cells k).toList.length ≤ cur.toList.length := by rw [hzl]; simpa using hfit
    refine ⟨H, _, ok1 (en' := blk b (.cells (putCells cur off (Builtin.zeroCells z.cells k).toList) E (0, 0))) ho e1 e2 e3 (Nat.le_refl _) (by rw [e4]; exact Nat.le_refl _) (fun k _ hk => setRow_other w b k _ (by simpa [blk] using hk)) (setRow_heap w b cur _ E _ hb) (fun k hk => .inl hk) (by simp [blk]), _, rfl, rfl, _, rfl, ?_, ?_⟩
    · have := putL_length hfit'
      simpa [putCells] using this
    · simp only [putCells, putL, List.append_assoc]
      rw [List.take_append_of_le_length (by rw [List.length_take]; omega), List.take_take, Nat.min_self]
theorem K_clear {x : Operand} {t e ty : TypeId} {pos : String} {aft : Array Edge} {b off k m cap : Nat} {cur : Array Value} {E : TypeId} {z : Value} (j : Nat) (hS : slcOk P t e) (hz : zeroOk P e z) (hz1 : z.cells.all Value.oneCell' = true)
    (hx : ev l x = some (.slice (some ⟨b, off, none⟩) k cap)) (hzs : z.cells.size = m) (hj : hl[j]? = some (blk b (.cells cur E (0, 0)))) (hfit : off + k * m ≤ cur.size)
    (h : ∀ cur', cur'.size = cur.size → cur'.toList.take off = cur.toList.take off → KO P n c ops Q rest l (hl.set j (blk b (.cells cur' E (0, 0)))) H) :
    KO P n c ops Q (⟨none, .call ⟨.builtin .clear, #[x], #[t]⟩, ty, pos, aft, none⟩ :: rest) l hl H :=
  KE1_ j hj (E_clear hS hz hz1 hx hzs hfit) (by rintro v H' en' _ ⟨rfl, cur', rfl, h1, h2⟩; exact h cur' h1 h2)
/-! ### Elements' cells in a block -/
theorem flat_len {α : Type} {enc : α → List Value} {sz : Nat} (hk : ∀ x, (enc x).length = sz) (it : List α) : (it.flatMap enc).length = it.length * sz := by
  induction it with
  | nil => simp
  | cons a l ih => simp only [List.flatMap_cons, List.length_append, ih, hk, List.length_cons, Nat.succ_mul]; omega
theorem flat_get {α : Type} {enc : α → List Value} {sz : Nat} (hk : ∀ x, (enc x).length = sz) (it : List α) (tail : List Value) {i : Nat} (hi : i < it.length) {off : Nat} (ho : off = i * sz) :
    (((it.flatMap enc ++ tail).toArray.toList).drop off).take sz = enc it[i] := by
  subst ho
  have e : it = it.take i ++ it[i] :: it.drop (i + 1) := by simp
  have hl : ((it.take i).flatMap enc).length = i * sz := by rw [flat_len hk, List.length_take, Nat.min_eq_left (by omega)]
  have h2 : it.flatMap enc ++ tail = (it.take i).flatMap enc ++ (enc it[i] ++ ((it.drop (i + 1)).flatMap enc ++ tail)) := by
    conv => lhs; rw [e]
    simp only [List.flatMap_append, List.flatMap_cons, List.append_assoc]
  show ((it.flatMap enc ++ tail).drop (i * sz)).take sz = _
  rw [h2, List.drop_append_of_le_length (by omega), List.drop_of_length_le (by omega), List.nil_append, List.take_append_of_le_length (by rw [hk]; exact Nat.le_refl _), List.take_of_length_le (by rw [hk]; exact Nat.le_refl _)]
theorem flat_put {α : Type} {enc : α → List Value} {sz : Nat} (hk : ∀ x, (enc x).length = sz) (it : List α) (tail : List Value) {i : Nat} (hi : i < it.length) (y : α) {off : Nat} (ho : off = i * sz) {v : Value} (hv : v.cells.toList = enc y) :
    putCells (it.flatMap enc ++ tail).toArray off v.cells.toList = ((it.set i y).flatMap enc ++ tail).toArray := by
  subst ho
  unfold putCells putL
  rw [hv, hk]
  congr 1
  have e : it = it.take i ++ it[i] :: it.drop (i + 1) := by simp
  have e2 : it.set i y = it.take i ++ y :: it.drop (i + 1) := List.set_eq_take_append_cons_drop .. |>.trans (by rw [if_pos hi])
  have hl : ((it.take i).flatMap enc).length = i * sz := by rw [flat_len hk, List.length_take, Nat.min_eq_left (by omega)]
  have h2 : it.flatMap enc ++ tail = (it.take i).flatMap enc ++ (enc it[i] ++ ((it.drop (i + 1)).flatMap enc ++ tail)) := by
    conv => lhs; rw [e]
    simp only [List.flatMap_append, List.flatMap_cons, List.append_assoc]
  have h3 : (it.set i y).flatMap enc ++ tail = (it.take i).flatMap enc ++ (enc y ++ ((it.drop (i + 1)).flatMap enc ++ tail)) := by
    rw [e2]
    simp only [List.flatMap_append, List.flatMap_cons, List.append_assoc]
  show (it.flatMap enc ++ tail).take (i * sz) ++ enc y ++ (it.flatMap enc ++ tail).drop (i * sz + sz) = _
  have hd : (it.flatMap enc ++ tail).drop (i * sz + sz) = (it.drop (i + 1)).flatMap enc ++ tail := by
    rw [h2, ← List.append_assoc]
    exact List.drop_left' (by rw [List.length_append, hl, hk])
  have ht : (it.flatMap enc ++ tail).take (i * sz) = (it.take i).flatMap enc := by
    rw [h2]
    exact List.take_left' hl
  rw [hd, ht, h3, List.append_assoc]
theorem flat_take {α : Type} {enc : α → List Value} {sz : Nat} (hk : ∀ x, (enc x).length = sz) (it : List α) (tail : List Value) {m : Nat} (hm : m ≤ it.length) : (it.flatMap enc ++ tail).take (m * sz) = (it.take m).flatMap enc := by
  have e : it = it.take m ++ it.drop m := by simp
  have hl : ((it.take m).flatMap enc).length = m * sz := by rw [flat_len hk, List.length_take, Nat.min_eq_left hm]
  have h2 : it.flatMap enc ++ tail = (it.take m).flatMap enc ++ ((it.drop m).flatMap enc ++ tail) := by
    conv => lhs; rw [e]
    simp only [List.flatMap_append, List.append_assoc]
  rw [h2, List.take_append_of_le_length (by omega), List.take_of_length_le (by omega)]
/-! ### Dropping like neighbours in place -/
theorem compF_snoc {α : Type} (eq : α → α → Bool) {xs : List α} {k : Nat} (h0 : 0 < k) (hk : k < xs.length) : compF eq none (xs.take (k + 1)) = compF eq none (xs.take k) ++ if eq xs[k] xs[k - 1] = true then [] else [xs[k]] := by
  have e : xs.take (k + 1) = xs.take k ++ [xs[k]] := by rw [List.take_add_one, List.getElem?_eq_getElem hk]; rfl
  have hl : (xs.take k).getLast? = some xs[k - 1] := by
    rw [List.getLast?_eq_getElem?, List.length_take, Nat.min_eq_left (by omega), List.getElem?_take, if_pos (by omega), List.getElem?_eq_getElem (by omega)]
  rw [e, compF_append, hl]
  rfl
theorem compF_all {α : Type} {eq : α → α → Bool} {xs : List α} : ∀ {k : Nat}, k ≤ xs.length → (∀ j (h : j < xs.length), 0 < j → j < k → eq xs[j] xs[j - 1] = false) → compF eq none (xs.take k) = xs.take k
  | 0, _, _ => by simp [compF]
  | k + 1, hk, h => by
    have ih := compF_all (eq := eq) (xs := xs) (k := k) (by omega) fun j hj h0 hjk => h j hj h0 (by omega)
    rcases Nat.eq_zero_or_pos k with e | e
    · subst e
      cases xs with
      | nil => simp at hk
      | cons a xs => simp [compF]
    · rw [compF_snoc eq e (by omega), ih, h k (by omega) e (by omega), List.take_add_one, List.getElem?_eq_getElem (by omega)]
      rfl
structure CpI {α : Type} (eq : α → α → Bool) (xs it : List α) (w m : Nat) : Prop where
  len : it.length = xs.length
  wm : w < m
  mn : m ≤ xs.length
  done : it.take w = compF eq none (xs.take m)
  todo : ∀ j (h : j < xs.length), m ≤ j + 1 → it[j]'(by rw [len]; exact h) = xs[j]
theorem CpI.start {α : Type} {eq : α → α → Bool} {xs : List α} {k : Nat} (h0 : 0 < k) (hk : k < xs.length) (hall : ∀ j (h : j < xs.length), 0 < j → j < k → eq xs[j] xs[j - 1] = false) (hd : eq xs[k] xs[k - 1] = true) : CpI eq xs xs k (k + 1) :=
  ⟨rfl, by omega, by omega, by rw [compF_snoc eq h0 hk, compF_all (by omega) hall, if_pos hd, List.append_nil], fun _ _ _ => rfl⟩
theorem CpI.skip {α : Type} {eq : α → α → Bool} {xs it : List α} {w m : Nat} (h : CpI eq xs it w m) (hm : m < xs.length) (hd : eq xs[m] xs[m - 1] = true) : CpI eq xs it w (m + 1) :=
  ⟨h.len, by have := h.wm; omega, by omega, by rw [compF_snoc eq (by have := h.wm; omega) hm, if_pos hd, List.append_nil, h.done], fun j hj hm2 => h.todo j hj (by omega)⟩
theorem CpI.keep {α : Type} {eq : α → α → Bool} {xs it : List α} {w m : Nat} (h : CpI eq xs it w m) (hm : m < xs.length) (hd : eq xs[m] xs[m - 1] = false) : CpI eq xs (it.set w xs[m]) (w + 1) (m + 1) := by
  have hwm := h.wm
  refine ⟨by rw [List.length_set]; exact h.len, by omega, by omega, ?_, fun j hj hm2 => ?_⟩
  · rw [compF_snoc eq (by omega) hm, hd, ← h.done, List.take_add_one, List.getElem?_set_self (by rw [h.len]; omega), List.take_set_of_le (Nat.le_refl _)]
    rfl
  · rw [List.getElem_set_ne (by omega)]; exact h.todo j hj (by omega)
/-! ### Scopes; parts of slices, told -/
theorem K_scope {code : Code} (h : KC P n c code (Exit.noGoto Q) l hl H) : KC P n c (.scope code) Q l hl H := fun ρ w hm ho => wp_scope_straight (h ρ w hm ho)
theorem Q_scope (h : KQ n c Q .normal l hl H) : KQ n c (Exit.noGoto Q) .normal l hl H := h
theorem R_sliceHiE {t e ty : TypeId} {x y : Operand} {g k cap m : Nat} {agg : Bool} {sz : Nat} (hS : slcOk P t e) (hT : Ty P e agg sz) (hx : ev l x = some (.slice (some ⟨g, 0, none⟩) k cap)) (hy : ev l y = some (.int .i64 (m : Int))) (hc : m ≤ cap) :
    ValOk P l H hl (.slice t x none (some y) none) ty (.slice (some ⟨g, 0, none⟩) m cap) := by
  have h := R_sliceHi (hl := hl) (H := H) (ty := ty) hS hT hx hy hc
  have e : hiV (some ⟨g, 0, none⟩) cap m = .slice (some ⟨g, 0, none⟩) m cap := by
    unfold hiV
    split <;> simp [addr_add]
  rw [e] at h; exact h
theorem R_sliceLoE {t e ty : TypeId} {x y : Operand} {g off k cap m : Nat} {agg : Bool} {sz : Nat} (hS : slcOk P t e) (hT : Ty P e agg sz) (hx : ev l x = some (.slice (some ⟨g, off, none⟩) k cap)) (hy : ev l y = some (.int .i64 (m : Int))) (hc : m ≤ k) (hlt : m < cap) :
    ValOk P l H hl (.slice t x (some y) none none) ty (.slice (some ⟨g, off + m * sz, none⟩) (k - m) (cap - m)) := by
  have h := R_sliceLo (hl := hl) (H := H) (ty := ty) hS hT hx hy hc
  have e : loV (some ⟨g, off, none⟩) k cap m sz = .slice (some ⟨g, off + m * sz, none⟩) (k - m) (cap - m) := by
    unfold loV
    rw [if_neg (by omega)]
    simp [addr_add]
  rw [e] at h; exact h
theorem SatO.openRow {f : FuncId} {args : Array Value} {v : Value} {e : TypeId} {sz k : Nat} {xs : List Value} {post : Value → View → HL → Prop} (h0 : v = nilS → k = 0 → xs = [] → SatO P f args H hl post)
    (h1 : ∀ g cap tail, v = .slice (some ⟨g, 0, none⟩) k cap → k ≤ cap → cap ≤ maxLen → xs.length = k * sz → (xs ++ tail).length = cap * sz → SatO P f args H (blk g (.cells (xs ++ tail).toArray e (0, 0)) :: hl) post) :
    SatO P f args H (row v e sz k xs :: hl) post := by
  intro w hw
  rcases hw.ok.openRow with ⟨rfl, rfl, rfl⟩ | ⟨g, cap, tail, rfl, b, d, e1, f, k1⟩
  · have h := h0 rfl rfl rfl w (hw.sublist (List.sublist_cons_self _ _))
    have hf : feet (row nilS e sz 0 [] :: hl) = feet hl := by simp [feet, row, rowFoot, nilS]
    rw [hf]; exact h
  · have h := h1 g cap tail rfl b d e1 f w k1.hasL
    have hf : feet (row (.slice (some ⟨g, 0, none⟩) k cap) e sz k xs :: hl) = feet (blk g (.cells (xs ++ tail).toArray e (0, 0)) :: hl) := by simp [feet, row, rowFoot, blk]
    rw [hf]; exact h
theorem cellRV_len (p : Rl × Value) : (cellRV p).length = 3 := rfl
theorem RVok.one {H : View} {p : Rl × Value} (h : RVok H p) : (cellRV p).all Value.oneCell' = true := by
  obtain ⟨a, cp, e⟩ := h.1.shape
  simp [cellRV, e, Value.oneCell']
def cellI (x : Int) : List Value := [.int .i64 x]
theorem cellI_len (x : Int) : (cellI x).length = 1 := rfl
theorem ints_flat (xs : List Int) : ints xs = xs.flatMap cellI := by
  induction xs with
  | nil => rfl
  | cons x xs ih => simp only [ints, List.map_cons, List.flatMap_cons, cellI, List.cons_append, List.nil_append] at *; rw [ih]
end
end Pal
namespace Pal
def eqI (x y : Int) : Bool := decide (x = y)
end Pal

/-
  slices.Sort at ints, over owned rows. Own work. No statement of the seat is proved here.
-/
namespace Pal
open Go Go.Proofs Go.Shelf Go.Sort
variable {P : Program} {ρ : Go.Shelf.Ren}
theorem sortInts (L : SlLaysN.n53 P ρ) (H : View) (e : TypeId) (xs : List Int) (v : Value) (hlen : xs.length < 4611686018427387904) :
    SatO P (ρ.f 53) #[v] H [row v e 1 xs.length (ints xs)] (fun r H' q => r = .tuple #[] ∧ H' = H ∧ ∃ ys, ys.Perm xs ∧ ys.Pairwise (· ≤ ·) ∧ q = [row v e 1 ys.length (ints ys)]) := by
  intro w hw
  obtain ⟨hl1, hrow⟩ := hw.own _ (List.mem_cons_self ..)
  rcases hrow with ⟨rfl, h0⟩ | ⟨gb, cap, cur, rfl, hgb, hk, hc, hs, ht⟩
  · have hnil : xs = [] := List.eq_nil_of_length_eq_zero h0
    subst hnil
    refine Calls.mono (AnyG.slices_Sort_int_none L none 0 w) ?_
    rintro e w' ⟨rfl, rfl⟩
    exact ⟨_, H, _, rfl, hw.ok, rfl, rfl, [], List.Perm.refl _, List.Pairwise.nil, rfl⟩
  · have hH : Holds (Value.int .i64) w gb 0 xs.toArray := holds_of_row hgb (by simpa [ints] using ht)
    refine Calls.mono (AnyG.slices_Sort_int L gb 0 cap xs w hH (lt_of_heap hgb) hlen) ?_
    rintro e w' ⟨rfl, n, os, rfl⟩
    have hp := List.mergeSort_perm xs (fun x y => decide (x ≤ y))
    have hsz := hp.length_eq
    refine ⟨_, H, _, rfl, ok_sorted (enc := Value.int .i64) (n := n) (os := os) hw hgb hk hc hs (by simp [hsz]), rfl, rfl, xs.mergeSort (fun x y => decide (x ≤ y)), hp, ?_, ?_⟩
    · have := List.pairwise_mergeSort (le := fun x y : Int => decide (x ≤ y)) (fun a b c h1 h2 => by simp at *; omega) (fun a b => by simp; omega) xs
      exact this.imp fun h => by simpa using h
    · rw [hsz]; simp [ints]
end Pal

/-
  Many owned things asx one; automata that are owned, with their rules' slices. Own work. No statement of the seat is proved here.
-/
namespace Pal
open Go
def many (p : HL) : Own where
  foot := feet p
  holds h := ∀ e ∈ p, e.holds h
  loc h h' heq hh e he := e.loc h h' (fun b hb => heq b (mem_feet.2 ⟨e, he, hb⟩)) (hh e he)
  ex h hh b hb := by
    obtain ⟨e, he, hbe⟩ := mem_feet.1 hb
    exact e.ex h (hh e he) b hbe
theorem feet_many (p hl : HL) : feet (many p :: hl) = feet (p ++ hl) := by rw [feet_cons, feet_append]; rfl
section
variable {P : Program} {n : Nat} {c : Cx} {Q : Exit → Act → World → Prop} {l : KL} {hl : HL} {H : View} {ops : Array Oper} {rest : List Oper}
theorem Ok.many_out {w : World} {p : HL} (h : Ok c w H (many p :: hl)) : Ok c w H (p ++ hl) := by
  refine ⟨h.os, h.tape, h.output, h.drawn, h.size, h.old, h.vold, h.le, h.has, fun e he => ?_, fun b hb => h.foot b (by rw [feet_many]; exact hb), by rw [← feet_many]; exact h.nd⟩
  rcases List.mem_append.1 he with he | he
  · exact h.own (many p) List.mem_cons_self e he
  · exact h.own e (List.mem_cons_of_mem _ he)
theorem Ok.many_in {w : World} {p : HL} (h : Ok c w H (p ++ hl)) : Ok c w H (many p :: hl) := by
  refine ⟨h.os, h.tape, h.output, h.drawn, h.size, h.old, h.vold, h.le, h.has, fun e he => ?_, fun b hb => h.foot b (by rw [← feet_many]; exact hb), by rw [feet_many]; exact h.nd⟩
  rcases List.mem_cons.1 he with rfl | he
  · exact fun e he => h.own e (List.mem_append_left _ he)
  · exact h.own e (List.mem_append_right _ he)
theorem Ok.many_nil {w : World} (h : Ok c w H hl) : Ok c w H (many [] :: hl) := Ok.many_in (p := []) h
theorem Ok.many_perm {w : World} {p p' : HL} (hp : p.Perm p') (h : Ok c w H (many p :: hl)) : Ok c w H (many p' :: hl) := (h.many_out.perm (hp.append_right hl)).many_in
theorem Ok.many_sub {w : World} {p p' : HL} (hp : List.Sublist p' p) (h : Ok c w H (many p :: hl)) : Ok c w H (many p' :: hl) := (h.many_out.sublist (hp.append_right hl)).many_in
theorem Ok.many_snoc {w : World} {p : HL} {en : Own} (h : Ok c w H (en :: many p :: hl)) : Ok c w H (many (p ++ [en]) :: hl) := by
  have h1 : Ok c w H (many p :: en :: hl) := h.perm (List.Perm.swap _ _ _)
  have h2 := h1.many_out
  refine Ok.many_in (p := p ++ [en]) ?_
  simpa using h2
theorem KC_many_nil {code : Code} (h : KC P n c code Q l (many [] :: hl) H) : KC P n c code Q l hl H := fun ρ w hm ho => h ρ w hm ho.many_nil
theorem KQ_many_snoc {x : Exit} {p : HL} {en : Own} (h : KQ n c Q x l (many (p ++ [en]) :: hl) H) : KQ n c Q x l (en :: many p :: hl) H := fun ρ w hm ho => h ρ w hm ho.many_snoc
end
/-! ### Rules whose slices are owned -/
def rowsFrom (ti : TypeId) (ps : List (Rl × Value)) : HL := ps.map fun p => row p.2 ti 1 p.1.args.length (ints p.1.args)
theorem rowsFrom_snoc (ti : TypeId) (ps : List (Rl × Value)) (p : Rl × Value) : rowsFrom ti (ps ++ [p]) = rowsFrom ti ps ++ [row p.2 ti 1 p.1.args.length (ints p.1.args)] := by simp [rowsFrom]
theorem cellsP_snoc (ps : List (Rl × Value)) (p : Rl × Value) : cellsP (ps ++ [p]) = cellsP ps ++ cellRV p := by simp [cellsP]
def RlB (r : Rl) : Prop := r.args.length ≤ 1099511627776 ∧ i64ok r.sym ∧ i64ok r.to ∧ ∀ x ∈ r.args, i64ok x
theorem row_SI {ti : TypeId} {v : Value} {xs : List Int} {H : View} (h : (row v ti 1 xs.length (ints xs)).holds H) (hx : ∀ x ∈ xs, i64ok x) : SI H v xs := ⟨(row_view h).1.sl, hx⟩
theorem rv_of_many {ti : TypeId} {ps : List (Rl × Value)} {H : View} (h : (many (rowsFrom ti ps)).holds H) (hb : ∀ p ∈ ps, RlB p.1) : ∀ p ∈ ps, RVok H p := by
  intro p hp
  obtain ⟨h1, h2, h3, h4⟩ := hb p hp
  exact ⟨row_SI (h _ (List.mem_map.2 ⟨p, hp, rfl⟩)) h4, h1, h2, h3⟩
structure AuB (a : Au) : Prop where
  s : i64ok a.states
  rl : a.ranks.length ≤ 1099511627776
  ul : a.rules.length ≤ 1099511627776
  fl : a.final.length ≤ 1099511627776
  r : ∀ x ∈ a.ranks, i64ok x
  u : ∀ r ∈ a.rules, RlB r
  f : ∀ x ∈ a.final, i64ok x
theorem repL_mem {α : Type} {R : α → List Value → Prop} {sz : Nat} {xs : List α} {cells : List Value} (h : RepL R sz xs cells) : ∀ x ∈ xs, ∃ cs, R x cs := by
  intro x hx
  obtain ⟨i, hi, rfl⟩ := List.getElem_of_mem hx
  obtain ⟨cs, _, h2, _⟩ := h.get hi
  exact ⟨cs, h2⟩
theorem RepAu.b {H : View} {a : Au} {vr vu vf : Value} (h : RepAu H a vr vu vf) : AuB a := by
  refine ⟨h.s, h.rl, h.ul, h.fl, h.r.2, fun r hr => ?_, h.f.2⟩
  obtain ⟨cells, _, h2⟩ := h.u
  obtain ⟨cs, a', cp, _, h3, h4, h5, h6⟩ := repL_mem h2 r hr
  exact ⟨h6, h4, h5, h3.2⟩
theorem AuB.norm {a : Au} (h : AuB a) : AuB (normA a) :=
  ⟨h.s, h.rl, Nat.le_trans (sortO_len _) h.ul, Nat.le_trans (sortI_len _) h.fl, h.r, fun r hr => h.u r (sortO_mem.1 hr), fun x hx => h.f x (sortI_mem.1 hx)⟩
/-- An automaton whose rules, final states and rules' slices are owned. -/
def OwnAu (H : View) (ti tr : TypeId) (a : Au) (v : Value) (q : HL) : Prop := ∃ vr ua uc fa fc ps, v = .agg #[vr, .int .i64 a.states, .slice ua ps.length uc, .slice fa a.final.length fc] ∧ SI H vr a.ranks ∧ ps.map (·.1) = a.rules ∧
  q = [row (.slice ua ps.length uc) tr 3 ps.length (cellsP ps), row (.slice fa a.final.length fc) ti 1 a.final.length (ints a.final), many (rowsFrom ti ps)]
theorem repL_rv {H : View} : ∀ {ps : List (Rl × Value)}, (∀ p ∈ ps, RVok H p) → RepL (RepR H) 3 (ps.map (·.1)) (cellsP ps)
  | [], _ => .nil
  | p :: ps, h => by
    have h1 := h p List.mem_cons_self
    obtain ⟨a, cp, e⟩ := h1.1.shape
    have h2 := h1.1
    rw [e] at h2
    exact .cons (sz := 3) ⟨a, cp, by simp [cellRV, e], h2, h1.2.2.1, h1.2.2.2, h1.2.1⟩ rfl (repL_rv fun q hq => h q (List.mem_cons_of_mem _ hq))
section
variable {c : Cx} {hl : HL} {H : View}
theorem Ok.pub_many {w : World} {ti : TypeId} : ∀ {ps : List (Rl × Value)} {H : View}, Ok c w H (many (rowsFrom ti ps) :: hl) → (∀ p ∈ ps, RlB p.1) → ∃ H', VLe H H' ∧ (∀ p ∈ ps, RVok H' p) ∧ Ok c w H' hl
  | [], H, h, _ => ⟨H, VLe.refl _, fun p hp => (by cases hp), h.sublist (List.sublist_cons_self _ _)⟩
  | p :: ps, H, h, hb => by
    have h1 : Ok c w H (row p.2 ti 1 p.1.args.length (ints p.1.args) :: many (rowsFrom ti ps) :: hl) := by
      have h2 := h.many_out
      have h3 : Ok c w H (rowsFrom ti ps ++ (row p.2 ti 1 p.1.args.length (ints p.1.args) :: hl)) := h2.perm (by simpa [rowsFrom] using List.perm_middle.symm)
      exact h3.many_in.perm (List.Perm.swap _ _ _)
    obtain ⟨H1, hle1, hrow, _, h4⟩ := h1.pubrowF
    obtain ⟨H2, hle2, hall, h5⟩ := Ok.pub_many h4 fun q hq => hb q (List.mem_cons_of_mem _ hq)
    refine ⟨H2, hle1.trans hle2, fun q hq => ?_, h5⟩
    rcases List.mem_cons.1 hq with rfl | hq
    · obtain ⟨b1, b2, b3, b4⟩ := hb q List.mem_cons_self
      exact ⟨⟨hrow.sl.mono hle2, b4⟩, b1, b2, b3⟩
    · exact hall q hq
theorem Ok.pub_au {w : World} {ti tr : TypeId} {a : Au} {v : Value} {q : HL} (hq : OwnAu H ti tr a v q) (hb : AuB a) (h : Ok c w H (q ++ hl)) : ∃ H' vr vu vf, VLe H H' ∧ v = .agg #[vr, .int .i64 a.states, vu, vf] ∧ RepAu H' a vr vu vf ∧ Ok c w H' hl := by
  obtain ⟨vr, ua, uc, fa, fc, ps, rfl, hr, hps, rfl⟩ := hq
  have hlen : ps.length = a.rules.length := by rw [← hps]; simp
  obtain ⟨H1, hle1, hrow1, _, h1⟩ := Ok.pubrowF (hl := _ :: _ :: hl) h
  obtain ⟨H2, hle2, hrow2, _, h2⟩ := Ok.pubrowF (hl := _ :: hl) h1
  obtain ⟨H3, hle3, hall, h3⟩ := Ok.pub_many h2 (fun p hp => hb.u p.1 (by rw [← hps]; exact List.mem_map.2 ⟨p, hp, rfl⟩))
  refine ⟨H3, vr, _, _, hle1.trans (hle2.trans hle3), rfl, ⟨hr.mono (hle1.trans (hle2.trans hle3)), ⟨cellsP ps, ?_, ?_⟩, ⟨hrow2.sl.mono hle3, hb.f⟩, hb.s, hb.rl, hb.ul, hb.fl⟩, h3⟩
  · rw [← hlen]; exact hrow1.sl.mono (hle2.trans hle3)
  · rw [← hps]; exact repL_rv hall
end
theorem SatO.pub_au {P : Program} {f : FuncId} {args : Array Value} {H : View} {p : HL} {ti tr : TypeId} {a : Au} {b : Prop} (hb : AuB a) (h : SatO P f args H p fun v H' q => OwnAu H' ti tr a v q ∧ b) :
    SatO P f args H p fun v H' q => q = [] ∧ (∃ vr vu vf, v = .agg #[vr, .int .i64 a.states, vu, vf] ∧ RepAu H' a vr vu vf) ∧ b := by
  intro w hw
  refine Calls.mono (h w hw) ?_
  rintro e w' ⟨v, H', q, rfl, hok, hown, hbb⟩
  obtain ⟨H2, vr, vu, vf, hle, hv, hrep, hok2⟩ := Ok.pub_au (hl := []) hown hb (by simpa using hok)
  exact ⟨v, H2, [], rfl, hok2, rfl, ⟨vr, vu, vf, hv, hrep⟩, hbb⟩
theorem SatO.rowshape {P : Program} {f : FuncId} {args : Array Value} {H : View} {p p' : HL} {e : TypeId} {sz k : Nat} {xs : List Value} (h : SatO P f args H p fun w _ q => q = row w e sz k xs :: p') :
    SatO P f args H p fun w _ q => ∃ a cap, w = .slice a k cap ∧ q = row (.slice a k cap) e sz k xs :: p' := by
  intro w hw
  refine Calls.mono (h w hw) ?_
  rintro e' w' ⟨v, H', q, rfl, hok, rfl⟩
  obtain ⟨a, cap, rfl⟩ := row_shape (hok.own _ List.mem_cons_self)
  exact ⟨_, H', _, rfl, hok, a, cap, rfl, rfl⟩
end Pal

/-
  Rules by their symbol in a map. Own work. No statement of the seat is proved here.
-/
namespace Pal
open Go
section
variable {P : Program} {l : KL} {hl : HL} {H : View} {ty : TypeId} {v : Value}
end
def symR (rs : List Rl) (q : Int) : List Rl := rs.filter fun r => decide (r.sym = q)
theorem symR_snoc {rs : List Rl} {k : Nat} (hk : k < rs.length) (q : Int) : symR (rs.take (k + 1)) q = symR (rs.take k) q ++ if rs[k].sym = q then [rs[k]] else [] := by
  unfold symR
  rw [List.take_succ_eq_append_getElem hk, List.filter_append]
  congr 1
  by_cases h : rs[k].sym = q <;> simp [h]
/-- A slice that holds these rules. -/
def RulesAt (H : View) (v : Value) (rs : List Rl) : Prop := ∃ ps, ps.map (·.1) = rs ∧ (∃ a cap, v = .slice a ps.length cap) ∧ SlAt H v ps.length (cellsP ps) ∧ ∀ p ∈ ps, RVok H p
theorem RulesAt.mono {H H' : View} {v : Value} {rs : List Rl} (h : RulesAt H v rs) (hle : VLe H H') : RulesAt H' v rs := by
  obtain ⟨ps, h1, h2, h3, h4⟩ := h
  exact ⟨ps, h1, h2, h3.mono hle, fun p hp => (h4 p hp).mono hle⟩
theorem RulesAt.nil (H : View) : RulesAt H nilS [] := ⟨[], rfl, ⟨none, 0, rfl⟩, ⟨none, 0, rfl, .inl ⟨rfl, rfl⟩⟩, fun p hp => by cases hp⟩
theorem RulesAt.shape {H : View} {v : Value} {rs : List Rl} (h : RulesAt H v rs) : ∃ a cap, v = .slice a rs.length cap := by
  obtain ⟨ps, rfl, ⟨a, cap, rfl⟩, _⟩ := h
  exact ⟨a, cap, by simp⟩
theorem RulesAt.elem {H : View} {a : Option Addr} {k cap : Nat} {rs : List Rl} (h : RulesAt H (.slice a k cap) rs) {i : Nat} (hi : i < rs.length) :
    ∃ b off va, a = some ⟨b, off, none⟩ ∧ At H b (off + i * 3) [.int .i64 rs[i].sym, va, .int .i64 rs[i].to] ∧ RVok H (rs[i], va) := by
  obtain ⟨ps, rfl, ⟨a', cap', e⟩, ⟨a2, c2, e2, h3⟩, h4⟩ := h
  have hi' : i < ps.length := by simpa using hi
  cases e
  cases e2
  rcases h3 with ⟨h3, _⟩ | ⟨b, off, rfl, hA⟩
  · omega
  · refine ⟨b, off, ps[i].2, rfl, ?_, by simpa using h4 _ (List.getElem_mem hi')⟩
    have hg := flat_get (enc := cellRV) cellRV_len ps [] hi' rfl
    simp only [List.append_nil] at hg
    refine hA.sub fun j u hj => ?_
    have hc : (cellRV ps[i])[j]? = some u := by simpa [cellRV] using hj
    rw [← hg, List.getElem?_take] at hc
    split at hc
    · rw [List.getElem?_drop] at hc; exact hc
    · cases hc
theorem At.rules {H : View} {v : Value} {ps : List (Rl × Value)} (h : rowAt H v ps.length (cellsP ps)) (hs : ∃ a cap, v = .slice a ps.length cap) (hp : ∀ p ∈ ps, RVok H p) : RulesAt H v (ps.map (·.1)) := ⟨ps, rfl, hs, h.sl, hp⟩
/-- The book. -/
def BookAt (H : View) (v : Value) (rs : List Rl) : Prop := ∃ b kvs, v = mp b ∧ H b = some (mapOb kvs) ∧ (kvs.map (·.1)).Nodup ∧ ∀ q, RulesAt H ((lookI kvs q).getD nilS) (symR rs q)
theorem BookAt.mono {H H' : View} {v : Value} {rs : List Rl} (h : BookAt H v rs) (hle : VLe H H') : BookAt H' v rs := by
  obtain ⟨b, kvs, h1, h2, h3, h4⟩ := h
  exact ⟨b, kvs, h1, hle _ _ h2, h3, fun q => (h4 q).mono hle⟩
/-- While it is made: what stands in the map for symbols that are done; the symbol at hand, its slice. -/
def curK (cur : Option Int) (w : Value) : KVs := match cur with | none => [] | some s => [(s, w)]
structure BkI (V : View) (rs : List Rl) (k : Nat) (kv0 : KVs) (cur : Option Int) (w : Value) (ps : List (Rl × Value)) : Prop where
  kn : (kv0.map (·.1)).Nodup
  below : ∀ p ∈ kv0, ∀ s, cur = some s → p.1 < s
  emp : cur = none → kv0 = [] ∧ ps = [] ∧ w = nilS ∧ k = 0
  isIn : ∀ s, cur = some s → ∃ r ∈ rs.take k, r.sym = s
  old : ∀ q, cur ≠ some q → RulesAt V ((lookI kv0 q).getD nilS) (symR (rs.take k) q)
  now : ∀ s, cur = some s → ps.map (·.1) = symR (rs.take k) s
  rv : ∀ p ∈ ps, RVok V p
  le : ∀ r ∈ rs.take k, ∀ s, cur = some s → r.sym ≤ s
  len : ps.length ≤ k
theorem ltR_sym {r s : Rl} (h : ltR r s) : r.sym ≤ s.sym := by
  unfold ltR at h
  rw [ordR_lt] at h
  rcases h with h | ⟨h, _⟩ <;> omega
theorem BkI.start (V : View) (rs : List Rl) : BkI V rs 0 [] none nilS [] :=
  ⟨by simp, fun p hp => (by cases hp), fun _ => ⟨rfl, rfl, rfl, rfl⟩, fun s h => (by cases h), fun q _ => by simpa [lookI, findI, symR] using RulesAt.nil V, fun s h => (by cases h), fun p hp => (by cases hp), fun r hr => (by simp at hr), Nat.le_refl _⟩
theorem BkI.keys {V : View} {rs : List Rl} {k : Nat} {kv0 : KVs} {cur : Option Int} {w : Value} {ps : List (Rl × Value)} (h : BkI V rs k kv0 cur w ps) : ((kv0 ++ curK cur w).map (·.1)).Nodup := by
  cases cur with
  | none => simpa [curK] using h.kn
  | some s =>
    simp only [curK, List.map_append, List.map_cons, List.map_nil, List.nodup_append]
    refine ⟨h.kn, by simp, fun a ha b hb e => ?_⟩
    simp at hb
    obtain ⟨p, hp, rfl⟩ := List.mem_map.1 ha
    have := h.below p hp s rfl
    omega
theorem lookI_snoc {kvs : KVs} {s q : Int} {w : Value} (h : ∀ p ∈ kvs, p.1 ≠ s) : lookI (kvs ++ [(s, w)]) q = if q = s then some w else lookI kvs q := by
  unfold lookI
  have : ∀ (l : KVs) (j : Nat), (∀ p ∈ l, p.1 ≠ s) → findI q (l ++ [(s, w)]) j = if q = s then some (j + l.length, w) else findI q l j := by
    intro l
    induction l with
    | nil => intro j _; simp [findI]
    | cons p r ih =>
      intro j hne
      simp only [List.cons_append, findI]
      by_cases e : q = p.1
      · have : q ≠ s := fun e2 => hne p List.mem_cons_self (by omega)
        rw [if_pos e, if_neg this, if_pos e]
      · rw [if_neg e, if_neg e, ih (j + 1) fun x hx => hne x (List.mem_cons_of_mem _ hx)]
        by_cases e2 : q = s
        · rw [if_pos e2, if_pos e2, List.length_cons, Nat.add_assoc, Nat.add_comm 1]
        · rw [if_neg e2, if_neg e2]
  rw [this kvs 0 h]
  by_cases e : q = s <;> simp [e]
/-- Everything that lies in the map once the row at hand is published. -/
theorem BkI.all {V : View} {rs : List Rl} {k : Nat} {kv0 : KVs} {cur : Option Int} {w : Value} {ps : List (Rl × Value)} (h : BkI V rs k kv0 cur w ps) (hw : RulesAt V w (ps.map (·.1))) (q : Int) : RulesAt V ((lookI (kv0 ++ curK cur w) q).getD nilS) (symR (rs.take k) q) := by
  cases cur with
  | none =>
    have := h.old q (by simp)
    simpa [curK] using this
  | some s =>
    show RulesAt V ((lookI (kv0 ++ [(s, w)]) q).getD nilS) _
    rw [lookI_snoc fun p hp => by have := h.below p hp s rfl; omega]
    by_cases e : q = s
    · subst e
      rw [if_pos rfl, ← h.now q rfl]; exact hw
    · rw [if_neg e]
      exact h.old q fun e2 => e (by cases e2; rfl)
/-- The next rule has the symbol at hand. -/
theorem BkI.same {V V' : View} {rs : List Rl} {k : Nat} {kv0 : KVs} {s : Int} {w w' fv : Value} {ps : List (Rl × Value)} (h : BkI V rs k kv0 (some s) w ps) (hle : VLe V V') (hk : k < rs.length) (hs : rs[k].sym = s) (hf : RVok V' (rs[k], fv)) : BkI V' rs (k + 1) kv0 (some s) w' (ps ++ [(rs[k], fv)]) := by
  refine ⟨h.kn, h.below, fun e => (by cases e), fun t ht => ⟨rs[k], by rw [List.take_succ_eq_append_getElem hk]; exact List.mem_append_right _ (List.mem_singleton.2 rfl), by cases ht; exact hs⟩, fun q hq => ?_, fun t ht => ?_, fun p hp => ?_, fun r hr t ht => ?_, by have := h.len; simp; omega⟩
  · rw [symR_snoc hk, if_neg (fun e => hq (by rw [← e, hs])), List.append_nil]
    exact (h.old q hq).mono hle
  · cases ht
    rw [symR_snoc hk, if_pos hs, List.map_append, h.now s rfl]; rfl
  · rcases List.mem_append.1 hp with hp | hp
    · exact (h.rv p hp).mono hle
    · simp at hp; subst hp; exact hf
  · cases ht
    rw [List.take_succ_eq_append_getElem hk] at hr
    rcases List.mem_append.1 hr with hr | hr
    · exact h.le r hr s rfl
    · simp at hr; subst hr; omega
/-- The next rule has another symbol. -/
theorem BkI.new {V V' : View} {rs : List Rl} {k : Nat} {kv0 : KVs} {cur : Option Int} {w w' fv : Value} {ps : List (Rl × Value)} (h : BkI V rs k kv0 cur w ps) (hle : VLe V V') (hw : RulesAt V' w (ps.map (·.1))) (hk : k < rs.length) (hs : cur ≠ some rs[k].sym) (hr : rs.Pairwise ltR) (hf : RVok V' (rs[k], fv)) :
    lookI (kv0 ++ curK cur w) rs[k].sym = none ∧ BkI V' rs (k + 1) (kv0 ++ curK cur w) (some rs[k].sym) w' [(rs[k], fv)] := by
  have hprev : ∀ r ∈ rs.take k, r.sym ≤ rs[k].sym := by
    intro r hr2
    obtain ⟨i, hi, rfl⟩ := List.getElem_of_mem hr2
    have hik : i < k := by rw [List.length_take] at hi; omega
    rw [List.getElem_take]
    exact ltR_sym (List.pairwise_iff_getElem.1 hr i k (by omega) hk hik)
  have hcur : ∀ s, cur = some s → s < rs[k].sym := by
    intro s e
    obtain ⟨r, hr2, rfl⟩ := h.isIn s e
    have h1 := hprev r hr2
    have h2 : r.sym ≠ rs[k].sym := fun e2 => hs (by rw [e, e2])
    omega
  have hall : ∀ p ∈ kv0 ++ curK cur w, p.1 < rs[k].sym := by
    intro p hp
    cases cur with
    | none =>
      have := (h.emp rfl).1
      subst this
      simp [curK] at hp
    | some s =>
      have h1 := hcur s rfl
      rcases List.mem_append.1 hp with hp | hp
      · have := h.below p hp s rfl; omega
      · simp [curK] at hp; subst hp; exact h1
  have hnone : lookI (kv0 ++ curK cur w) rs[k].sym = none := by
    cases hl : lookI (kv0 ++ curK cur w) rs[k].sym with
    | none => rfl
    | some u => have := hall _ (lookI_some hl); dsimp only at this; omega
  refine ⟨hnone, h.keys, fun p hp s e => by cases e; exact hall p hp, fun e => (by cases e), fun t ht => ⟨rs[k], by rw [List.take_succ_eq_append_getElem hk]; exact List.mem_append_right _ (List.mem_singleton.2 rfl), by cases ht; rfl⟩, fun q hq => ?_, fun t ht => ?_, fun p hp => ?_, fun r hr2 t ht => ?_, by simp⟩
  · rw [symR_snoc hk, if_neg (fun e => hq (by rw [e])), List.append_nil]
    have h' : BkI V' rs k kv0 cur w ps := ⟨h.kn, h.below, h.emp, h.isIn, fun q hq => (h.old q hq).mono hle, h.now, fun p hp => (h.rv p hp).mono hle, h.le, h.len⟩
    exact h'.all hw q
  · cases ht
    rw [symR_snoc hk, if_pos rfl]
    have : symR (rs.take k) rs[k].sym = [] := by
      unfold symR
      rw [List.filter_eq_nil_iff]
      intro r hr2
      simp only [decide_eq_true_eq]
      intro e
      cases cur with
      | none => have := (h.emp rfl).2.2.2; subst this; simp at hr2
      | some s => have h1 := h.le r hr2 s rfl; have h2 := hcur s rfl; omega
    rw [this]; rfl
  · simp at hp; subst hp; exact hf
  · cases ht
    rw [List.take_succ_eq_append_getElem hk] at hr2
    rcases List.mem_append.1 hr2 with hr2 | hr2
    · exact hprev r hr2
    · simp at hr2; subst hr2; exact Int.le_refl _
theorem BkI.mono {V V' : View} {rs : List Rl} {k : Nat} {kv0 : KVs} {cur : Option Int} {w : Value} {ps : List (Rl × Value)} (h : BkI V rs k kv0 cur w ps) (hle : VLe V V') : BkI V' rs k kv0 cur w ps :=
  ⟨h.kn, h.below, h.emp, h.isIn, fun q hq => (h.old q hq).mono hle, h.now, fun p hp => (h.rv p hp).mono hle, h.le, h.len⟩
theorem MapAt.at {H : View} {hl : HL} {b : Nat} {kvs : KVs} (i : Nat) (h : hl[i]? = some (blk b (mapOb kvs))) : MapAt H hl b kvs := .inr (List.mem_of_getElem? h)
theorem RepAu.rules {H : View} {a : Au} {vr vu vf : Value} (h : RepAu H a vr vu vf) : RulesAt H vu a.rules := by
  obtain ⟨cells, hs, hR⟩ := h.u
  have key : ∀ (rs : List Rl) (cells : List Value), RepL (RepR H) 3 rs cells → ∃ ps, ps.map (·.1) = rs ∧ cells = cellsP ps ∧ ∀ p ∈ ps, RVok H p := by
    intro rs cells hR
    induction hR with
    | nil => exact ⟨[], rfl, rfl, fun p hp => by cases hp⟩
    | @cons x cs xs ys hx hl ht ih =>
      obtain ⟨ps, h1, h2, h3⟩ := ih
      obtain ⟨a', cp, e, h4, h5, h6, h7⟩ := hx
      refine ⟨(x, .slice a' x.args.length cp) :: ps, by simp [h1], by rw [h2, e]; rfl, fun p hp => ?_⟩
      rcases List.mem_cons.1 hp with rfl | hp
      · exact ⟨h4, h7, h5, h6⟩
      · exact h3 p hp
  obtain ⟨ps, h1, rfl, h3⟩ := key _ _ hR
  have hl : ps.length = a.rules.length := by rw [← h1]; simp
  obtain ⟨a', cap, e, h4⟩ := hs
  exact ⟨ps, h1, ⟨a', cap, by rw [hl]; exact e⟩, ⟨a', cap, by rw [hl]; exact e, by rw [hl]; exact h4⟩, h3⟩
end Pal

/-
  Products of numbers by words. Own work. No statement of the seat is proved here.
-/
namespace Pal
open Go
structure MulI (xs ys os : List Nat) (i k c : Nat) : Prop where
  len : os.length = xs.length + ys.length
  ok : WordsOk os
  cl : c < 4294967296
  zer : ∀ j (h : j < os.length), i + ys.length ≤ j → os[j] = 0
  val : valW os + 4294967296 ^ (i + k) * c = valN xs i * valW ys + 4294967296 ^ i * (xs.getD i 0 * valN ys k)
theorem valN_zero (xs : List Nat) : valN xs 0 = 0 := rfl
theorem MulI.start (xs ys : List Nat) : MulI xs ys (List.replicate (xs.length + ys.length) 0) 0 0 0 :=
  ⟨by simp, fun w hw => by rw [List.mem_replicate] at hw; omega, by omega, fun j h _ => by simp, by rw [valW_zeros, valN_zero, valN_zero]; simp⟩
theorem MulI.step {xs ys os : List Nat} {i k c : Nat} (h : MulI xs ys os i k c) (hx : WordsOk xs) (hy : WordsOk ys) (hi : i < xs.length) (hk : k < ys.length) (hj : i + k < os.length) :
    xs[i] * ys[k] + os[i + k] + c < 18446744073709551616 ∧ MulI xs ys (os.set (i + k) ((xs[i] * ys[k] + os[i + k] + c) % 4294967296)) i (k + 1) ((xs[i] * ys[k] + os[i + k] + c) / 4294967296) := by
  have hx1 := hx _ (List.getElem_mem hi)
  have hy1 := hy _ (List.getElem_mem hk)
  have ho1 := h.ok _ (List.getElem_mem hj)
  obtain ⟨m1, m2⟩ := mul_step hx1 hy1 ho1 h.cl
  refine ⟨m1, by rw [List.length_set]; exact h.len, fun w hw => ?_, m2, fun j hj2 hij => ?_, ?_⟩
  · rcases List.mem_or_eq_of_mem_set hw with e | e
    · exact h.ok w e
    · rw [e]; exact Nat.mod_lt _ (by decide)
  · rw [List.getElem_set_ne (by omega)]; exact h.zer j (by simpa using hj2) hij
  · have hs := valW_set hj ((xs[i] * ys[k] + os[i + k] + c) % 4294967296)
    have hv := h.val
    have hyk : ys.getD k 0 = ys[k] := by simp [List.getD, hk]
    have hxi : xs.getD i 0 = xs[i] := by simp [List.getD, hi]
    rw [hxi] at hv ⊢
    rw [valN_succ, hyk]
    generalize xs[i] = x at *
    generalize ys[k] = y at *
    generalize hz : os[i + k] = z at *
    generalize hS : x * y + z + c = s at *
    have hdm := Nat.div_add_mod s 4294967296
    have e1 : 4294967296 ^ (i + k) * (4294967296 * (s / 4294967296)) + 4294967296 ^ (i + k) * (s % 4294967296) = 4294967296 ^ (i + k) * (x * y) + 4294967296 ^ (i + k) * z + 4294967296 ^ (i + k) * c := by
      rw [← Nat.mul_add, hdm, ← hS, Nat.mul_add, Nat.mul_add]
    have e2 : 4294967296 ^ (i + (k + 1)) * (s / 4294967296) = 4294967296 ^ (i + k) * (4294967296 * (s / 4294967296)) := by
      rw [← Nat.add_assoc, Nat.pow_succ, Nat.mul_assoc]
    have e3 : 4294967296 ^ i * (x * (valN ys k + 4294967296 ^ k * y)) = 4294967296 ^ i * (x * valN ys k) + 4294967296 ^ (i + k) * (x * y) := by
      rw [Nat.mul_add, Nat.mul_add, Nat.pow_add]
      congr 1
      rw [← Nat.mul_assoc x, Nat.mul_comm x, Nat.mul_assoc, Nat.mul_assoc]
    rw [e2, e3]
    omega
theorem MulI.next {xs ys os : List Nat} {i c : Nat} (h : MulI xs ys os i ys.length c) (hi : i < xs.length) : MulI xs ys (os.set (i + ys.length) c) (i + 1) 0 0 := by
  have hj : i + ys.length < os.length := by rw [h.len]; omega
  refine ⟨by rw [List.length_set]; exact h.len, fun w hw => ?_, by omega, fun j hj2 hij => ?_, ?_⟩
  · rcases List.mem_or_eq_of_mem_set hw with e | e
    · exact h.ok w e
    · rw [e]; exact h.cl
  · rw [List.getElem_set_ne (by omega)]; exact h.zer j (by simpa using hj2) (by omega)
  · have hs := valW_set hj c
    rw [h.zer _ hj (Nat.le_refl _), Nat.mul_zero, Nat.add_zero] at hs
    have hv := h.val
    rw [valN_all (Nat.le_refl _)] at hv
    rw [hs, valN_succ, valN_zero, Nat.mul_zero, Nat.mul_zero, Nat.mul_zero, Nat.add_mul, hv, Nat.mul_assoc]
theorem MulI.done {xs ys os : List Nat} {c : Nat} (h : MulI xs ys os xs.length 0 c) (hc : c = 0) : valW os = valW xs * valW ys := by
  subst hc
  have hv := h.val
  rw [valN_all (Nat.le_refl _), valN_zero] at hv
  omega
theorem words_put {os : List Nat} {j off v : Nat} (hj : j < os.length) (ho : off = j) : putCells (words os).toArray off (Value.int .u32 (v : Int)).cells.toList = (words (os.set j v)).toArray := by
  subst ho
  rw [show (Value.int .u32 (v : Int)).cells.toList = [Value.int .u32 (v : Int)] from rfl, putCells_one (by simpa [words] using hj)]
  simp [words, List.map_set]
theorem words_made (n : Nat) : madeCells #[.int .u32 0] (n * 1) = (words (List.replicate n 0)).toArray := by
  apply Array.ext'
  simp [madeCells, words, Nat.mod_one, List.map_const']
/-- A number below a power of the base has that many words. -/
theorem canon_len {ws : List Nat} {L : Nat} (h : Canon ws) (hv : valW ws < 4294967296 ^ L) : ws.length ≤ L := by
  rcases Nat.lt_or_ge L ws.length with h1 | h1
  · exfalso
    have hne : ws ≠ [] := by intro e; subst e; simp at h1
    obtain ⟨us, y, rfl⟩ : ∃ us y, ws = us ++ [y] := ⟨ws.dropLast, ws.getLast hne, (List.dropLast_concat_getLast hne).symm⟩
    have hy0 : y ≠ 0 := by intro e; subst e; exact h.2 (by simp)
    rw [valW_snoc] at hv
    have h2 : 4294967296 ^ L ≤ 4294967296 ^ us.length := Nat.pow_le_pow_right (by decide) (by simp at h1; omega)
    have h3 : 4294967296 ^ us.length * 1 ≤ 4294967296 ^ us.length * y := Nat.mul_le_mul_left _ (by omega)
    omega
  · exact h1
def kWords : Nat := 1048576
theorem kWords_eq : kWords = 1048576 := rfl
attribute [irreducible] kWords
def bigN : Nat := 4294967296 ^ kWords
theorem bigN_eq : bigN = 4294967296 ^ kWords := rfl
attribute [irreducible] bigN
theorem RepN.words {H : View} {v : Value} {n : Nat} (h : RepN H v n) (hn : n < bigN) : ∃ ws, UW H v ws ∧ valW ws = n ∧ ws.length ≤ 1048576 := by
  obtain ⟨ws, h1, h2, h3⟩ := h
  exact ⟨ws, h3, h2, kWords_eq ▸ canon_len h1 (by rw [h2, ← bigN_eq]; exact hn)⟩
end Pal

/-
  A tree's nodes with the number of runs for each state; the rules that apply. Own work. No statement of the seat is proved here.
-/
namespace Pal
open Go
inductive Nd where
  | mk (b lm : Nat) (l : List Nd)
def Nd.b : Nd → Nat | .mk b _ _ => b
def Nd.lm : Nd → Nat | .mk _ m _ => m
def Nd.l : Nd → List Nd | .mk _ _ l => l
mutual
/-- The maps of least runs, one for each node. -/
def Nd.maps (σ : Nat → KVs) : Nd → HL
  | .mk _ lm l => blk lm (mapOb (σ lm)) :: Nd.mapss σ l
def Nd.mapss (σ : Nat → KVs) : List Nd → HL
  | [] => []
  | n :: r => Nd.maps σ n ++ Nd.mapss σ r
end
def NatAt (H : View) (v : Value) (n : Nat) : Prop := ∃ xa k cp, v = .agg #[.slice xa k cp] ∧ RepN H (.slice xa k cp) n
theorem NatAt.mono {H H' : View} {v : Value} {n : Nat} (h : NatAt H v n) (hle : VLe H H') : NatAt H' v n := by
  obtain ⟨xa, k, cp, h1, h2⟩ := h
  exact ⟨xa, k, cp, h1, h2.mono hle⟩
def natZ : Value := .agg #[.slice none 0 0]
def RunP (H : View) (f : Int → Nat) (kvs : KVs) : Prop := (kvs.map (·.1)).Nodup ∧ ∀ q, (lookI kvs q = none → f q = 0) ∧ ∀ v, lookI kvs q = some v → 0 < f q ∧ NatAt H v (f q)
theorem RunP.mono {H H' : View} {f : Int → Nat} {kvs : KVs} (h : RunP H f kvs) (hle : VLe H H') : RunP H' f kvs := ⟨h.1, fun q => ⟨(h.2 q).1, fun v hv => ⟨((h.2 q).2 v hv).1, ((h.2 q).2 v hv).2.mono hle⟩⟩⟩
theorem RunP.nil (H : View) : RunP H (fun _ => 0) [] := ⟨by simp, fun q => ⟨fun _ => rfl, fun v hv => by simp [lookI, findI] at hv⟩⟩
theorem RunP.val {H : View} {f : Int → Nat} {kvs : KVs} (h : RunP H f kvs) (q : Int) : NatAt H ((lookI kvs q).getD natZ) (f q) := by
  cases hl : lookI kvs q with
  | none => exact ⟨none, 0, 0, rfl, by rw [(h.2 q).1 hl]; exact RepN.zero H⟩
  | some v => exact ((h.2 q).2 v hl).2
theorem RunP.isSome {H : View} {f : Int → Nat} {kvs : KVs} (h : RunP H f kvs) (q : Int) : (lookI kvs q).isSome = true ↔ 0 < f q := by
  cases hl : lookI kvs q with
  | none => have := (h.2 q).1 hl; simp; omega
  | some v => have := ((h.2 q).2 v hl).1; simp; omega
theorem RunP.set {H H' : View} {f : Int → Nat} {kvs : KVs} (h : RunP H f kvs) (hle : VLe H H') {q : Int} {n : Nat} {v : Value} (hn : 0 < n) (hv : NatAt H' v (f q + n)) : RunP H' (fun x => f x + if q = x then n else 0) (setI kvs q v) := by
  refine ⟨setI_keys q v h.1, fun x => ?_⟩
  rw [lookI_setI h.1]
  by_cases e : x = q
  · subst e
    dsimp only
    rw [if_pos rfl, if_pos rfl]
    exact ⟨fun h => (by cases h), fun u hu => by cases hu; exact ⟨by omega, hv⟩⟩
  · dsimp only
    rw [if_neg e, if_neg (fun (h : q = x) => e h.symm)]
    exact ⟨fun h1 => by have := (h.2 x).1 h1; omega, fun u hu => ⟨by have := ((h.2 x).2 u hu).1; omega, by simpa using ((h.2 x).2 u hu).2.mono hle⟩⟩
inductive RepNd (tn : TypeId) (H : View) (rs : List Rl) : Tr → Nd → Prop
  | mk (s : Int) (ts : List Tr) (b lm rb : Nat) (ns : List Nd) (a : Option Addr) (cap : Nat) (kvs : KVs) (hb : H b = some (.cells #[.slice a ts.length cap, .int .i64 s, mp rb, mp lm] tn (0, 0))) (hl : ns.length = ts.length)
    (hc : SlAt H (.slice a ts.length cap) ts.length (ns.map fun n => ptr n.b)) (hr : H rb = some (mapOb kvs)) (hq : RunP H (Tr.cnt rs (.node s ts)) kvs)
    (hch : ∀ i (h : i < ts.length) (h2 : i < ns.length), RepNd tn H rs ts[i] ns[i]) : RepNd tn H rs (.node s ts) (.mk b lm ns)
theorem RepNd.mono {tn : TypeId} {H H' : View} {rs : List Rl} {t : Tr} {nd : Nd} (h : RepNd tn H rs t nd) (hle : VLe H H') : RepNd tn H' rs t nd := by
  induction h with
  | mk s ts b lm rb ns a cap kvs hb hl hc hr hq hch ih => exact .mk s ts b lm rb ns a cap kvs (hle _ _ hb) hl (hc.mono hle) (hle _ _ hr) (hq.mono hle) ih
/-- What is known of a node's operands. -/
def ChAt (H : View) (a : Option Addr) (n : Nat) (f : Nat → Int → Nat) (kv : Nat → KVs) : Prop :=
  ∀ i, i < n → ∃ b off cb lv sv mv rb, a = some ⟨b, off, none⟩ ∧ At H b (off + i * 1) [ptr cb] ∧ At H cb 0 [lv, sv, mp rb, mv] ∧ H rb = some (mapOb (kv i)) ∧ RunP H (f i) (kv i)
theorem ChAt.mono {H H' : View} {a : Option Addr} {n : Nat} {f : Nat → Int → Nat} {kv : Nat → KVs} (h : ChAt H a n f kv) (hle : VLe H H') : ChAt H' a n f kv := by
  intro i hi
  obtain ⟨b, off, cb, lv, sv, mv, rb, h1, h2, h3, h4, h5⟩ := h i hi
  exact ⟨b, off, cb, lv, sv, mv, rb, h1, h2.mono hle, h3.mono hle, hle _ _ h4, h5.mono hle⟩
mutual
def Tr.fits (rs : List Rl) : Tr → Prop
  | .node s ts => (∀ r ∈ rs, r.sym = s → r.args.length = ts.length) ∧ Tr.fitss rs ts
def Tr.fitss (rs : List Rl) : List Tr → Prop
  | [] => True
  | t :: ts => Tr.fits rs t ∧ Tr.fitss rs ts
end
section
variable {P : Program} {n : Nat} {c : Cx} {Q : Exit → Act → World → Prop} {l : KL} {hl : HL} {H : View}
end
end Pal

/-
  Ranges over maps; trees that fit; states of a tree. Own work. No statement of the seat is proved here.
-/
namespace Pal
open Go
section
variable {P : Program} {n : Nat} {c : Cx} {Q : Exit → Act → World → Prop} {l : KL} {hl : HL} {H : View} {ops : Array Oper} {rest : List Oper} {d : Nat} {ty : TypeId} {pos : String} {aft : Array Edge}
theorem MapAt.perm {b : Nat} {kvs : KVs} {hl' : HL} (h : MapAt H hl b kvs) (hp : hl.Perm hl') : MapAt H hl' b kvs := h.imp id fun h => hp.mem_iff.1 h
theorem K_range {t kt et : TypeId} {x : Operand} {m : Nat} {kvs : KVs} (ht : P.underlying t = some (.map kt et)) (hx : ev l x = some (mp m)) (hm : MapAt H hl m kvs) (hdn : Nat.blt d n = true)
    (h : ∀ b, KO P n c ops Q rest ((d, ptr b) :: l) (blk b (itO m kvs.length []) :: hl) H) : KO P n c ops Q (⟨some d, .range t x, ty, pos, aft, none⟩ :: rest) l hl H :=
  KE hl [] (by rw [List.append_nil]) (E_range ht hx fun w hw => hm.heap hw) hdn (by
    rintro v H' q _ ⟨b, rfl, rfl, rfl⟩
    rw [List.append_nil]; exact h b)
theorem K_next {x : Operand} {b m : Nat} {kvs : KVs} {seen : List Nat} (j : Nat) (hj : hl[j]? = some (blk b (itO m kvs.length seen))) (hx : ev l x = some (ptr b)) (hm : MapAt H hl m kvs) (hdn : Nat.blt d n = true)
    (h0 : (∀ i, i < kvs.length → i ∈ seen) → KO P n c ops Q rest ((d, .tuple #[.bool false]) :: l) hl H)
    (h1 : ∀ i q u, kvs[i]? = some (q, u) → i ∉ seen → KO P n c ops Q rest ((d, .tuple #[.bool true, .int .i64 q, u]) :: l) (hl.set j (blk b (itO m kvs.length (seen ++ [i])))) H) :
    KO P n c ops Q (⟨some d, .next x false, ty, pos, aft, none⟩ :: rest) l hl H := by
  have hp := perm_erase hj
  have hE := E_next (P := P) (ty := ty) (p := hl.eraseIdx j) hx (H := H) fun w hw => (hm.perm hp).heap hw
  refine KE (blk b (itO m kvs.length seen) :: hl.eraseIdx j) [] (by rw [List.append_nil]; exact hp) hE hdn ?_
  rintro v H' q _ ⟨rfl, ⟨rfl, rfl, hall⟩ | ⟨i, k, u, hk, hi, rfl, rfl⟩⟩
  · rw [List.append_nil]
    exact fun ρ w hm2 ho => h0 hall ρ w hm2 (ho.perm hp.symm)
  · rw [List.append_nil]
    exact fun ρ w hm2 ho => h1 i k u hk hi ρ w hm2 (ho.perm (perm_set hj))
theorem R_entry {x : Operand} {b m i : Nat} {kvs : KVs} {seen : List Nat} {q : Int} {u : Value} (j : Nat) (hj : hl[j]? = some (blk b (itO m kvs.length (seen ++ [i])))) (hx : ev l x = some (ptr b)) (hm : MapAt H hl m kvs) (hk : kvs[i]? = some (q, u)) :
    ValOk P l H hl (.entry x) ty (.tuple #[.int .i64 q, u]) := by
  intro e w hkn hw
  have hb : w.heap[b]? = some (.mapIter (some m) kvs.length ((seen.toArray).push i) kvs.length) := by
    have h := hw.own _ (List.mem_of_getElem? hj)
    have e2 : (seen ++ [i]).toArray = seen.toArray.push i := by simp
    have h2 : w.heap[b]? = some (itO m kvs.length (seen ++ [i])) := h
    rw [itO, e2] at h2
    exact h2
  have hmm : w.heap[m]? = some (.map (mkEs kvs) kvs.length) := hm.heap hw
  have hin : (⟨.int .i64 q, u, i⟩ : MapEntry) ∈ (mkEs kvs).toList := by
    have := mkEs_get kvs i
    rw [hk] at this
    exact Array.mem_toList_iff.2 (Array.mem_of_getElem? this)
  have hnd : ((mkEs kvs).toList.map (·.born)).Nodup := by
    have : (mkEs kvs).toList.map (·.born) = List.range kvs.length := by
      apply List.ext_getElem?
      intro k
      rw [List.getElem?_map, Array.getElem?_toList, mkEs_get]
      by_cases h : k < kvs.length
      · simp [h, entO]
      · simp [h]
    rw [this]; exact List.nodup_range
  have hr := run_entry_at (P := P) w b m kvs.length seen.toArray (mkEs kvs) kvs.length ⟨.int .i64 q, u, i⟩ hb hmm hin hnd
  simp only [ex, execOp, hkn x _ hx, ptr, Sem.run_bind, hr, Result.andThen_ok, Sem.run_pure]
end
theorem length_le_of_subset {α : Type} [DecidableEq α] : ∀ {xs ys : List α}, xs.Nodup → (∀ x ∈ xs, x ∈ ys) → xs.length ≤ ys.length
  | [], _, _, _ => Nat.zero_le _
  | x :: xs, ys, hn, h => by
    have g := List.nodup_cons.1 hn
    have hx := h x List.mem_cons_self
    have ih := length_le_of_subset (xs := xs) (ys := ys.erase x) g.2 fun y hy => by
      have hne : y ≠ x := fun e => g.1 (e ▸ hy)
      exact (List.mem_erase_of_ne hne).2 (h y (List.mem_cons_of_mem _ hy))
    have := List.length_erase_of_mem hx
    have := List.length_pos_of_mem hx
    simp only [List.length_cons]
    omega
/-- The states of a tree, in their order. -/
def IsReach (rs : List Rl) (t : Tr) (L : List Int) : Prop := L.Pairwise (· < ·) ∧ ∀ q, q ∈ L ↔ 0 < t.cnt rs q
theorem RepNd.head {tn : TypeId} {H : View} {rs : List Rl} {t : Tr} {nd : Nd} (h : RepNd tn H rs t nd) : ∃ lv sv rb kvs, At H nd.b 0 [lv, sv, mp rb, mp nd.lm] ∧ H rb = some (mapOb kvs) ∧ RunP H (Tr.cnt rs t) kvs := by
  cases h with
  | mk s ts b lm rb ns a cap kvs hb hl hc hr hq hch => exact ⟨_, _, rb, kvs, At.of hb, hr, hq⟩
/-- What a range has seen, when it has seen all. -/
theorem seen_all {kvs : KVs} {seen : List Nat} (hn : seen.Nodup) (hlt : ∀ i ∈ seen, i < kvs.length) (hall : ∀ i, i < kvs.length → i ∈ seen) : (seen.map fun i => kvs.getD i (0, nilS)).Perm kvs := by
  have hp : seen.Perm (List.range kvs.length) := (List.perm_ext_iff_of_nodup hn List.nodup_range).2 fun i => ⟨fun h => List.mem_range.2 (hlt i h), fun h => hall i (List.mem_range.1 h)⟩
  refine (hp.map _).trans ?_
  have : (List.range kvs.length).map (fun i => kvs.getD i (0, nilS)) = kvs := by
    apply List.ext_getElem?
    intro k
    rw [List.getElem?_map]
    by_cases h : k < kvs.length
    · simp [h, List.getD]
    · simp [h]
  rw [this]
theorem seen_len {n : Nat} {seen : List Nat} (hn : seen.Nodup) (hlt : ∀ i ∈ seen, i < n) : seen.length ≤ n := by
  have := length_le_of_subset (ys := List.range n) hn fun i hi => List.mem_range.2 (hlt i hi)
  simpa using this
theorem seen_snoc {n i : Nat} {seen : List Nat} (hn : seen.Nodup) (hlt : ∀ i ∈ seen, i < n) (hi : i ∉ seen) (hin : i < n) : (seen ++ [i]).Nodup ∧ (∀ j ∈ seen ++ [i], j < n) ∧ seen.length + 1 ≤ n := by
  have h1 : (seen ++ [i]).Nodup := List.nodup_append.2 ⟨hn, by simp, fun a ha b hb e => by simp at hb; subst hb; subst e; exact hi ha⟩
  have h2 : ∀ j ∈ seen ++ [i], j < n := fun j hj => by
    rcases List.mem_append.1 hj with h | h
    · exact hlt j h
    · simp at h; omega
  have h3 := seen_len h1 h2
  exact ⟨h1, h2, by simpa using h3⟩
def keysAt (kvs : KVs) (seen : List Nat) : List Int := seen.map fun i => (kvs.getD i (0, nilS)).1
theorem keysAt_snoc {kvs : KVs} {seen : List Nat} {i : Nat} {q : Int} {u : Value} (h : kvs[i]? = some (q, u)) : keysAt kvs (seen ++ [i]) = keysAt kvs seen ++ [q] := by
  simp [keysAt, List.getD, h]
theorem keysAt_all {kvs : KVs} {seen : List Nat} (hn : seen.Nodup) (hlt : ∀ i ∈ seen, i < kvs.length) (hall : ∀ i, i < kvs.length → i ∈ seen) : (keysAt kvs seen).Perm (kvs.map (·.1)) := by
  have := (seen_all hn hlt hall).map (·.1)
  rwa [List.map_map] at this
end Pal
namespace Pal
open Go
end Pal

/-
  Least runs with their memory: the maps of a tree's nodes. Own work. No statement of the seat is proved here.
-/
namespace Pal
open Go
inductive Md where
  | mk (lm : Nat) (kv : KVs) (l : List Md)
mutual
def Md.maps : Md → HL
  | .mk lm kv l => blk lm (mapOb kv) :: Md.mapss l
def Md.mapss : List Md → HL
  | [] => []
  | m :: r => Md.maps m ++ Md.mapss r
end
def LeastP (H : View) (f : Int → Option (List Int)) (kvs : KVs) : Prop := (kvs.map (·.1)).Nodup ∧ ∀ q v, lookI kvs q = some v → ∃ x, f q = some x ∧ SI H v x
theorem LeastP.mono {H H' : View} {f : Int → Option (List Int)} {kvs : KVs} (h : LeastP H f kvs) (hle : VLe H H') : LeastP H' f kvs :=
  ⟨h.1, fun q v hv => by obtain ⟨x, h1, h2⟩ := h.2 q v hv; exact ⟨x, h1, h2.mono hle⟩⟩
theorem LeastP.set {H H' : View} {f : Int → Option (List Int)} {kvs : KVs} (h : LeastP H f kvs) (hle : VLe H H') {q : Int} {v : Value} {x : List Int} (hx : f q = some x) (hv : SI H' v x) : LeastP H' f (setI kvs q v) := by
  refine ⟨setI_keys q v h.1, fun k u hu => ?_⟩
  rw [lookI_setI h.1] at hu
  by_cases e : k = q
  · rw [if_pos e] at hu; cases hu; subst e; exact ⟨x, hx, hv⟩
  · rw [if_neg e] at hu; exact (h.mono hle).2 k u hu
inductive MdOk (H : View) (rs : List Rl) : Tr → Nd → Md → Prop
  | mk (s : Int) (ts : List Tr) (b lm : Nat) (ns : List Nd) (kv : KVs) (ms : List Md) (h1 : ns.length = ts.length) (h2 : ms.length = ts.length) (hk : LeastP H (Tr.least rs (.node s ts)) kv)
    (hch : ∀ i (h : i < ts.length) (h2 : i < ns.length) (h3 : i < ms.length), MdOk H rs ts[i] ns[i] ms[i]) : MdOk H rs (.node s ts) (.mk b lm ns) (.mk lm kv ms)
theorem MdOk.mono {H H' : View} {rs : List Rl} {t : Tr} {nd : Nd} {md : Md} (h : MdOk H rs t nd md) (hle : VLe H H') : MdOk H' rs t nd md := by
  induction h with
  | mk s ts b lm ns kv ms h1 h2 hk hch ih => exact .mk s ts b lm ns kv ms h1 h2 (hk.mono hle) ih
mutual
def Nd.md : Nd → Md
  | .mk _ lm l => .mk lm [] (Nd.mds l)
def Nd.mds : List Nd → List Md
  | [] => []
  | n :: r => Nd.md n :: Nd.mds r
end
section
variable {P : Program} {n : Nat} {c : Cx} {Q : Exit → Act → World → Prop} {l : KL} {hl : HL} {H : View} {ops : Array Oper} {rest : List Oper}
end
/-! ### The plain law -/
/-- The best run so far, in its cell. -/
def BestW (H : View) (w : Value) (o : Option (List Int)) : Prop := (o = none ∧ w = nilS) ∨ ∃ x a cp, o = some x ∧ w = .slice (some a) x.length cp ∧ SI H w x ∧ x.length ≤ 1048577
theorem BestW.mono {H H' : View} {w : Value} {o : Option (List Int)} (h : BestW H w o) (hle : VLe H H') : BestW H' w o := by
  rcases h with h | ⟨x, a, cp, h1, h2, h3, h4⟩
  · exact .inl h
  · exact .inr ⟨x, a, cp, h1, h2, h3.mono hle, h4⟩
end Pal

/-
  The reference's enumeration of runs: lists of pairs, their number. Own work. No statement of the seat is proved here.
-/
namespace Pal
open Go
section
variable {P : Program} {l : KL} {hl : HL} {H : View} {ty : TypeId}
end
theorem Sat.nil {P : Program} {f : FuncId} {args : Array Value} {H : View} {post : Value → View → Prop} (h : Sat P f args H post) : SatO P f args H [] (fun v H' q => q = [] ∧ post v H') := by
  intro w hw
  refine Calls.mono (h w hw) ?_
  rintro e w' ⟨v, H', q, rfl, hok, hp⟩
  exact ⟨v, H', [], rfl, hok.sublist (List.nil_sublist _), rfl, hp⟩
/-- A call that reads something owned. -/
theorem Sat.lend {P : Program} {f : FuncId} {args : Array Value} {H : View} (en : Own) {post : Value → Prop} (h : ∀ H2, VLe H H2 → en.holds H2 → Sat P f args H2 (fun v _ => post v)) : SatO P f args H [en] (fun v H' q => H' = H ∧ q = [en] ∧ post v) := by
  have h2 := SatO.lend (P := P) (f := f) (args := args) (H := H) (hl := []) [en] (post := fun v q => q = [] ∧ post v) (fun H2 hle hh => (h H2 hle (hh en List.mem_cons_self)).nil)
  refine SatO.mono' h2 ?_
  rintro v H' q ⟨rfl, q', rfl, rfl, hp⟩
  exact ⟨rfl, rfl, hp⟩
theorem IsReach.uniq {rs : List Rl} {t : Tr} {L L' : List Int} (h : IsReach rs t L) (h' : IsReach rs t L') : L = L' :=
  rise_uniq (fun x => by omega) (fun x y z => by omega) h.1 h'.1 fun q => (h.2 q).trans (h'.2 q).symm
end Pal

/-
  The values of the small automaton that a law's own test runs on, and what the laws of reachable states and of runs come to: the
  library's answers and the reference's, told over the same sorted rules, are alike. Plain Lean, no program. Own work.
-/
namespace Go.Proofs.X
open Go Pal Go.Proofs
theorem repT_leaf (H : View) (s : Int) (hs : i64ok s) : RepT H (.node s []) [.int .i64 s, .slice none 0 0] :=
  .mk s [] none 0 0 0 (fun _ => []) hs (fun h => absurd rfl h) (fun i hi => absurd hi (Nat.not_lt_zero i)) (fun i hi => absurd hi (Nat.not_lt_zero i))
theorem BestW.si {H : View} {w : Value} {o : Option (List Int)} (h : BestW H w o) : SI H w (o.getD []) ∧ (o.getD []).length ≤ 1048577 := by
  rcases h with ⟨rfl, rfl⟩ | ⟨x, a, cp, rfl, rfl, h3, h4⟩
  · exact ⟨⟨⟨none, 0, rfl, .inl ⟨rfl, rfl⟩⟩, fun x hx => by cases hx⟩, Nat.zero_le _⟩
  · exact ⟨h3, h4⟩
section rules
variable {P : Program} {n : Nat} {c : Cx} {l : KL} {hl : HL} {H : View} {v : Value} {ty : TypeId} {pos : String} {aft : Array Edge} {g : Option (Nat × Bool)} {ol : List Oper} {keep : HL} {fin : Bool} {T : ST} {R : List Nat} {i : Nat}
/-- A store of a whole block's cells in the chain. -/
theorem D_storeW {t : TypeId} {x y : Operand} {agg : Bool} {sz b : Nat} {cs cs' : Array Value} {E : TypeId} (hT : Ty P t agg sz) (j : Nat) (hi : nthO ol i = some ⟨none, .store t x y, ty, pos, aft, g⟩) (hw : wlO ol l g = some true)
    (hx : ev l x = some (.pointer (some ⟨b, 0, none⟩))) (hy : ev l y = some v) (hj : hl[j]? = some (blk b (.cells cs E (0, 0)))) (hkp : memAll keep (hl.eraseIdx j)) (hv : v.cells = cs') (hsz : cs'.size = sz) (hcs : cs.size = sz) (h1 : cs'.toList.all Value.oneCell' = true)
    (h : KD P n ol.toArray keep fin T R l (blk b (.cells cs' E (0, 0)) :: hl.eraseIdx j) H) : KD P n ol.toArray keep fin T (i :: R) l hl H := by
  subst hv
  refine D_store hT j hi hw hx hy hj hkp (by simpa using hsz) (Nat.ble_eq.mpr (by simp [hsz, hcs])) h1 ?_
  rw [putCells_all (by rw [hsz, hcs])]
  exact h
end rules
end Go.Proofs.X

/-
  Automata up to order and duplicates: sorted forms of sorted forms, the reference's Same, and the automaton with nothing in it that stands beside
  an error. Plain Lean, no program. Own work.
-/
namespace Go.Proofs.X
open Go Pal Go.Proofs
deriving instance DecidableEq for Rl
def zeroA : Au := ⟨[], 0, [], []⟩
def errAu (e : Int) (b : Au) : Au := if e = 0 then b else zeroA
theorem errAu_ok {e : Int} {b : Au} (h : e = 0) : errAu e b = b := if_pos h
theorem errAu_no {e : Int} {b : Au} (h : e ≠ 0) : errAu e b = zeroA := if_neg h
end Go.Proofs.X

/-
  Trees with turned symbols; when a run exists; images and inverse images accept alike. Plain Lean, no program. Own work.
-/
namespace Pal
open Go Go.Proofs Go.Proofs.X
def turnS (l : List Int) (s : Int) : Int := if 0 ≤ s ∧ s < l.length then l.getD s.toNat 0 else 0
mutual
def Tr.turn (l : List Int) : Tr → Tr
  | .node s ts => .node (turnS l s) (Tr.turns l ts)
def Tr.turns (l : List Int) : List Tr → List Tr
  | [] => []
  | t :: r => Tr.turn l t :: Tr.turns l r
end
theorem sum_pos_iff {α : Type} (f : α → Nat) : ∀ l : List α, 0 < (l.map f).sum ↔ ∃ x ∈ l, 0 < f x
  | [] => by simp
  | a :: l => by
    have ih := sum_pos_iff f l
    simp only [List.map_cons, List.sum_cons, List.mem_cons, exists_eq_or_imp]
    rw [← ih]; omega
theorem Tr.cnt_pos {rs : List Rl} {s : Int} {ts : List Tr} {q : Int} : 0 < Tr.cnt rs (.node s ts) q ↔ ∃ r ∈ rs, r.sym = s ∧ r.to = q ∧ 0 < Tr.cnts rs ts r.args := by
  rw [Tr.cnt, sum_pos_iff]
  constructor
  · rintro ⟨r, hr, h⟩
    obtain ⟨h1, h2⟩ := List.mem_filter.1 hr
    have h3 := of_decide_eq_true h2
    exact ⟨r, h1, h3.1, h3.2, h⟩
  · rintro ⟨r, h1, h2, h3, h⟩
    exact ⟨r, List.mem_filter.2 ⟨h1, decide_eq_true ⟨h2, h3⟩⟩, h⟩
theorem Tr.cnts_pos {rs : List Rl} {t : Tr} {ts : List Tr} {q : Int} {qs : List Int} : 0 < Tr.cnts rs (t :: ts) (q :: qs) ↔ 0 < Tr.cnt rs t q ∧ 0 < Tr.cnts rs ts qs := by
  rw [Tr.cnts]
  constructor
  · intro h
    exact ⟨Nat.pos_of_ne_zero fun e => by rw [e] at h; simp at h, Nat.pos_of_ne_zero fun e => by rw [e] at h; simp at h⟩
  · rintro ⟨h1, h2⟩; exact Nat.mul_pos h1 h2
end Pal

/-
  The product of two automata, in plain Lean. Own work. No program, no statement of the seat.
-/
namespace Pal
open Go Go.Proofs Go.Proofs.X
theorem keysAt_nodup {kvs : KVs} {seen : List Nat} (hk : (kvs.map (·.1)).Nodup) (hn : seen.Nodup) (hlt : ∀ i ∈ seen, i < kvs.length) : (keysAt kvs seen).Nodup := by
  unfold keysAt
  rw [List.Nodup, List.pairwise_map]
  refine List.Pairwise.imp_of_mem (fun {a b} ha hb hab e => ?_) hn
  have h1 := hlt a ha
  have h2 := hlt b hb
  have key : ∀ i j, i < j → (hj : j < kvs.length) → (kvs.getD i (0, nilS)).1 ≠ (kvs.getD j (0, nilS)).1 := fun i j hij hj e => by
    have hi : i < kvs.length := by omega
    have h3 := List.pairwise_iff_getElem.1 hk i j (by simpa using hi) (by simpa using hj) hij
    apply h3
    simp only [List.getElem_map]
    simpa [List.getD, hi, hj] using e
  rcases Nat.lt_or_gt_of_ne hab with h | h
  · exact key a b h h2 e
  · exact key b a h h1 e.symm
end Pal
