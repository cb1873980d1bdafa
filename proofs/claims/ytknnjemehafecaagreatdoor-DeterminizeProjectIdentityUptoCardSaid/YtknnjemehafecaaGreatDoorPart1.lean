/-
  Part of the proof: rules for walks, contracts of the functions that the statements reach, plain laws. Own work. No statement of the seat is proved here.
-/
import Derived.Test.YtknnjemehafecaaGreatDoorPalC
import Derived.Test.YtknnjemehafecaaGreatDoorPalG
import Derived.RangeFuncRecord
import Derived.RangeFuncIn
import Derived.AtR
import Derived.DeepKeys4
import Derived.ChangeKeysEq
import Derived.WalkSpells
import Derived.Laws.MakeOwn
import Derived.Laws.BitsAllLaws
/-
  Trees asx data, and how they lie in a view. Own work.
-/
namespace Pal
open Go

inductive Tr where
  | node (sym : Int) (l : List Tr)

mutual
def Tr.size : Tr → Nat
  | .node _ ts => 1 + Tr.sizes ts
def Tr.sizes : List Tr → Nat
  | [] => 0
  | t :: r => Tr.size t + Tr.sizes r
end
mutual
def Tr.deep : Tr → Nat
  | .node _ ts => Tr.deeps ts + 1
def Tr.deeps : List Tr → Nat
  | [] => 0
  | t :: r => max (Tr.deep t) (Tr.deeps r)
end
theorem Tr.sizes_append (a b : List Tr) : Tr.sizes (a ++ b) = Tr.sizes a + Tr.sizes b := by
  induction a with
  | nil => simp [Tr.sizes]
  | cons x r ih => simp only [List.cons_append, Tr.sizes, ih]; omega
theorem Tr.sizes_take (ts : List Tr) (k : Nat) (h : k < ts.length) : Tr.sizes (ts.take (k + 1)) = Tr.sizes (ts.take k) + ts[k].size := by
  rw [List.take_succ_eq_append_getElem h, Tr.sizes_append]; simp [Tr.sizes]
theorem Tr.sizes_take_le (ts : List Tr) (k : Nat) : Tr.sizes (ts.take k) ≤ Tr.sizes ts := by
  have := Tr.sizes_append (ts.take k) (ts.drop k)
  rw [List.take_append_drop] at this
  omega
theorem Tr.length_le_sizes (ts : List Tr) : ts.length ≤ Tr.sizes ts := by
  induction ts with
  | nil => simp
  | cons t r ih =>
    have : 1 ≤ t.size := by cases t; simp only [Tr.size]; omega
    simp only [List.length_cons, Tr.sizes]; omega
theorem Tr.size_pos (t : Tr) : 1 ≤ t.size := by cases t; simp only [Tr.size]; omega

theorem Tr.deeps_append (a b : List Tr) : Tr.deeps (a ++ b) = max (Tr.deeps a) (Tr.deeps b) := by
  induction a with
  | nil => simp [Tr.deeps]
  | cons x r ih => simp only [List.cons_append, Tr.deeps, ih]; omega
theorem Tr.deeps_take (ts : List Tr) (k : Nat) (h : k < ts.length) : Tr.deeps (ts.take (k + 1)) = max (Tr.deeps (ts.take k)) ts[k].deep := by
  rw [List.take_succ_eq_append_getElem h, Tr.deeps_append]; simp [Tr.deeps]
mutual
theorem Tr.deep_le : ∀ t : Tr, t.deep ≤ t.size
  | .node s ts => by have := Tr.deeps_le ts; simp only [Tr.deep, Tr.size]; omega
theorem Tr.deeps_le : ∀ ts : List Tr, Tr.deeps ts ≤ Tr.sizes ts
  | [] => by simp [Tr.deeps, Tr.sizes]
  | t :: r => by have := Tr.deep_le t; have := Tr.deeps_le r; simp only [Tr.deeps, Tr.sizes]; omega
end
mutual
def Tr.relabel (to : List Int) : Tr → Option Tr
  | .node s ts => if 0 ≤ s ∧ s < to.length then (Tr.relabels to ts).map (.node (to.getD s.toNat 0)) else none
def Tr.relabels (to : List Int) : List Tr → Option (List Tr)
  | [] => some []
  | t :: r => match Tr.relabel to t with
    | none => none
    | some u => (Tr.relabels to r).map (u :: ·)
end
def i64ok (x : Int) : Prop := -9223372036854775808 ≤ x ∧ x ≤ 9223372036854775807

inductive RepT (H : View) : Tr → List Value → Prop
  | mk (s : Int) (ts : List Tr) (a : Option Addr) (cap b off : Nat) (cs : Nat → List Value) (hs : i64ok s) (ha : ts ≠ [] → a = some ⟨b, off, none⟩)
    (hA : ∀ i, i < ts.length → (cs i).length = 2 ∧ At H b (off + i * 2) (cs i)) (hr : ∀ i (h : i < ts.length), RepT H ts[i] (cs i)) :
    RepT H (.node s ts) [.int .i64 s, .slice a ts.length cap]
theorem RepT.mono {H H' : View} {t : Tr} {cs : List Value} (h : RepT H t cs) (hle : VLe H H') : RepT H' t cs := by
  induction h with
  | mk s ts a cap b off cs hs ha hA _ ih => exact .mk s ts a cap b off cs hs ha (fun i hi => ⟨(hA i hi).1, (hA i hi).2.mono hle⟩) ih
end Pal

/-
  Lists, slices and trees asx they lie in a view. Own work. No statement of the seat is proved here.
-/
namespace Pal
open Go

theorem App.of {P : Program} {t e : TypeId} {sz bytes : Nat} (hs : slcOk P t e)
    (h : (match P.info? e with | some i => (match i.zero with | some z => Nat.beq i.size sz && Nat.beq i.bytes bytes && Nat.beq z.cells.size sz && Nat.blt 0 sz | none => false) | none => false) = true) : App P t e sz bytes := by
  cases hi : P.info? e with
  | none => rw [hi] at h; cases h
  | some i =>
    rw [hi] at h
    simp only [] at h
    cases hz : i.zero with
    | none => rw [hz] at h; cases h
    | some z =>
      rw [hz] at h
      simp only [Bool.and_eq_true] at h
      obtain ⟨⟨⟨h1, h2⟩, h3⟩, h4⟩ := h
      exact ⟨hs, by simpa using h4, i, z, hi, hz, Nat.eq_of_beq_eq_true h1, Nat.eq_of_beq_eq_true h3, Nat.eq_of_beq_eq_true h2⟩

section
variable {P : Program} {n : Nat} {c : Cx} {Q : Exit → Act → World → Prop} {l : KL} {hl : HL} {H : View} {ops : Array Oper} {rest : List Oper}
theorem Ok.nilrow {w : World} (e : TypeId) (sz : Nat) (ho : Ok c w H hl) : Ok c w H (row nilS e sz 0 [] :: hl) := by
  refine ⟨ho.os, ho.tape, ho.output, ho.drawn, ho.size, ho.old, ho.vold, ho.le, ho.has, ?_, ?_, ?_⟩
  · intro en hen
    rcases List.mem_cons.1 hen with rfl | hen
    · exact row_nil e sz w
    · exact ho.own en hen
  · intro b hb
    rw [feet_cons] at hb
    simp [row, nilS, rowFoot] at hb
    exact ho.foot b hb
  · rw [feet_cons]; simpa [row, nilS, rowFoot] using ho.nd
theorem K_nilrow {code : Code} (e : TypeId) (sz : Nat) (h : KC P n c code Q l (row nilS e sz 0 [] :: hl) H) : KC P n c code Q l hl H :=
  fun ρ w hm ho => h ρ w hm (ho.nilrow e sz)
end

theorem At.sub {H : View} {b off p : Nat} {cells cs : List Value} (h : At H b off cells) (hc : ∀ j v, cs[j]? = some v → cells[p + j]? = some v) : At H b (off + p) cs := by
  obtain ⟨a, T, fz, h1, h2⟩ := h
  exact ⟨a, T, fz, h1, fun j v hj => by rw [Nat.add_assoc]; exact h2 _ _ (hc j v hj)⟩

/-- The cells of a list's elements, sz each. -/
inductive RepL {α : Type} (R : α → List Value → Prop) (sz : Nat) : List α → List Value → Prop
  | nil : RepL R sz [] []
  | cons {x : α} {cs : List Value} {xs : List α} {ys : List Value} (h : R x cs) (hl : cs.length = sz) (ht : RepL R sz xs ys) : RepL R sz (x :: xs) (cs ++ ys)
theorem RepL.length {α : Type} {R : α → List Value → Prop} {sz : Nat} {xs : List α} {cells : List Value} (h : RepL R sz xs cells) : cells.length = xs.length * sz := by
  induction h with
  | nil => simp
  | cons _ hl _ ih => rw [List.length_append, hl, ih, List.length_cons, Nat.add_mul]; omega
theorem RepL.imp {α : Type} {R R' : α → List Value → Prop} {sz : Nat} {xs : List α} {cells : List Value} (hR : ∀ x cs, R x cs → R' x cs) (h : RepL R sz xs cells) : RepL R' sz xs cells := by
  induction h with
  | nil => exact .nil
  | cons h hl _ ih => exact .cons (hR _ _ h) hl ih
theorem RepL.append {α : Type} {R : α → List Value → Prop} {sz : Nat} {xs ys : List α} {a b : List Value} (h : RepL R sz xs a) (k : RepL R sz ys b) : RepL R sz (xs ++ ys) (a ++ b) := by
  induction h with
  | nil => exact k
  | cons h hl _ ih => rw [List.append_assoc]; exact .cons h hl ih
theorem RepL.one {α : Type} {R : α → List Value → Prop} {sz : Nat} {x : α} {cs : List Value} (h : R x cs) (hl : cs.length = sz) : RepL R sz [x] cs := by
  have := RepL.cons h hl (RepL.nil (R := R) (sz := sz)); simpa using this
theorem RepL.snoc {α : Type} {R : α → List Value → Prop} {sz : Nat} {xs : List α} {x : α} {a cs : List Value} (h : RepL R sz xs a) (hx : R x cs) (hl : cs.length = sz) : RepL R sz (xs ++ [x]) (a ++ cs) :=
  h.append (.one hx hl)
theorem RepL.get {α : Type} {R : α → List Value → Prop} {sz : Nat} {xs : List α} {cells : List Value} (h : RepL R sz xs cells) : ∀ {i : Nat} (hi : i < xs.length),
    ∃ cs, cs.length = sz ∧ R xs[i] cs ∧ ∀ j v, cs[j]? = some v → cells[i * sz + j]? = some v := by
  induction h with
  | nil => intro i hi; simp at hi
  | @cons x cs xs ys hx hl ht ih =>
    intro i hi
    cases i with
    | zero => exact ⟨cs, hl, hx, fun j v hj => by
        have : j < cs.length := (List.getElem?_eq_some_iff.1 hj).1
        simpa [List.getElem?_append_left this] using hj⟩
    | succ i =>
      obtain ⟨c', h1, h2, h3⟩ := ih (i := i) (by simpa using hi)
      refine ⟨c', h1, by simpa using h2, fun j v hj => ?_⟩
      rw [List.getElem?_append_right (by rw [hl, Nat.add_mul]; omega), hl, show (i + 1) * sz + j - sz = i * sz + j by rw [Nat.add_mul]; omega]
      exact h3 j v hj
/-- A slice value over a view: k elements, whose cells these are. -/
def SlAt (H : View) (v : Value) (k : Nat) (cells : List Value) : Prop :=
  ∃ a cap, v = .slice a k cap ∧ ((k = 0 ∧ cells = []) ∨ ∃ b off, a = some ⟨b, off, none⟩ ∧ At H b off cells)
theorem SlAt.mono {H H' : View} {v : Value} {k : Nat} {cells : List Value} (h : SlAt H v k cells) (hle : VLe H H') : SlAt H' v k cells := by
  obtain ⟨a, cap, h1, h2⟩ := h
  refine ⟨a, cap, h1, h2.imp id ?_⟩
  rintro ⟨b, off, h3, h4⟩
  exact ⟨b, off, h3, h4.mono hle⟩
theorem rowAt.sl {H : View} {v : Value} {k : Nat} {xs : List Value} (h : rowAt H v k xs) : SlAt H v k xs := by
  rcases h with ⟨rfl, rfl, rfl⟩ | ⟨g, cap, rfl, h⟩
  · exact ⟨none, 0, rfl, .inl ⟨rfl, rfl⟩⟩
  · exact ⟨_, cap, rfl, .inr ⟨g, 0, rfl, h⟩⟩

/-- The element at i of a slice that reads asx xs. -/
theorem SlAt.elem {α : Type} {R : α → List Value → Prop} {sz : Nat} {xs : List α} {cells : List Value} {H : View} {a : Option Addr} {k cap : Nat} (h : SlAt H (.slice a k cap) k cells) (hR : RepL R sz xs cells) {i : Nat} (hi : i < xs.length) (hk : k = xs.length) :
    ∃ b off cs, a = some ⟨b, off, none⟩ ∧ cs.length = sz ∧ R xs[i] cs ∧ At H b (off + i * sz) cs := by
  obtain ⟨a', cap', h1, h2⟩ := h
  cases h1
  rcases h2 with ⟨h2, _⟩ | ⟨b, off, rfl, h2⟩
  · omega
  · obtain ⟨cs, h3, h4, h5⟩ := hR.get hi
    exact ⟨b, off, cs, rfl, h3, h4, h2.sub h5⟩

/-! ### Numbers, bools, lists of them -/
def RI (x : Int) (cs : List Value) : Prop := i64ok x ∧ cs = [.int .i64 x]
def RB (x : Bool) (cs : List Value) : Prop := cs = [.bool x]
def ints (xs : List Int) : List Value := xs.map (.int .i64)
theorem RepL.ints {xs : List Int} (h : ∀ x ∈ xs, i64ok x) : RepL RI 1 xs (ints xs) := by
  induction xs with
  | nil => exact .nil
  | cons x r ih => exact .cons (cs := [.int .i64 x]) ⟨h x (by simp), rfl⟩ rfl (ih fun y hy => h y (List.mem_cons_of_mem _ hy))
theorem RepL.eq_ints {xs : List Int} {cells : List Value} (h : RepL RI 1 xs cells) : cells = Pal.ints xs ∧ ∀ x ∈ xs, i64ok x := by
  induction h with
  | nil => exact ⟨rfl, fun _ h => by cases h⟩
  | cons h _ _ ih =>
    obtain ⟨h1, rfl⟩ := h
    exact ⟨by rw [ih.1]; rfl, fun y hy => by
      rcases List.mem_cons.1 hy with rfl | hy
      · exact h1
      · exact ih.2 y hy⟩
theorem ints_one (xs : List Int) : (ints xs).all Value.oneCell' = true := by
  induction xs with
  | nil => rfl
  | cons x r ih => exact ih
/-- A slice of ints. -/
def SI (H : View) (v : Value) (xs : List Int) : Prop := SlAt H v xs.length (ints xs) ∧ ∀ x ∈ xs, i64ok x
theorem SI.mono {H H' : View} {v : Value} {xs : List Int} (h : SI H v xs) (hle : VLe H H') : SI H' v xs := ⟨h.1.mono hle, h.2⟩
theorem SI.get {H : View} {a : Option Addr} {k cap : Nat} {xs : List Int} (h : SI H (.slice a k cap) xs) {i : Nat} (hi : i < xs.length) : ∃ b off, a = some ⟨b, off, none⟩ ∧ At H b (off + i * 1) [.int .i64 xs[i]] := by
  obtain ⟨h1, h2⟩ := h
  have hk : k = xs.length := by obtain ⟨_, _, h, _⟩ := h1; cases h; rfl
  subst hk
  obtain ⟨b, off, cs, h3, h4, h5, h6⟩ := h1.elem (.ints h2) hi rfl
  obtain ⟨_, rfl⟩ := h5
  exact ⟨b, off, h3, h6⟩
theorem SI.shape {H : View} {v : Value} {xs : List Int} (h : SI H v xs) : ∃ a cap, v = .slice a xs.length cap := by
  obtain ⟨⟨a, cap, h, _⟩, _⟩ := h; exact ⟨a, cap, h⟩

/-! ### Trees -/
theorem RepT.two {H : View} {t : Tr} {cs : List Value} (h : RepT H t cs) : cs.length = 2 := by cases h; rfl
theorem RepT.shape {H : View} {t : Tr} {cs : List Value} (h : RepT H t cs) : ∃ s a k c, cs = [.int .i64 s, .slice a k c] := by cases h; exact ⟨_, _, _, _, rfl⟩
theorem RepT.of {H : View} {s : Int} {ts : List Tr} {v : Value} {cells : List Value} (hs : i64ok s) (hv : SlAt H v ts.length cells) (hR : RepL (RepT H) 2 ts cells) : RepT H (.node s ts) [.int .i64 s, v] := by
  obtain ⟨a, cap, rfl, h2⟩ := hv
  have hget := fun i (hi : i < ts.length) => hR.get hi
  have : ∃ cs : Nat → List Value, ∀ i (hi : i < ts.length), (cs i).length = 2 ∧ RepT H ts[i] (cs i) ∧ ∀ j v, (cs i)[j]? = some v → cells[i * 2 + j]? = some v := by
    classical
    refine ⟨fun i => if hi : i < ts.length then (hget i hi).choose else [], fun i hi => ?_⟩
    simp only [hi, dif_pos]
    exact (hget i hi).choose_spec
  obtain ⟨cs, hcs⟩ := this
  rcases h2 with ⟨h2, h3⟩ | ⟨b, off, rfl, h2⟩
  · refine .mk s ts a cap 0 0 cs hs (fun hne => ?_) (fun i hi => by omega) (fun i hi => (hcs i hi).2.1)
    exact absurd (List.eq_nil_of_length_eq_zero h2) hne
  · exact .mk s ts _ cap b off cs hs (fun _ => rfl) (fun i hi => ⟨(hcs i hi).1, h2.sub (hcs i hi).2.2⟩) (fun i hi => (hcs i hi).2.1)
end Pal

/-
  Range over a function: the rounds, the iterator's side, the loop's side, over PalG. Own work. No statement of the seat is proved here.
-/
namespace Pal
open Go

def onlyN (K : Act → World → Prop) : Exit → Act → World → Prop
  | .normal, a, w => K a w
  | _, _, _ => False
def noDefer (ops : List Oper) : Bool := ops.all fun o => match o.op with | .defer _ => false | _ => true
theorem noDefer.get {ops : List Oper} (h : noDefer ops = true) {i : Nat} {o : Oper} (ho : ops.toArray[i]? = some o) (c : Call) : o.op ≠ .defer c := by
  intro e
  have hm : o ∈ ops := by
    have : ops[i]? = some o := by simpa using ho
    exact List.mem_of_getElem? this
  have := List.all_eq_true.1 h o hm
  rw [e] at this
  cases this

/-- Operations, in whatever frame. -/
theorem ops_steps {P : Program} {ol : List Oper} {K : Act → World → Prop} (hnd : noDefer ol = true) :
    ∀ (is : List Nat) (a : Act) (w : World), wpOps P ol.toArray (onlyN K) is a w → ∀ (b : Frame) (ds : List Deferred) (k : List Item) (cs : List Frame),
      ∃ a' w', K a' w' ∧ Steps P (lone (b.atR ⟨a.tmps, a.defers ++ ds⟩ (.inRegion ol.toArray is :: k)) cs w) (lone (b.atR ⟨a'.tmps, a'.defers ++ ds⟩ k) cs w')
  | [], a, w, h, b, ds, k, cs => ⟨a, w, h, .one stepR_region_end⟩
  | i :: rest, a, w, h, b, ds, k, cs => by
    have ih := fun a w (h : wpOps P ol.toArray (onlyN K) rest a w) => ops_steps hnd rest a w h b ds k cs
    simp only [wpOps] at h
    cases ho : ol.toArray[i]? with
    | none =>
      simp only [ho] at h
      obtain ⟨a', w', hq, hs⟩ := ih a w h
      have h1 := stepR_op_skip (P := P) (b := b) (a := ⟨a.tmps, a.defers ++ ds⟩) (k := k) (cs := cs) (w := w) (ops := ol.toArray) (i := i) (rest := rest) (by simp [ho])
      simp only [ho, Option.bind_none, Act.put] at h1
      exact ⟨a', w', hq, .head h1 hs⟩
    | some o =>
      simp only [ho] at h
      have hput : ∀ v, (Act.put ⟨a.tmps, a.defers ++ ds⟩ o.dst v) = ⟨(a.put o.dst v).tmps, (a.put o.dst v).defers ++ ds⟩ := by
        intro v; cases hd : o.dst <;> simp [Act.put]
      by_cases hw : Region.wanted o (yielded ol.toArray a.tmps) = true
      · simp only [hw, if_true] at h
        rcases h with h | ⟨_, _, _, hq⟩
        case inr => exact hq.elim
        simp only [Oper.wp, Oper.upon] at h
        have hev : (Act.eval ⟨a.tmps, a.defers ++ ds⟩) = a.eval := by funext x; cases x <;> rfl
        have hg := stepGR_op (P := P) (b := b) (a := ⟨a.tmps, a.defers ++ ds⟩) (k := k) (cs := cs) (w := w) (rest := rest) ho hw
        rw [Oper.semAt_eq _ _ _ (noDefer.get hnd ho), hev] at hg
        have hfin : ∀ v, (b.atR ⟨a.tmps, a.defers ++ ds⟩ (.inRegion ol.toArray (i :: rest) :: k)).finish v = b.atR ⟨(a.put o.dst v).tmps, (a.put o.dst v).defers ++ ds⟩ (.inRegion ol.toArray rest :: k) := by
          intro v; rw [Frame.finish_atR, ho, ← hput]; rfl
        split at h
        · rename_i v w' hr
          obtain ⟨a', w'', hq, hs⟩ := ih _ _ h
          refine ⟨a', w'', hq, .head (step_lone_go ?_) hs⟩
          rw [hg, ← hfin]; simp [stepG.apply, hr]
        · rename_i w' hr
          obtain ⟨a', w'', hq, hs⟩ := ih _ _ h
          refine ⟨a', w'', hq, .head (step_lone_go ?_) hs⟩
          rw [hg, ← hfin]; simp [stepG.apply, hr]
        · rename_i d w' hr
          obtain ⟨a', w'', hq, hs⟩ := ih _ _ h
          refine ⟨a', w'', hq, .head (step_lone_go ?_) hs⟩
          have : ({ b.atR ⟨a.tmps, a.defers ++ ds⟩ (.inRegion ol.toArray (i :: rest) :: k) with defers := d :: (a.defers ++ ds) } : Frame).finish undef =
              b.atR ⟨(Act.put { a with defers := d :: a.defers } o.dst undef).tmps, (Act.put { a with defers := d :: a.defers } o.dst undef).defers ++ ds⟩ (.inRegion ol.toArray rest :: k) := by
            have := Frame.finish_atR b ⟨a.tmps, d :: (a.defers ++ ds)⟩ ol.toArray i rest k undef
            rw [ho] at this
            refine Eq.trans this ?_
            cases hd : o.dst <;> simp [Act.put, hd]
          rw [hg]; simp only [stepG.apply, Sem.runT_eq, hr, GStep.bare_after]
          exact congrArg (fun fr => GStep.go { frame := fr, callers := cs, status := .running, dying := none } w') this
        · rename_i f args w' hr
          obtain ⟨e, w'', fr, hR, hsteps, _, hleave⟩ := h (b.atR ⟨a.tmps, a.defers ++ ds⟩ (.inRegion ol.toArray (i :: rest) :: k) :: cs)
          have henter : step P (lone (b.atR ⟨a.tmps, a.defers ++ ds⟩ (.inRegion ol.toArray (i :: rest) :: k)) cs w) =
              .next (lone (Frame.enter P f args .normal) (b.atR ⟨a.tmps, a.defers ++ ds⟩ (.inRegion ol.toArray (i :: rest) :: k) :: cs) w') :=
            step_lone_go (by rw [hg]; simp [stepG.apply, hr, Frame.atR])
          cases e with
          | returned v =>
            obtain ⟨a', w₃, hq, hs⟩ := ih _ _ hR
            refine ⟨a', w₃, hq, .head henter (hsteps.trans (.head ?_ hs))⟩
            rw [← hfin]; exact step_leave_returned hleave
          | panicked chain => exact hR.elim
          | outgrown =>
            obtain ⟨_, _, hq⟩ := hR
            exact hq.elim
        · rename_i row args w' hr
          obtain ⟨v, w'', hR, hsteps⟩ := h (b.atR ⟨a.tmps, a.defers ++ ds⟩ (.inRegion ol.toArray (i :: rest) :: k)) cs
          have henter : step P (lone (b.atR ⟨a.tmps, a.defers ++ ds⟩ (.inRegion ol.toArray (i :: rest) :: k)) cs w) =
              .next (lone (Frame.ofRow P row args .normal) (b.atR ⟨a.tmps, a.defers ++ ds⟩ (.inRegion ol.toArray (i :: rest) :: k) :: cs) w') :=
            step_lone_go (by rw [hg]; simp [stepG.apply, hr, Frame.atR])
          obtain ⟨a', w₃, hq, hs⟩ := ih _ _ hR
          refine ⟨a', w₃, hq, .head henter (hsteps.trans ?_)⟩
          rw [hfin]; exact hs
        · exact h.elim
        · exact h.elim
      · simp only [hw, if_false, Bool.false_eq_true] at h
        obtain ⟨a', w', hq, hs⟩ := ih _ _ h
        have h1 := stepR_op_skip (P := P) (b := b) (a := ⟨a.tmps, a.defers ++ ds⟩) (k := k) (cs := cs) (w := w) (ops := ol.toArray) (i := i) (rest := rest)
          (by simp [ho]; simpa using hw)
        rw [ho] at h1
        exact ⟨a', w', hq, .head h1 (by have := hput undef; simp only [Option.bind_some]; rw [this]; exact hs)⟩

section rules
variable {P : Program} {n : Nat} {c : Cx} {Q : Exit → Act → World → Prop} {l : KL} {hl : HL} {H : View}

def Out (n : Nat) (c : Cx) (S : KL → HL → View → Prop) (a : Act) (w : World) : Prop := ∃ ρ l hl H, a = fr n ρ ∧ Mt n ρ l ∧ Ok c w H hl ∧ S l hl H
theorem Q_out {S : KL → HL → View → Prop} (h : S l hl H) : KQ n c (onlyN (Out n c S)) .normal l hl H := fun ρ _ hm ho => ⟨ρ, l, hl, H, rfl, hm, ho, h⟩

/-- A region's walk, in whatever frame. -/
theorem KO.run {ol : List Oper} {S : KL → HL → View → Prop} (hnd : noDefer ol = true) (h : KO P n c ol.toArray (onlyN (Out n c S)) ol l hl H) {ρ : Env} {w : World} (hm : Mt n ρ l) (ho : Ok c w H hl)
    (id : Nat) (b : Frame) (ds : List Deferred) (k : List Item) (cs : List Frame) :
    ∃ ρ' l' hl' H' w', S l' hl' H' ∧ Mt n ρ' l' ∧ Ok c w' H' hl' ∧ Steps P (lone (b.atR ⟨(fr n ρ).tmps, ds⟩ (.code (.region id ol.toArray false) :: k)) cs w) (lone (b.atR ⟨(fr n ρ').tmps, ds⟩ k) cs w') := by
  have h1 := h ρ w hm ho
  have h2 : wpOps P ol.toArray (onlyN (Out n c S)) (List.range ol.toArray.size) (fr n ρ) w := by
    rw [List.range_eq_range', show ol.toArray.size = ol.length by simp, wpOps_eq_wpList ol 0 (by simp)]; exact h1
  obtain ⟨a', w', ⟨ρ', l', hl', H', rfl, hm', ho', hS⟩, hs⟩ := ops_steps hnd _ _ _ h2 b ds k cs
  exact ⟨ρ', l', hl', H', w', hS, hm', ho', .head stepR_region hs⟩

theorem Ok.put {w : World} {b : Nat} {o : Obj} (o' : Obj) (h : Ok c w H (blk b o :: hl)) : Ok c (w.putObj b o') H (blk b o' :: hl) := by
  have hb : w.heap[b]? = some o := h.own _ List.mem_cons_self
  have h' : Has w H [blk b o] := Has.left (p := [blk b o]) (r := hl) h.hasL
  refine Ok.call (p := [blk b o]) (r := hl) (q := [blk b o']) h ?_
  exact ok1 h' rfl rfl rfl (Nat.le_refl _) (by simp) (fun k _ hk => World.putObj_heap_other (by simpa [blk] using hk)) (World.putObj_heap_same (lt_of_heap hb)) (fun k hk => .inl hk) (by simp [blk])

/-- A call of yield: a round, from p to q. -/
def YOk (P : Program) (L : Nat) (x : Value) (p : HL) (Z : HL → Prop) : Prop := ∀ H w, Has w H p → ∃ f tmps asx bd, (Instr.yield L #[x]).run P w = .ok (.round L f tmps asx bd) w ∧
  ∀ c cs, ∃ w' H' q, Steps P (lone (Frame.round L f tmps asx bd .normal) (c :: cs) w) (lone (c.finish (.bool true)) cs w') ∧ Ok ⟨w, H, feet p⟩ w' H' q ∧ Z q
def Yields (P : Program) (L : Nat) (xs : List Value) (E : List Value → HL → Prop) : Prop := ∀ pre x p, E pre p → (pre ++ [x]) <+: xs → YOk P L x p (E (pre ++ [x]))

def busy (r : Loop) : Loop := { r with state := .busy }
/-- A round whose body is one region. -/
theorem yok {L pt ia ib ic : Nat} {r : Loop} {x : Value} {aol bol : List Oper} {ρ0 : Env} {l0 L1 : KL} {p : HL} {Z : HL → Prop}
    (hst : r.state = .ready) (hpe : r.pending = none) (hps : r.params = #[pt]) (hpn : Nat.blt pt n = true) (htm : r.tmps = (fr n ρ0).tmps) (hm0 : Mt n ρ0 l0)
    (has : r.assign = .region ia aol.toArray false) (hbd : r.body = .block ib (.region ic bol.toArray false)) (hna : noDefer aol = true) (hnb : noDefer bol = true)
    (hA : ∀ c H, KO P n c aol.toArray (onlyN (Out n c fun l1 hl1 H1 => hl1 = blk L (.loop r) :: p ∧ H1 = H ∧ subs L1 l1)) aol ((pt, x) :: l0) (blk L (.loop r) :: p) H)
    (hB : ∀ c H, KO P n c bol.toArray (onlyN (Out n c fun _ hl1 _ => ∃ q, hl1 = blk L (.loop (busy r)) :: q ∧ Z (blk L (.loop r) :: q))) bol L1 (blk L (.loop (busy r)) :: p) H) :
    YOk P L x (blk L (.loop r) :: p) Z := by
  intro H w hw
  have hL : w.heap[L]? = some (.loop r) := hw.own _ List.mem_cons_self
  refine ⟨_, _, _, _, run_yield hL (by simp [hps]), ?_⟩
  intro c cs
  let b : Frame := { (default : Frame) with fn := r.fn, kind := .normal, roundOf := some L }
  have htm' : ((r.params.zip #[x]).foldl (fun tmps (t, a) => tmps.setIfInBounds t a) r.tmps) = (fr n (upd ρ0 pt x)).tmps := by
    rw [hps, htm, ← fr_put]; simp [Act.put]
  rw [htm', has, hbd]
  have hstart : Frame.round L r.fn (fr n (upd ρ0 pt x)).tmps (.region ia aol.toArray false) (.block ib (.region ic bol.toArray false)) .normal =
      b.atR ⟨(fr n (upd ρ0 pt x)).tmps, []⟩ [.code (.region ia aol.toArray false), .beginRound, .code (.block ib (.region ic bol.toArray false))] := rfl
  rw [hstart]
  obtain ⟨ρ1, l1, hl1, H1, w1, ⟨rfl, rfl, hs1⟩, hm1, ho1, st1⟩ := (hA ⟨w, H, feet (blk L (.loop r) :: p)⟩ H).run hna (hm0.put hpn x) hw.ok ia b [] [.beginRound, .code (.block ib (.region ic bol.toArray false))] (c :: cs)
  have hL1 : w1.heap[L]? = some (.loop r) := ho1.own _ List.mem_cons_self
  have st2 := stepR_beginRound (P := P) (b := b) (a := ⟨(fr n ρ1).tmps, []⟩) (k := [.code (.block ib (.region ic bol.toArray false))]) (cs := c :: cs) rfl (run_beginRound hL1 hst)
  have ho2 := ho1.put (.loop (busy r))
  obtain ⟨ρ3, l3, hl3, H3, w3, ⟨q, rfl, hZ⟩, hm3, ho3, st3⟩ := (hB ⟨w, H1, feet (blk L (.loop r) :: p)⟩ H1).run hnb (hm1.sub hs1) ho2 ic b [] [.inBlock ib] (c :: cs)
  have hL3 : w3.heap[L]? = some (.loop (busy r)) := ho3.own _ List.mem_cons_self
  have ho4 := ho3.put (.loop r)
  have st4 := stepR_round_end (P := P) (b := b) (a := ⟨(fr n ρ3).tmps, []⟩) (c := c) (cs := cs) rfl rfl (run_endRound none hL3)
  have hrr : ({ (busy r) with state := .ready, pending := none } : Loop) = r := by
    cases r; simp only at hst hpe; subst hst; subst hpe; rfl
  simp only [Option.isNone_none, if_true] at st4
  rw [show ({ state := .ready, pending := none, fn := (busy r).fn, tmps := (busy r).tmps, params := (busy r).params, assign := (busy r).assign, body := (busy r).body, defers := (busy r).defers } : Loop) = r from hrr] at st4
  exact ⟨_, H3, _, st1.trans (.head st2 (.head stepR_block (st3.trans (.head stepR_inBlock (.one st4))))), ho4, hZ⟩

/-! ### The iterator's side: a region that calls yield -/
def wpX (P : Program) (ops : Array Oper) (Q : Exit → Act → World → Prop) (rest : List Oper) (a : Act) (w : World) : Prop :=
  ∀ (is : List Nat), is.map (fun i => ops[i]?) = rest.map some → ∀ (b : Frame) (k : List Item) (cs : List Frame), ∃ e a' w', Q e a' w' ∧ Arrives P (lone (b.at a (.inRegion ops is :: k)) cs w) b k cs e a' w'
def KX (P : Program) (n : Nat) (c : Cx) (ops : Array Oper) (Q : Exit → Act → World → Prop) (rest : List Oper) (l : KL) (hl : HL) (H : View) : Prop :=
  ∀ ρ w, Mt n ρ l → Ok c w H hl → wpX P ops Q rest (fr n ρ) w
theorem K_regionX {id : Nat} {ops : List Oper} (h : KX P n c ops.toArray Q ops l hl H) : KC P n c (.region id ops.toArray false) Q l hl H := by
  intro ρ w hm ho b k cs
  obtain ⟨e, a', w', hq, harr⟩ := h ρ w hm ho (List.range ops.toArray.size) (by
    apply List.ext_getElem?
    intro i
    by_cases hi : i < ops.length
    · simp [hi]
    · simp [hi]) b k cs
  exact ⟨e, a', w', hq, .of_steps (.one step_region) harr⟩
theorem X_nil {ops : Array Oper} (h : KQ n c Q .normal l hl H) : KX P n c ops Q [] l hl H := by
  intro ρ w hm ho is his b k cs
  have : is = [] := by simpa using his
  subst this
  exact ⟨.normal, _, w, h ρ w hm ho, .one step_region_end⟩
variable {ops : Array Oper} {rest : List Oper} {d : Nat} {v : Value} {op : Op} {ty : TypeId} {pos : String} {aft : Array Edge}
theorem X_perm (hl' : HL) (hp : hl.Perm hl') (h : KX P n c ops Q rest l hl' H) : KX P n c ops Q rest l hl H := fun ρ w hm ho => h ρ w hm (ho.perm hp)
theorem X_val (hv : ValOk P l H hl op ty v) (hdn : Nat.blt d n = true) (h : KX P n c ops Q rest ((d, v) :: l) hl H) :
    KX P n c ops Q (⟨some d, op, ty, pos, aft, none⟩ :: rest) l hl H := by
  intro ρ w hm ho is his b k cs
  cases is with
  | nil => simp at his
  | cons i is =>
    simp only [List.map_cons, List.cons.injEq] at his
    obtain ⟨hi, his⟩ := his
    obtain ⟨e, a', w', hq, harr⟩ := h _ w (hm.put hdn v) ho is his b k cs
    refine ⟨e, a', w', hq, .of_steps (.one (step_lone_go ?_)) harr⟩
    rw [stepG_op hi (by simp [Region.wanted])]
    have hr : (execOp (fr n ρ).eval ⟨some d, op, ty, pos, aft, none⟩).run P w = .ok (.value v) w := hv _ w hm.knows ho.hasL
    have hf : (b.at (fr n ρ) (.inRegion ops (i :: is) :: k)).finish v = b.at (fr n (upd ρ d v)) (.inRegion ops is :: k) := by
      rw [Frame.finish_at, hi]; simp [fr_put]
    simp [stepG.apply, hr, hf]
theorem X_yield {g x : Operand} {ats : Array TypeId} {L : Nat} {p r : HL} {Z : HL → Prop} (hg : ev l g = some (.func (.yield L) #[] #[])) (hx : ev l x = some v) (hp : hl.Perm (p ++ r)) (hY : YOk P L v p Z) (hdn : Nat.blt d n = true)
    (h : ∀ H' q, VLe H H' → Z q → KX P n c ops Q rest ((d, .bool true) :: l) (q ++ r) H') :
    KX P n c ops Q (⟨some d, .call ⟨.value g, #[x], ats⟩, ty, pos, aft, none⟩ :: rest) l hl H := by
  intro ρ w hm ho is his b k cs
  cases is with
  | nil => simp at his
  | cons i is =>
    simp only [List.map_cons, List.cons.injEq] at his
    obtain ⟨hi, his⟩ := his
    have ho' := ho.perm hp
    obtain ⟨f, tmps, asx, bd, hy, hround⟩ := hY H w ho'.hasL.left
    obtain ⟨w1, H1, q, st, hok, hZ⟩ := hround (b.at (fr n ρ) (.inRegion ops (i :: is) :: k)) cs
    obtain ⟨e, a', w', hq, harr⟩ := h H1 q hok.le hZ _ w1 (hm.put hdn _) (ho'.call hok) is his b k cs
    have hf : (b.at (fr n ρ) (.inRegion ops (i :: is) :: k)).finish (.bool true) = b.at (fr n (upd ρ d (.bool true))) (.inRegion ops is :: k) := by
      rw [Frame.finish_at, hi]; simp [fr_put]
    rw [hf] at st
    refine ⟨e, a', w', hq, .of_steps (.head (step_lone_go ?_) st) harr⟩
    rw [stepG_op hi (by simp [Region.wanted])]
    have hr : (execOp (fr n ρ).eval ⟨some d, .call ⟨.value g, #[x], ats⟩, ty, pos, aft, none⟩).run P w = .ok (.round L f tmps asx bd) w := by
      simp [execOp, resolve, hm.ev hg, hm.ev hx, Deferred.ofValue, invoke, hy, callFunc]
    simp [stepG.apply, hr, Frame.at]

/-! ### The loop's side -/
def bodyPostM (P : Program) (fn : Func) (R : Ending → World → Prop) : Exit → Act → World → Prop
  | .ret, a, w => ∃ D w', a.defers = [⟨.collected D, #[]⟩] ∧ (Instr.takeDeferred D).run P w = .ok [] w' ∧ ∃ v, (results fn a.tmps).run P w' = .ok v w' ∧ R (.returned v) w'
  | _, _, _ => False
theorem calls_marks {f : FuncId} {fn : Func} {cd : Code} {args : Array Value} {w : World} {R : Ending → World → Prop} (hf : P.funcs[f]? = some fn) (hb : fn.body = some cd)
    (h : cd.wp P (bodyPostM P fn R) { tmps := args ++ Array.replicate (fn.ntmps - args.size) undef, defers := [] } w) : Calls P f args w R := by
  intro cs
  let b : Frame := { (default : Frame) with fn := f, kind := .normal }
  have henter : Frame.enter P f args .normal = b.at { tmps := args ++ Array.replicate (fn.ntmps - args.size) undef, defers := [] } [.code cd] := by
    simp [Frame.enter, Frame.at, hf, hb, b]
  obtain ⟨e, a', w', hq, harr⟩ := h b [] cs
  rw [← henter] at harr
  cases e with
  | ret =>
    obtain ⟨D, w'', hd, htk, v, hr, hR⟩ := hq
    obtain ⟨todo, hs⟩ := harr
    have h1 := step_collected (P := P) (fr := { b.at a' todo with mode := .returning }) (cs := cs) (w := w') (w' := w'') (calls := []) (by simp) hd rfl htk
    exact ⟨.returned v, w'', _, hR, Steps.trans hs (.one h1), rfl, rfl, rfl, rfl, fn, hf, hr⟩
  | _ => exact hq.elim
theorem enterM {f : FuncId} {fn : Func} {body : Code} {n : Nat} {args : List Value} {post : Value → View → HL → Prop}
    (hf : P.funcs[f]? = some fn) (hb : fn.body = some body) (hnt : fn.ntmps = n) (hn : Nat.ble args.length n = true)
    (h : ∀ w0, KC P n ⟨w0, H, feet hl⟩ body (bodyPostM P fn (RS ⟨w0, H, feet hl⟩ post)) (args0 0 args) hl H) :
    SatO P f args.toArray H hl post := by
  subst hnt
  intro w hw
  have hn' := Nat.ble_eq.mp hn
  refine calls_marks hf hb ?_
  have key : ({ tmps := args.toArray ++ Array.replicate (fn.ntmps - args.toArray.size) undef, defers := [] } : Act) = fr fn.ntmps fun t => args.getD t undef := by
    simp only [fr, Act.mk.injEq, and_true]
    apply Array.ext
    · simp; omega
    · intro i h1 h2
      simp at h1 h2
      rw [Array.getElem_append]
      by_cases hi : i < args.length
      · simp [hi]
      · simp [hi]
  rw [key]
  refine h w _ w ?_ hw.ok
  intro t v hv
  obtain ⟨_, h2⟩ := look_args0 args 0 t v hv
  simp at h2
  have : t < args.length := (List.getElem?_eq_some_iff.1 h2).1
  exact ⟨by omega, by simp [h2]⟩

def rec0 (fn : FuncId) (tmps : Array Value) (ps : Array Tmp) (assign body : Code) (D : Nat) : Loop :=
  { state := .ready, pending := none, fn, tmps, params := ps, assign, body, defers := D }
/-- The loop: what the rounds turn is E; what else is owned stands behind. -/
theorem K_rangeFunc {id gf : Nat} {g : Operand} {ps : Array Tmp} {assign body C : Code} {first cap : List Value} {p r : HL} {R : View → HL → Prop}
    (hcal : callable P gf = true) (hg : ev l g = some (.func (.func gf) first.toArray cap.toArray)) (hp : hl.Perm (p ++ r))
    (hiter : ∀ fn D L ρ, Mt n ρ l → SatO P gf (first ++ [Value.func (.yield L) #[] #[]] ++ cap).toArray H (blk L (.loop (rec0 fn (fr n ρ).tmps ps assign body D)) :: p)
      (fun _ H' q => ∃ q', q = blk L (.loop (rec0 fn (fr n ρ).tmps ps assign body D)) :: q' ∧ R H' q'))
    (hrest : ∀ D H' q', VLe H H' → R H' q' → ∀ ρ w, Mt n ρ l → Ok c w H' (blk D (.deferred (some [])) :: (q' ++ r)) → C.wp P Q ⟨(fr n ρ).tmps, [⟨.collected D, #[]⟩]⟩ w) :
    KC P n c (.block id (.rangeFunc g ps assign body)) (Exit.then (C.wp P Q) Q) l hl H := by
  intro ρ w hm ho b k cs
  let w1 := w.alloc (.deferred (some []))
  let L := w.heap.size + 1
  let rc := rec0 b.fn (fr n ρ).tmps ps assign body w.heap.size
  let w2 := w1.alloc (.loop rc)
  have h1 : Ok c w1 H (blk w.heap.size (.deferred (some [])) :: hl) := ho.alloc _
  have h2 : Ok c w2 H (blk L (.loop rc) :: blk w.heap.size (.deferred (some [])) :: hl) := by
    have := h1.alloc (.loop rc)
    rwa [show w1.heap.size = L from World.size_alloc w _] at this
  have h3 : Ok c w2 H ((blk L (.loop rc) :: p) ++ (blk w.heap.size (.deferred (some [])) :: r)) := by
    refine h2.perm ?_
    refine List.Perm.cons _ ?_
    exact ((hp.cons _).trans List.perm_middle.symm)
  have hS := hiter b.fn w.heap.size L ρ hm w2 h3.hasL.left
  obtain ⟨e, w3, frx, ⟨v, H3, q, rfl, ok3, q', rfl, hR⟩, hcomes, _, hleave⟩ := hS (b.at ⟨(fr n ρ).tmps, [⟨.collected w.heap.size, #[]⟩]⟩ (.inRangeFunc L :: .inBlock id :: k) :: cs)
  have h4 := h3.call ok3
  have h5 : Ok c (w3.putObj L (.loop { rc with state := .exhausted })) H3 (blk w.heap.size (.deferred (some [])) :: (q' ++ r)) := by
    have hpm : (q' ++ blk w.heap.size (.deferred (some [])) :: r).Perm (blk w.heap.size (.deferred (some [])) :: (q' ++ r)) := List.perm_middle
    have h6 : Ok c (w3.putObj L (.loop { rc with state := .exhausted })) H3 (blk L (.loop { rc with state := .exhausted }) :: (q' ++ blk w.heap.size (.deferred (some [])) :: r)) := h4.put _
    exact Ok.right (a := [blk L (.loop { rc with state := .exhausted })]) (h6.perm (hpm.cons _))
  have hL3 : w3.heap[L]? = some (.loop rc) := h4.own (blk L (.loop rc)) List.mem_cons_self
  let b0 : Frame := { b with roundOf := none }
  have hb0 : ∀ a todo, b.at a todo = b0.atR a todo := fun _ _ => rfl
  have hres : (resolve (fr n ρ).eval (rangeCall g L) 0).run P w2 = .ok ⟨.fn (.func gf) cap.toArray, (first ++ [Value.func (.yield L) #[] #[]]).toArray⟩ w2 := by
    have hc : (fr n ρ).eval (.const (.func (.yield L) #[] #[])) = .func (.yield L) #[] #[] := rfl
    simp [resolve, rangeCall, hm.ev hg, Deferred.ofValue, hc]
  have st1 : step P (lone (b.at (fr n ρ) (.code (.rangeFunc g ps assign body) :: .inBlock id :: k)) cs w) =
      .next (lone (Frame.enter P gf (first ++ [Value.func (.yield L) #[] #[]] ++ cap).toArray .normal) (b.at ⟨(fr n ρ).tmps, [⟨.collected w.heap.size, #[]⟩]⟩ (.inRangeFunc L :: .inBlock id :: k) :: cs) w2) := by
    have := stepR_rangeFunc (P := P) (b := b0) (a := fr n ρ) (k := .inBlock id :: k) (cs := cs) (w := w) (g := g) (ps := ps) (assign := assign) (body := body) (l := L) (mark := [⟨.collected w.heap.size, #[]⟩])
      (d := ⟨.fn (.func gf) cap.toArray, (first ++ [Value.func (.yield L) #[] #[]]).toArray⟩) (f := gf) (args := (first ++ [Value.func (.yield L) #[] #[]] ++ cap).toArray) (w₁ := w2) (w₁' := w2) (w₂ := w2)
      (run_enterLoop_outer _ _ _ _ _) hres (by simp only [invoke]; rw [callable.run hcal]; simp)
    exact this
  have st2 := step_leave_returned (P := P) (c := b.at ⟨(fr n ρ).tmps, [⟨.collected w.heap.size, #[]⟩]⟩ (.inRangeFunc L :: .inBlock id :: k)) (cs := cs) hleave
  rw [hb0, finish_atR_inRangeFunc] at st2
  have st3 := stepR_endRangeFunc (P := P) (b := b0) (a := ⟨(fr n ρ).tmps, [⟨.collected w.heap.size, #[]⟩]⟩) (k := .inBlock id :: k) (cs := cs) (run_endLoop hL3 (by simp [rc, rec0]))
  refine ⟨.normal, ⟨(fr n ρ).tmps, [⟨.collected w.heap.size, #[]⟩]⟩, _, hrest w.heap.size H3 q' ok3.le hR ρ _ hm h5, ?_⟩
  exact .head step_block (.head st1 (hcomes.trans (.head st2 (.head st3 (.one stepR_inBlock)))))
theorem resOk.results {fn : Func} {rs : List ResultVar} {vs : List Value} {ρ : Env} {w : World} (hfn : fn.results = rs.toArray) (hm : Mt n ρ l) (ho : Has w H hl) (h : resOk P l hl rs vs) :
    (results fn (fr n ρ).tmps).run P w = .ok (tupV vs) w := by
  have h1 := resOk.run hm ho h
  have h2 : (fn.results.mapM (rv (fr n ρ).tmps)).run P w = .ok vs.toArray w := by
    rw [hfn, Array.mapM_eq_mapM_toList, Sem.run_map, h1]
    rfl
  have h3 : Go.results fn (fr n ρ).tmps = (do
      let vs ← fn.results.mapM (rv (fr n ρ).tmps)
      pure (if h : vs.size = 1 then vs[0] else .tuple vs)) := by
    unfold Go.results
    congr 1
  rw [h3, Sem.run_bind, h2]
  simp only [Result.andThen_ok, Sem.run_pure]
  congr 1
  match vs with
  | [] => rfl
  | [v] => rfl
  | _ :: _ :: _ => rfl
/-- The function's end, behind the loop. -/
theorem wp_endM {ol : List Oper} {id D : Nat} {S : KL → HL → View → Prop} {fn : Func} {rs : List ResultVar} {vs : List Value} {post : Value → View → HL → Prop} {w : World} {ρ : Env} (hnd : noDefer ol = true) (hm : Mt n ρ l) (ho : Ok c w H (blk D (.deferred (some [])) :: hl))
    (h : KO P n c ol.toArray (onlyN (Out n c S)) ol l (blk D (.deferred (some [])) :: hl) H)
    (hS : ∀ l' hl' H', S l' hl' H' → ∃ hl2 vs, hl' = blk D (.deferred (some [])) :: hl2 ∧ fn.results = rs.toArray ∧ resOk P l' hl2 rs vs ∧ ∀ w', Ok c w' H' hl2 → ∃ H2 hl3, Ok c w' H2 hl3 ∧ post (tupV vs) H2 hl3) :
    (Code.seq (.region id ol.toArray false) .ret).wp P (bodyPostM P fn (RS c post)) ⟨(fr n ρ).tmps, [⟨.collected D, #[]⟩]⟩ w := by
  intro b k cs
  obtain ⟨ρ', l', hl', H', w', hs, hm', ho', st⟩ := h.run hnd hm ho id { b with roundOf := none } [⟨.collected D, #[]⟩] (.code .ret :: k) cs
  obtain ⟨hl2, vs, rfl, hfn, hres, hfin⟩ := hS _ _ _ hs
  have hD : w'.heap[D]? = some (.deferred (some [])) := ho'.own (blk D (.deferred (some []))) List.mem_cons_self
  have ho2 : Ok c (w'.putObj D (.deferred none)) H' hl2 := Ok.right (a := [_]) (ho'.put (.deferred none))
  obtain ⟨H2, hl3, ho3, hp⟩ := hfin _ ho2
  refine ⟨.ret, ⟨(fr n ρ').tmps, [⟨.collected D, #[]⟩]⟩, w', ⟨D, _, rfl, run_takeDeferred hD, tupV vs, ?_, tupV vs, H2, hl3, rfl, ho3, hp⟩, _, Steps.trans (.one step_seq) (Steps.trans st (.one step_ret))⟩
  exact resOk.results hfn hm' ho2.hasL hres
end rules
end Pal

/-
  Sets of small numbers asx one number, its words, and the plain laws of bits. Own work. No statement of the seat is proved here.
-/
namespace Pal
open Go

/-- Word i of the set s. -/
def wd (s i : Nat) : Nat := (s >>> (64 * i)) % 18446744073709551616
def wv (s i : Nat) : Value := .int .u64 (wd s i : Int)
def setL (s : Nat) : List Value := [wv s 0, wv s 1, wv s 2, wv s 3, wv s 4, wv s 5, wv s 6, wv s 7, wv s 8, wv s 9, wv s 10, wv s 11, wv s 12, wv s 13, wv s 14, wv s 15]
def setV (s : Nat) : Value := .agg (setL s).toArray
theorem setL_get (s : Nat) : ∀ i, i < 16 → (setL s)[i]? = some (wv s i)
  | 0, _ | 1, _ | 2, _ | 3, _ | 4, _ | 5, _ | 6, _ | 7, _ | 8, _ | 9, _ | 10, _ | 11, _ | 12, _ | 13, _ | 14, _ | 15, _ => rfl
  | i + 16, h => by omega
theorem setL_len (s : Nat) : (setL s).length = 16 := rfl
theorem wd_lt (s i : Nat) : wd s i < 18446744073709551616 := Nat.mod_lt _ (by decide)
theorem wd_testBit (s i j : Nat) : (wd s i).testBit j = (decide (j < 64) && s.testBit (64 * i + j)) := by
  unfold wd
  rw [show (18446744073709551616 : Nat) = 2 ^ 64 by decide, Nat.testBit_mod_two_pow, Nat.testBit_shiftRight]
theorem testBit_wd (s n : Nat) : s.testBit n = (wd s (n / 64)).testBit (n % 64) := by
  rw [wd_testBit, Nat.div_add_mod]
  simp [Nat.mod_lt n (by decide : 0 < 64)]
/-- A word put into its place. -/
theorem setL_put {s t k x : Nat} (hk : k < 16) (h : ∀ i, i < 16 → wd t i = if i = k then x else wd s i) : putL (setL s) k [.int .u64 (x : Int)] = setL t := by
  have hl : (putL (setL s) k [.int .u64 (x : Int)]).length = 16 := by rw [putL_length (by simp [setL_len]; omega)]; rfl
  apply List.ext_getElem?
  intro i
  by_cases hi : i < 16
  · rw [setL_get t i hi]
    unfold putL
    unfold wv
    rw [h i hi]
    by_cases e : i = k
    · subst e
      rw [List.getElem?_append_left (by simp [setL_len]; omega), List.getElem?_append_right (by rw [List.length_take]; exact Nat.min_le_left _ _)]
      simp [setL_len, Nat.min_eq_left (Nat.le_of_lt hi)]
    · rw [if_neg e]
      rcases Nat.lt_or_ge i k with h1 | h1
      · rw [List.append_assoc, List.getElem?_append_left (by simp [setL_len]; omega), List.getElem?_take_of_lt h1, setL_get s i hi]; rfl
      · have h2 : k < i := by omega
        rw [List.getElem?_append_right (by simp [setL_len]; omega), List.getElem?_drop]
        simp only [List.length_append, List.length_take, setL_len, List.length_cons, List.length_nil]
        rw [show k + (0 + 1) + (i - (min k 16 + (0 + 1))) = i by omega, setL_get s i hi]; rfl
  · rw [List.getElem?_eq_none (by omega), List.getElem?_eq_none (by rw [setL_len]; omega)]
theorem two64 : (18446744073709551616 : Nat) = 2 ^ 64 := by decide
theorem wd_or (s n i : Nat) : wd (s ||| 2 ^ n) i = if i = n / 64 then wd s i ||| 2 ^ (n % 64) else wd s i := by
  apply Nat.eq_of_testBit_eq
  intro j
  rw [wd_testBit, Nat.testBit_or, Nat.testBit_two_pow]
  by_cases hj : j < 64
  · by_cases hi : i = n / 64
    · rw [if_pos hi, Nat.testBit_or, wd_testBit, Nat.testBit_two_pow]
      have : (n = 64 * i + j) ↔ (n % 64 = j) := by omega
      simp [hj, this]
    · rw [if_neg hi, wd_testBit]
      have : ¬ (n = 64 * i + j) := by omega
      simp [hj, this]
  · by_cases hi : i = n / 64
    · rw [if_pos hi, Nat.testBit_or, wd_testBit, Nat.testBit_two_pow]
      have : ¬ (n % 64 = j) := by omega
      simp [hj, this]
    · rw [if_neg hi, wd_testBit]
      simp [hj]
/-- The set without n. -/
def clr (s n : Nat) : Nat := s ^^^ (s &&& 2 ^ n)
theorem clr_testBit (s n j : Nat) : (clr s n).testBit j = (s.testBit j && !decide (n = j)) := by
  unfold clr
  rw [Nat.testBit_xor, Nat.testBit_and, Nat.testBit_two_pow]
  cases s.testBit j <;> simp
theorem wd_clr (s n i : Nat) : wd (clr s n) i = if i = n / 64 then wd s i &&& (18446744073709551615 - 2 ^ (n % 64)) else wd s i := by
  apply Nat.eq_of_testBit_eq
  intro j
  have hn : n % 64 < 64 := Nat.mod_lt _ (by decide)
  rw [wd_testBit, clr_testBit]
  by_cases hi : i = n / 64
  · rw [if_pos hi, Nat.testBit_and, wd_testBit]
    have : (18446744073709551615 - 2 ^ (n % 64)) = 2 ^ 64 - (2 ^ (n % 64) + 1) := by rw [show (18446744073709551615 : Nat) = 2 ^ 64 - 1 by decide]; omega
    rw [this, Nat.testBit_two_pow_sub_succ (Nat.pow_lt_pow_right (by decide) hn), Nat.testBit_two_pow]
    by_cases hj : j < 64
    · have : (n = 64 * i + j) ↔ (n % 64 = j) := by omega
      simp [hj, this]
    · simp [hj]
  · rw [if_neg hi, wd_testBit]
    by_cases hj : j < 64
    · have : ¬ (n = 64 * i + j) := by omega
      simp [hj, this]
    · simp [hj]
def kBits : Nat := 1024
theorem kBits_eq : kBits = 1024 := rfl
attribute [irreducible] kBits
def big : Nat := 2 ^ kBits
theorem big_eq : big = 2 ^ kBits := rfl
attribute [irreducible] big
theorem testBit_big {s : Nat} (h : s < big) {j : Nat} (hj : 1024 ≤ j) : s.testBit j = false :=
  Nat.testBit_lt_two_pow (Nat.lt_of_lt_of_le (big_eq ▸ h) (Nat.pow_le_pow_right (by decide) (kBits_eq ▸ hj)))
theorem set_ext {s t : Nat} (hs : s < big) (ht : t < big) (h : ∀ i, i < 16 → wd s i = wd t i) : s = t := by
  apply Nat.eq_of_testBit_eq
  intro j
  by_cases hj : j < 1024
  · rw [testBit_wd s, testBit_wd t, h _ (by omega)]
  · rw [testBit_big hs (by omega), testBit_big ht (by omega)]
theorem setV_inj {s t : Nat} (hs : s < big) (ht : t < big) (h : setV s = setV t) : s = t := by
  refine set_ext hs ht fun i hi => ?_
  have h1 : setL s = setL t := by simpa [setV] using h
  have h2 := setL_get s i hi
  rw [h1, setL_get t i hi] at h2
  simp only [wv, Option.some.injEq, Value.int.injEq, true_and] at h2
  omega
theorem or_big {s n : Nat} (hs : s < big) (hn : n < 1024) : s ||| 2 ^ n < big := by
  rw [big_eq] at hs ⊢
  exact Nat.or_lt_two_pow hs (Nat.pow_lt_pow_right (by decide) (kBits_eq ▸ hn))
theorem and_big {s : Nat} (t : Nat) (hs : s < big) : s &&& t < big := Nat.lt_of_le_of_lt Nat.and_le_left hs
theorem clr_big {s : Nat} (n : Nat) (hs : s < big) : clr s n < big := by
  have h := and_big (2 ^ n) hs
  rw [big_eq] at hs h ⊢
  exact Nat.xor_lt_two_pow hs h
theorem has_word (s n : Nat) : (wd s (n / 64) &&& 2 ^ (n % 64) ≠ 0) ↔ s.testBit n = true := by
  rw [testBit_wd]
  have hb : (wd s (n / 64)).testBit (n % 64) = decide (wd s (n / 64) &&& 2 ^ (n % 64) ≠ 0) := by
    by_cases h : (wd s (n / 64)).testBit (n % 64) = true
    · rw [h]
      have : (wd s (n / 64) &&& 2 ^ (n % 64)).testBit (n % 64) = true := by rw [Nat.testBit_and, h, Nat.testBit_two_pow_self]; rfl
      symm
      rw [decide_eq_true_iff]
      intro e
      rw [e] at this
      simp at this
    · have h' : (wd s (n / 64)).testBit (n % 64) = false := by simpa using h
      rw [h']
      symm
      rw [decide_eq_false_iff_not, Decidable.not_not]
      apply Nat.eq_of_testBit_eq
      intro j
      rw [Nat.testBit_and, Nat.testBit_two_pow, Nat.zero_testBit]
      by_cases e : n % 64 = j
      · subst e; rw [h']; rfl
      · simp [e]
  rw [hb, decide_eq_true_iff]
def els (s : Nat) : List Int := ((List.range 1024).filter fun i => s.testBit i).map fun (i : Nat) => (i : Int)

/-! ### The lowest bit -/
def low (x : Nat) : Nat → Nat → Nat
  | 0, k => k
  | f + 1, k => if x.testBit k then k else low x f (k + 1)
theorem low_spec (x : Nat) : ∀ f k, (∃ j, k ≤ j ∧ j < k + f ∧ x.testBit j = true) → x.testBit (low x f k) = true ∧ k ≤ low x f k ∧ low x f k < k + f ∧ ∀ j, k ≤ j → j < low x f k → x.testBit j = false
  | 0, k, ⟨j, h1, h2, _⟩ => by omega
  | f + 1, k, ⟨j, h1, h2, h3⟩ => by
    unfold low
    split
    · rename_i h; exact ⟨h, by omega, by omega, fun j h1 h2 => by omega⟩
    · rename_i h
      have hne : j ≠ k := fun e => h (e ▸ h3)
      obtain ⟨g1, g2, g3, g4⟩ := low_spec x f (k + 1) ⟨j, by omega, by omega, h3⟩
      refine ⟨g1, by omega, by omega, fun j h1 h2 => ?_⟩
      by_cases e : j = k
      · subst e; simpa using h
      · exact g4 j (by omega) h2
theorem exists_bit {x m : Nat} (h : x ≠ 0) (hl : x < 2 ^ m) : ∃ j, j < m ∧ x.testBit j = true := by
  obtain ⟨j, hj⟩ := Nat.exists_testBit_of_ne_zero h
  refine ⟨j, ?_, hj⟩
  rcases Nat.lt_or_ge j m with h1 | h1
  · exact h1
  · rw [Nat.testBit_lt_two_pow (Nat.lt_of_lt_of_le hl (Nat.pow_le_pow_right (by decide) h1))] at hj; cases hj
theorem low_mod {x k : Nat} (h : ∀ j, j < k → x.testBit j = false) : x % 2 ^ k = 0 := by
  apply Nat.eq_of_testBit_eq
  intro j
  rw [Nat.testBit_mod_two_pow, Nat.zero_testBit]
  by_cases hj : j < k
  · simp [h j hj]
  · simp [hj]
theorem low_shape {x k : Nat} (h0 : x.testBit k = true) (h : ∀ j, j < k → x.testBit j = false) : ∃ q, x = 2 ^ k * (2 * q + 1) := by
  have h1 := low_mod h
  have h2 : x / 2 ^ k % 2 = 1 := by
    have := Nat.testBit_eq_decide_div_mod_eq (x := x) (i := k)
    rw [h0] at this
    simpa using this.symm
  refine ⟨x / 2 ^ k / 2, ?_⟩
  have h3 := Nat.div_add_mod x (2 ^ k)
  have h4 := Nat.div_add_mod (x / 2 ^ k) 2
  rw [h2] at h4
  rw [h1, Nat.add_zero] at h3
  rw [h4, h3]
theorem lowbit {x k : Nat} (hx : x < 18446744073709551616) (h0 : x.testBit k = true) (h : ∀ j, j < k → x.testBit j = false) : x &&& (18446744073709551616 - x) = 2 ^ k := by
  have hx0 : 0 < x := by
    rcases Nat.eq_zero_or_pos x with e | e
    · subst e; simp at h0
    · exact e
  have hk : k < 64 := by
    rcases Nat.lt_or_ge k 64 with h1 | h1
    · exact h1
    · rw [Nat.testBit_lt_two_pow (Nat.lt_of_lt_of_le hx (by rw [two64]; exact Nat.pow_le_pow_right (by decide) h1))] at h0; cases h0
  apply Nat.eq_of_testBit_eq
  intro j
  rw [Nat.testBit_and, Nat.testBit_two_pow]
  have hsub : 18446744073709551616 - x = 2 ^ 64 - ((x - 1) + 1) := by rw [two64]; omega
  rw [hsub, Nat.testBit_two_pow_sub_succ (by rw [← two64]; omega)]
  obtain ⟨q, hq⟩ := low_shape h0 h
  have hx1 : x - 1 = 2 ^ k * (2 * q) + (2 ^ k - 1) := by
    have := Nat.two_pow_pos k
    rw [hq, Nat.mul_add]; omega
  have hb1 : (x - 1).testBit j = if j < k then true else if j = k then false else x.testBit j := by
    rw [hx1, Nat.testBit_two_pow_mul_add _ (by have := Nat.two_pow_pos k; omega)]
    by_cases h1 : j < k
    · simp [h1, Nat.testBit_two_pow_sub_one]
    · by_cases h2 : j = k
      · subst h2; simp [Nat.testBit_zero]
      · simp only [h1, if_false, h2]
        rw [hq, Nat.mul_comm (2 ^ k) (2 * q + 1), Nat.testBit_mul_two_pow]
        obtain ⟨m, hm⟩ : ∃ m, j - k = m + 1 := ⟨j - k - 1, by omega⟩
        rw [hm, Nat.testBit_succ, Nat.testBit_succ]
        have e1 : 2 * q / 2 = q := by omega
        have e2 : (2 * q + 1) / 2 = q := by omega
        rw [e1, e2]
        simp; intro; omega
  rw [hb1]
  by_cases h1 : j < k
  · have : ¬ k = j := by omega
    simp [h1, h j h1, this]
  · by_cases h2 : j = k
    · subst h2; simp [h0, hk]
    · have : ¬ k = j := by omega
      simp only [h1, if_false, h2, this, decide_false]
      cases x.testBit j <;> simp
def bruijn : List Nat := [0, 1, 56, 2, 57, 49, 28, 3, 61, 58, 42, 50, 38, 29, 17, 4, 62, 47, 59, 36, 45, 43, 51, 22, 53, 39, 33, 30, 24, 18, 12, 5, 63, 55, 48, 27, 60, 41, 37, 16, 46, 35, 44, 21, 52, 32, 23, 11, 54, 26, 40, 15, 34, 20, 31, 10, 25, 14, 19, 9, 13, 8, 7, 6]
theorem bruijn_ok : ∀ k, k < 64 → bruijn[(2 ^ k * 285870213051353865 % 18446744073709551616) / 288230376151711744]? = some k := by decide +kernel
theorem bruijn_lt (k : Nat) : (2 ^ k * 285870213051353865 % 18446744073709551616) / 288230376151711744 < 64 := by
  have := Nat.mod_lt (2 ^ k * 285870213051353865) (show 0 < 18446744073709551616 by decide)
  omega
end Pal

/-
  More operations: words, arrays, maps, slices of slices, function values. Own work. No statement of the seat is proved here.
-/
namespace Pal
open Go

section rules
variable {P : Program} {n : Nat} {c : Cx} {Q : Exit → Act → World → Prop} {l : KL} {hl : HL} {H : View}
variable {ops : Array Oper} {rest : List Oper} {d : Nat} {v : Value} {op : Op} {ty : TypeId} {pos : String} {aft : Array Edge}

/-! ### Words -/
theorem R_bitsU {o : BinOp} {xt yt : TypeId} {x y : Operand} {a b r : Nat} (hx : ev l x = some (.int .u64 (a : Int))) (hy : ev l y = some (.int .u64 (b : Int))) (ha : a < 18446744073709551616) (hb : b < 18446744073709551616)
    (ht : (o = .and ∧ a &&& b = r) ∨ (o = .or ∧ a ||| b = r) ∨ (o = .andNot ∧ a &&& (18446744073709551615 - b) = r)) : ValOk P l H hl (.binOp o xt x y yt) ty (.int .u64 (r : Int)) := by
  refine (fun e w hk _ => ?_)
  simp only [ex, execOp, hk x _ hx, hk y _ hy, Sem.run_bind, run_eqGuard_int, Result.andThen_ok]
  rcases ht with ⟨rfl, rfl⟩ | ⟨rfl, rfl⟩ | ⟨rfl, rfl⟩
  · have := u64_and_nat a b ha hb
    simp only [binOp, ne_eq, not_true_eq_false, if_false, Op.intBits, Sem.run_pure, Result.andThen_ok]
    rw [← this]; rfl
  · have := u64_or_nat a b ha hb
    simp only [binOp, ne_eq, not_true_eq_false, if_false, Op.intBits, Sem.run_pure, Result.andThen_ok]
    rw [← this]; rfl
  · have := u64_andNot_nat a b ha hb
    simp only [binOp, ne_eq, not_true_eq_false, if_false, Op.intBits, Sem.run_pure, Result.andThen_ok]
    rw [← this]; rfl
theorem R_shl1U {xt yt : TypeId} {x y : Operand} {k : Nat} {i : Int} {q : IntKind} (hx : ev l x = some (.int .u64 1)) (hy : ev l y = some (.int q i)) (hi : i = (k : Int)) (hk : k < 64) : ValOk P l H hl (.binOp .shl xt x y yt) ty (.int .u64 ((2 ^ k : Nat) : Int)) := by
  subst hi
  refine (fun e w hkn _ => ?_)
  simp only [ex, execOp, hkn x _ hx, hkn y _ hy, Sem.run_bind, run_eqGuard_int, Result.andThen_ok]
  have h1 : ¬ ((k : Int) < 0) := by omega
  have h2 : min k 64 = k := by omega
  have h3 : (2 : Nat) ^ k < 18446744073709551616 := by rw [two64]; exact Nat.pow_lt_pow_right (by decide) hk
  simp only [binOp, Op.shift, h1, if_false, Int.toNat_natCast, IntKind.bits, h2, Sem.run_pure, Result.andThen_ok, IntKind.wrap_u64, Int.one_mul]
  congr 3
  rw [show ((2 : Int) ^ k) = ((2 ^ k : Nat) : Int) by simp]
  generalize 2 ^ k = m at h3 ⊢
  omega
theorem R_shrU {xt yt : TypeId} {x y : Operand} {a k : Nat} {q : IntKind} (hx : ev l x = some (.int .u64 (a : Int))) (hy : ev l y = some (.int q (k : Int))) (hk : k ≤ 64) : ValOk P l H hl (.binOp .shr xt x y yt) ty (.int .u64 ((a / 2 ^ k : Nat) : Int)) := by
  refine (fun e w hkn _ => ?_)
  simp only [ex, execOp, hkn x _ hx, hkn y _ hy, Sem.run_bind, run_eqGuard_int, Result.andThen_ok]
  have h1 : ¬ ((k : Int) < 0) := by omega
  have h2 : min k 64 = k := by omega
  simp only [binOp, Op.shift, h1, if_false, Int.toNat_natCast, IntKind.bits, h2, Sem.run_pure, Result.andThen_ok]
  congr 3
  rw [show ((2 : Int) ^ k) = ((2 ^ k : Nat) : Int) by simp]
  exact (Int.fdiv_eq_ediv_of_nonneg _ (Int.natCast_nonneg _)).trans (Int.natCast_ediv a (2 ^ k)).symm
theorem R_negU {xt : TypeId} {x : Operand} {a : Nat} (hx : ev l x = some (.int .u64 (a : Int))) (h0 : 0 < a) (h1 : a < 18446744073709551616) : ValOk P l H hl (.unOp .neg xt x) ty (.int .u64 ((18446744073709551616 - a : Nat) : Int)) :=
  (fun e w hk _ => by
    have : IntKind.u64.wrap (0 - (a : Int)) = ((18446744073709551616 - a : Nat) : Int) := by rw [IntKind.wrap_u64]; omega
    simp only [ex, execOp, hk x _ hx, Op.unary, Op.intArith, this, Sem.run_pure, Sem.run_bind, Result.andThen_ok])
theorem R_mulU {xt yt : TypeId} {x y : Operand} {a b : Nat} (hx : ev l x = some (.int .u64 (a : Int))) (hy : ev l y = some (.int .u64 (b : Int))) : ValOk P l H hl (.binOp .mul xt x y yt) ty (.int .u64 ((a * b % 18446744073709551616 : Nat) : Int)) :=
  R_arith hx hy (.inr (.inr ⟨rfl, by rw [IntKind.wrap_u64]; simp⟩))

/-! ### Arrays -/
def arrOk (P : Program) (t : TypeId) (k : Nat) (e : TypeId) : Prop := P.underlying t = some (.array k e)
theorem R_indexArr {x y : Operand} {t e : TypeId} {b off k : Nat} {q : IntKind} {i : Int} {agg : Bool} {sz : Nat} (hA : arrOk P t k e) (hT : Ty P e agg sz) (hx : ev l x = some (.pointer (some ⟨b, off, none⟩)))
    (hy : ev l y = some (.int q i)) (hi : 0 ≤ i ∧ i < k) : ValOk P l H hl (.indexAddr t x y) ty (.pointer (some ⟨b, off + i.toNat * sz, none⟩)) := by
  intro e w hk _
  have hA' : P.underlying t = some (.array k _) := hA
  simp [ex, execOp, Instr.indexAt, Instr.sureAddr, asIntOf, hk x _ hx, hk y _ hy, run_underlying hA', hi, hT.run_sizeOf, addr_add]
theorem R_indexG {y : Operand} {t e : TypeId} {g k : Nat} {q : IntKind} {i : Int} {agg : Bool} {sz : Nat} (hA : arrOk P t k e) (hT : Ty P e agg sz)
    (hy : ev l y = some (.int q i)) (hi : 0 ≤ i ∧ i < k) : ValOk P l H hl (.indexAddr t (.global g) y) ty (.pointer (some ⟨g, 0 + i.toNat * sz, none⟩)) := R_indexArr hA hT rfl hy hi
theorem R_indexV {x y : Operand} {t e : TypeId} {k i : Nat} {q : IntKind} {cs : Array Value} (hA : arrOk P t k e) (hT : Ty P e false 1) (hx : ev l x = some (.agg cs))
    (hy : ev l y = some (.int q (i : Int))) (hi : i < k) (hv : cs[i]? = some v) : ValOk P l H hl (.index t x y) ty v := by
  intro e w hk _
  have hA' : P.underlying t = some (.array k _) := hA
  simp [ex, execOp, Instr.index, asIntOf, hk x _ hx, hk y _ hy, run_underlying hA', hi, hT.run_sizeOf, part, hT.run_isAgg, hv]

/-! ### Small things -/
theorem R_nilCheck {x : Operand} {a : Addr} (hx : ev l x = some (.pointer (some a))) : ValOk P l H hl (.nilCheck x) ty (.pointer (some a)) :=
  (fun e w hk _ => by simp [ex, execOp, hk x _ hx])
theorem R_sliceNil {t e yt : TypeId} {x y : Operand} {a : Option Addr} {k cap : Nat} (hS : slcOk P t e) (hx : ev l x = some (.slice a k cap)) (hy : ev l y = some (.slice none 0 0)) : ValOk P l H hl (.binOp .eql t x y yt) ty (.bool a.isNone) := by
  intro e w hk _
  have hS' : P.underlying t = some (.slice _) := hS
  have key : ∀ d, (Op.equalIn (d + 1) t (.slice a k cap) (.slice none 0 0)).run P w = .ok a.isNone w := by
    intro d
    cases a <;> simp [Op.equalIn, run_underlying hS']
  have hg : (eqGuard .eql t x y (.slice a k cap) (.slice none 0 0)).run P w = .ok () w := by
    unfold eqGuard; simp
  simp only [ex, execOp, hk x _ hx, hk y _ hy, Sem.run_bind, hg, Result.andThen_ok, binOp]
  simp [Op.equal, Op.maxDepth, key 9999]
theorem R_min2 {x y : Operand} {ats : Array TypeId} {a b : Int} {k : IntKind} (hx : ev l x = some (.int k a)) (hy : ev l y = some (.int k b)) : ValOk P l H hl (.call ⟨.builtin .min, #[x, y], ats⟩) ty (.int k (if b < a then b else a)) := by
  intro e w hk _
  simp only [ex, execOp, resolve, hk x _ hx, hk y _ hy, invoke, builtin]
  simp [Builtin.min_, Builtin.min2, hk x _ hx, hk y _ hy]
/-- x[:hi:max] with hi = max = the length. -/
theorem R_clip {t e : TypeId} {x y z : Operand} {a : Option Addr} {k cap : Nat} {agg : Bool} {sz : Nat} (hS : slcOk P t e) (hT : Ty P e agg sz) (hx : ev l x = some (.slice a k cap)) (hy : ev l y = some (.int .i64 (k : Int))) (hz : ev l z = some (.int .i64 (k : Int))) (hc : k ≤ cap) :
    ValOk P l H hl (.slice t x none (some y) (some z)) ty (.slice (if k = 0 then a else a) k k) := by
  intro e w hk _
  have hS' : P.underlying t = some (.slice _) := hS
  simp only [ex, execOp, Instr.sliceAt, Option.map_none, Option.map_some, hk x _ hx, hk y _ hy, hk z _ hz, Sem.run_bind, run_underlying hS', Result.andThen_ok]
  simp [Instr.slice, Instr.sliceBounds, run_underlying hS', Instr.sliceBound, asIntOf, hc, hT.run_sizeOf]
  cases a <;> simp [Addr.add]

/-! ### Making maps and slices -/
def mp (b : Nat) : Value := .map (some b)
theorem A_makeMap {t : TypeId} : AllocOk P l (.makeMap t none) ty mp (.map #[] 0) := by
  intro e w hk
  simp [ex, execOp, Instr.makeMap, mp]
theorem A_makeSlice {t e : TypeId} {x y : Operand} {z : Value} {k sz bytes : Nat} {agg : Bool} (hA : App P t e sz bytes) (hz : zeroOk P e z) (hT : Ty P e agg sz) (hx : ev l x = some (.int .i64 (k : Int))) (hy : ev l y = some (.int .i64 (k : Int)))
    (hb : bytes * k ≤ 281474976710656) (hk : k ≤ 9223372036854775807) : AllocOk P l (.makeSlice t x y) ty (slc k) (.cells (madeCells z.cells (k * sz)) e) := by
  obtain ⟨i, z', hi, hz', hsz, _, hbt⟩ := hA.i
  obtain ⟨i2, hi2, hz2⟩ := hz
  rw [hi] at hi2; cases hi2
  intro e w hkn
  have hS : P.underlying t = some (.slice _) := hA.s
  have hb' : (i.bytes : Int) * (k : Int) ≤ 281474976710656 := by
    rw [hbt]
    have h : ((bytes * k : Nat) : Int) ≤ 281474976710656 := by omega
    rwa [Int.natCast_mul] at h
  have h := run_make (P := P) w t _ i z hS hi hz2 .i64 .i64 (k : Int) (k : Int) (by omega) (by omega) hb' (by omega)
  simp only [Int.toNat_natCast, hsz] at h
  simp only [ex, execOp, hkn x _ hx, hkn y _ hy, Sem.run_bind, h, Result.andThen_ok, Sem.run_pure, slc]

/-! ### Maps -/
def mapO (b : Nat) (kvs : List (Value × Value)) : Own where
  foot := [b]
  holds := fun h => ∃ es clk, h b = some (.map es clk) ∧ es.toList.map (fun e => (e.key, e.val)) = kvs
  loc := fun h h' e hh => by
    obtain ⟨es, clk, h1, h2⟩ := hh
    exact ⟨es, clk, by rw [e b (by simp)]; exact h1, h2⟩
  ex := fun h hh k hk => by
    simp at hk; subst hk
    obtain ⟨es, clk, h1, _⟩ := hh
    exact ⟨_, h1⟩
theorem Ok.mapNew {w : World} {b : Nat} (ho : Ok c w H (blk b (.map #[] 0) :: hl)) : Ok c w H (mapO b [] :: hl) := by
  refine ⟨ho.os, ho.tape, ho.output, ho.drawn, ho.size, ho.old, ho.vold, ho.le, ho.has, ?_, ?_, ?_⟩
  · intro e he
    rcases List.mem_cons.1 he with rfl | he
    · have h := ho.own (blk b (.map #[] 0)) (by simp)
      exact ⟨#[], 0, h, rfl⟩
    · exact ho.own e (List.mem_cons_of_mem _ he)
  · intro k hk
    exact ho.foot k (by simpa [feet, mapO, blk] using hk)
  · simpa [feet, mapO, blk] using ho.nd
theorem KQ_mapNew {x : Exit} {b : Nat} (h : KQ n c Q x l (mapO b [] :: hl) H) : KQ n c Q x l (blk b (.map #[] 0) :: hl) H := fun ρ w hm ho => h ρ w hm ho.mapNew

def optOk (kvs : List (Value × Value)) (key : Value) : Option Int → Prop
  | none => ∀ p ∈ kvs, p.1 ≠ key
  | some v => (∃ p ∈ kvs, p.1 = key) ∧ ∀ p ∈ kvs, p.1 = key → p.2 = .int .i64 v
theorem R_lookup {t kt et : TypeId} {x y : Operand} {b : Nat} {kvs : List (Value × Value)} {key : Value} {kl : Lit} {ok : Bool} {o : Option Int} (K : WideMaps.KeyLaw P kt) (ht : P.underlying t = some (.map kt et)) (hz : zeroOk P et (.int .i64 0)) (i : Nat)
    (hx : ev l x = some (mp b)) (hy : ev l y = some key) (hi : hl[i]? = some (mapO b kvs)) (hkey : keyOf P kt key = some kl) (hks : ∀ p ∈ kvs, ∃ l, keyOf P kt p.1 = some l) (ho : optOk kvs key o) :
    ValOk P l H hl (.lookup t x y ok) ty (if ok then .tuple #[.int .i64 (o.getD 0), .bool o.isSome] else .int .i64 (o.getD 0)) := by
  intro e w hk hw
  obtain ⟨es, clk, hb, rfl⟩ := hw.own _ (List.mem_of_getElem? hi)
  have hb' : w.heap[b]? = some (.map es clk) := hb
  have hks' : ∀ e ∈ es.toList, ∃ l, keyOf P kt e.key = some l := fun e he => hks (e.key, e.val) (List.mem_map.2 ⟨e, he, rfl⟩)
  simp only [ex, execOp, hk x _ hx, hk y _ hy, Sem.run_bind, Instr.lookup, run_underlying ht, Result.andThen_ok, mp, MapKept.run_getObj_map hb', Sem.run_pure, K.check w _ hkey]
  rcases K.find w hkey es.toList hks' with ⟨h1, h2⟩ | ⟨j, e0, h1, h2, h3⟩
  · have : o = none := by
      cases o with
      | none => rfl
      | some v =>
        obtain ⟨⟨p, hp, hpk⟩, _⟩ := ho
        obtain ⟨e, he, rfl⟩ := List.mem_map.1 hp
        exact absurd hpk (h2 e he)
    subst this
    simp only [h1, Result.andThen_ok]
    cases ok <;> simp [hz.run w]
  · have hm0 : e0 ∈ es.toList := List.mem_of_getElem? h2
    have hm1 : (e0.key, e0.val) ∈ es.toList.map (fun e => (e.key, e.val)) := List.mem_map.2 ⟨e0, hm0, rfl⟩
    cases o with
    | none => exact absurd h3 (ho _ hm1)
    | some v =>
      have hv := ho.2 _ hm1 h3
      simp only at hv
      simp only [h1, Result.andThen_ok, hv]
      cases ok <;> simp
/-- A key that is not there yet. -/
theorem E_mapPut {t kt et : TypeId} {x y z : Operand} {b : Nat} {kvs : List (Value × Value)} {key val : Value} {kl : Lit} (K : WideMaps.KeyLaw P kt) (ht : P.underlying t = some (.map kt et))
    (hx : ev l x = some (mp b)) (hy : ev l y = some key) (hz : ev l z = some val) (hkey : keyOf P kt key = some kl) (hks : ∀ p ∈ kvs, ∃ l, keyOf P kt p.1 = some l) (ho : ∀ p ∈ kvs, p.1 ≠ key) :
    Eff P l H [mapO b kvs] (.mapUpdate t x y z) ty fun _ H' q => ∃ en', q = [en'] ∧ (H' = H ∧ en' = mapO b (kvs ++ [(key, val)])) := by
  intro e w hk hw
  obtain ⟨es, clk, hb, rfl⟩ := hw.own (mapO b kvs) (by simp)
  have hb' : w.heap[b]? = some (.map es clk) := hb
  have hks' : ∀ e ∈ es.toList, ∃ l, keyOf P kt e.key = some l := fun e he => hks (e.key, e.val) (List.mem_map.2 ⟨e, he, rfl⟩)
  have hfind : (Instr.findKey kt key es.toList).run P w = .ok none w := by
    rcases K.find w hkey es.toList hks' with ⟨h1, h2⟩ | ⟨j, e0, h1, h2, h3⟩
    · exact h1
    · exact absurd h3 (ho (e0.key, e0.val) (List.mem_map.2 ⟨e0, List.mem_of_getElem? h2, rfl⟩))
  have hset : ∀ o', (setObj b o').run P w = .ok () (w.putObj b o') := by intro o'; simp [setObj, Sem.run, hb', World.putObj]
  have hrun : (ex e (.mapUpdate t x y z) ty).run P w = .ok .skip (w.putObj b (.map (es.push { key := key, val := val, born := clk }) (clk + 1))) := by
    simp only [ex, execOp, hk x _ hx, hk y _ hy, hk z _ hz, Sem.run_bind, Instr.mapUpdate, run_underlying ht, Result.andThen_ok, mp, MapKept.run_getObj_map hb', Sem.run_pure, K.check w _ hkey, hfind, hset]
  rw [hrun]
  refine ⟨H, _, ok1 (en' := mapO b (es.toList.map (fun e => (e.key, e.val)) ++ [(key, val)])) hw rfl rfl rfl (Nat.le_refl _) (by simp) (fun k _ hk => World.putObj_heap_other (by simpa [mapO] using hk)) ?_ (fun k hk => .inl hk) (by simp [mapO]), _, rfl, rfl, rfl⟩
  exact ⟨_, _, World.putObj_heap_same (lt_of_heap hb'), by simp⟩

/-! ### Keys -/
theorem wf_wv (s i : Nat) : (Lit.int .u64 (wd s i : Int)).wf = true := by
  have := wd_lt s i
  simp [Lit.wf, IntKind.min, IntKind.max, IntKind.bits, IntKind.signed]
  omega
structure SetT (P : Program) (t e : TypeId) : Prop where
  ar : arrOk P t 16 e
  ue : P.underlying e = some (.int .u64)
  ct : P.cellsOf t = 16
  ce : P.cellsOf e = 1
  kt : P.keyType t = true
  ka : P.keyTypeAt 2 t = true
  law : WideMaps.KeyLaw P t
  g : P.eqGuardType P.depth t = false
  nt : ∃ m, P.types.size = m + 1
theorem SetT.lits {t e : TypeId} (h : SetT P t e) (d s : Nat) : P.keyLits (d + 2) t (setL s) = some ((List.range 16).map fun i => Lit.int .u64 (wd s i : Int)) := by
  have ha : P.underlying t = some (.array 16 e) := h.ar
  have he : ∀ i, P.keyLits (d + 1) e [wv s i] = some [.int .u64 (wd s i : Int)] := by
    intro i
    simp [Program.keyLits, h.ue, wv, wf_wv]
  have hm : ((List.range 16).mapM fun i => P.keyLits (d + 1) e (((setL s).drop (i * P.cellsOf e)).take (P.cellsOf e))) = some ((List.range 16).map fun i => [Lit.int .u64 (wd s i : Int)]) := by
    rw [h.ce]
    simp only [List.range, List.range.loop, List.mapM_cons, List.mapM_nil, setL, Nat.zero_mul, Nat.one_mul, Nat.mul_one, List.drop_succ_cons, List.drop_zero, List.take_succ_cons, List.take_zero, he, List.map_cons, List.map_nil]
    rfl
  unfold Program.keyLits
  rw [ha]
  simp only [setL_len, h.ct, if_true, hm, Option.map_some]
  congr 1
theorem SetT.formed {t e : TypeId} (h : SetT P t e) (s : Nat) : (setV s).formed P t = true := by
  have ha : P.underlying t = some (.array 16 e) := h.ar
  simp [Value.formed, setV, ha, h.ct, setL]
theorem SetT.key {t e : TypeId} (h : SetT P t e) (s : Nat) : ∃ l, keyOf P t (setV s) = some l := by
  have ha : P.underlying t = some (.array 16 e) := h.ar
  have hsz : ∃ m, P.types.size + 1 = m + 2 := by
    obtain ⟨m, hm⟩ := h.nt
    exact ⟨m, by omega⟩
  obtain ⟨m, hm⟩ := hsz
  have hl := h.lits m s
  refine ⟨.string (keyBytes ((List.range 16).map fun i => Lit.int .u64 (wd s i : Int))), ?_⟩
  unfold keyOf
  rw [ha, hm]
  have : (setV s).cells.toList = setL s := rfl
  rw [this, hl]
  simp [h.kt, h.formed]
theorem SetT.eq {t e : TypeId} (h : SetT P t e) {s u : Nat} (hs : s < big) (hu : u < big) (w : World) : (Op.equal t (setV s) (setV u)).run P w = .ok (decide (s = u)) w := by
  have ha : P.underlying t = some (.array 16 e) := h.ar
  obtain ⟨r, hr, hiff⟩ := run_equalIn_deep (P := P) 9998 2 t h.ka w 2 2 (setV s) (setV u) _ _ (h.formed s) (h.formed u) (h.lits 0 s) (h.lits 0 u)
  have : r = decide (s = u) := by
    by_cases e0 : s = u
    · subst e0
      rw [decide_eq_true rfl]
      exact hiff.2 rfl
    · rw [decide_eq_false e0]
      rw [← Bool.not_eq_true]
      intro hr1
      refine e0 (set_ext hs hu fun i hi => ?_)
      have h1 := hiff.1 hr1
      have h2 := congrArg (fun L => L[i]?) h1
      simp only [List.getElem?_map, List.getElem?_range hi, Option.map_some, Option.some.injEq, Lit.int.injEq, true_and] at h2
      omega
  subst this
  exact hr
theorem R_eqSet {t e yt : TypeId} {x y : Operand} {s u : Nat} (h : SetT P t e) (hs : s < big) (hu : u < big) (hx : ev l x = some (setV s)) (hy : ev l y = some (setV u)) : ValOk P l H hl (.binOp .eql t x y yt) ty (.bool (decide (s = u))) := by
  intro ee w hk _
  have hg : (eqGuard .eql t x y (setV s) (setV u)).run P w = .ok () w := run_eqGuard_agg w .eql t x y _ _ h.g
  have hb : (binOp .eql t (setV s) (setV u)).run P w = .ok (.bool (decide (s = u))) w := by
    show (Op.equal t (setV s) (setV u) >>= fun r => pure (Value.bool r)).run P w = _
    rw [Sem.run_bind, h.eq hs hu]; rfl
  simp only [ex, execOp, hk x _ hx, hk y _ hy, Sem.run_bind, hg, Result.andThen_ok, hb, Sem.run_pure]
end rules
end Pal

/-
  Loads and stores whose place or outcome is told, reads of a row of one's own, calls that hand over, over PalU. Own work. No statement of the seat is proved here.
-/
namespace Pal
open Go
section rules
variable {P : Program} {n : Nat} {c : Cx} {Q : Exit → Act → World → Prop} {l : KL} {hl : HL} {H : View}
variable {ops : Array Oper} {rest : List Oper} {d : Nat} {v : Value} {op : Op} {ty : TypeId} {pos : String} {aft : Array Edge}

theorem Q_fall {fn : Func} {R : Ending → World → Prop} (h : KQ n c (bodyPost P fn R) .ret l hl H) : KQ n c (bodyPost P fn R) .normal l hl H := fun ρ w hm ho => h ρ w hm ho
/-- A whole block. -/
theorem R_loadW {t : TypeId} {x : Operand} {sz b : Nat} {cs : Array Value} {T : TypeId} {fz : Nat × Nat} (hT : Ty P t true sz) (i : Nat) (hx : ev l x = some (.pointer (some ⟨b, 0, none⟩)))
    (hi : hl[i]? = some (blk b (.cells cs T fz))) (hsz : cs.size = sz) (hv : Value.agg cs = v) : ValOk P l H hl (.load t x) ty v :=
  R_loadO (vs := cs.toList) hT i hx hi (by rw [List.drop_zero, List.take_of_length_le (by simp [hsz])]) (by simpa using hsz) (fun e => by cases e) (by simpa [mkV] using hv)
/-- One cell, its place told. -/
theorem R_loadC {t : TypeId} {x : Operand} {b off : Nat} {cs : Array Value} {T : TypeId} {fz : Nat × Nat} (hT : Ty P t false 1) (i : Nat) (hx : ev l x = some (.pointer (some ⟨b, off, none⟩)))
    (hi : hl[i]? = some (blk b (.cells cs T fz))) (hv : cs[off]? = some v) : ValOk P l H hl (.load t x) ty v := by
  have h1 : (cs.toList.drop off).take 1 = [v] := by
    have hv' : cs.toList[off]? = some v := by simpa using hv
    obtain ⟨h2, h3⟩ := List.getElem?_eq_some_iff.1 hv'
    rw [List.drop_eq_getElem_cons h2, h3]; rfl
  exact R_loadO hT i hx hi h1 rfl (fun _ => rfl) rfl
theorem putCells_all {cs : Array Value} {vs : Array Value} (h : cs.size = vs.size) : putCells cs 0 vs.toList = vs := by
  unfold putCells putL
  have h1 : List.drop (0 + vs.toList.length) cs.toList = [] := List.drop_eq_nil_of_le (by simp [h])
  rw [h1]
  simp
theorem K_storeE {t : TypeId} {x y : Operand} {agg : Bool} {sz b off : Nat} {cs cs' : Array Value} {T : TypeId} (hT : Ty P t agg sz) (i : Nat) (hx : ev l x = some (.pointer (some ⟨b, off, none⟩))) (hy : ev l y = some v)
    (hi : hl[i]? = some (blk b (.cells cs T (0, 0)))) (hsz : v.cells.toList.length = sz) (hfit : off + v.cells.toList.length ≤ cs.size) (h1 : v.cells.toList.all Value.oneCell' = true) (he : putCells cs off v.cells.toList = cs')
    (h : KO P n c ops Q rest l (hl.set i (blk b (.cells cs' T (0, 0)))) H) : KO P n c ops Q (⟨none, .store t x y, ty, pos, aft, none⟩ :: rest) l hl H := by
  subst he; exact K_store hT i hx hy hi hsz (Nat.ble_eq.mpr hfit) h1 h
theorem K_storeW {t : TypeId} {x y : Operand} {agg : Bool} {sz b : Nat} {cs cs' : Array Value} {T : TypeId} (hT : Ty P t agg sz) (i : Nat) (hx : ev l x = some (.pointer (some ⟨b, 0, none⟩))) (hy : ev l y = some v)
    (hi : hl[i]? = some (blk b (.cells cs T (0, 0)))) (hv : v.cells = cs') (hsz : cs'.size = sz) (hcs : cs.size = sz) (h1 : cs'.toList.all Value.oneCell' = true)
    (h : KO P n c ops Q rest l (hl.set i (blk b (.cells cs' T (0, 0)))) H) : KO P n c ops Q (⟨none, .store t x y, ty, pos, aft, none⟩ :: rest) l hl H := by
  subst hv
  refine K_storeE hT i hx hy hi (by simpa using hsz) (by simp [hsz, hcs]) h1 (putCells_all (by rw [hsz, hcs])) h
variable {ol : List Oper} {keep : HL} {fin : Bool} {T : ST} {R : List Nat} {i : Nat} {g : Option (Nat × Bool)}
theorem D_lastStoreE {t : TypeId} {x y : Operand} {agg : Bool} {sz b off : Nat} {cs cs' : Array Value} {E : TypeId} (hT : Ty P t agg sz) (j : Nat) (hi : nthO ol i = some ⟨none, .store t x y, ty, pos, aft, g⟩) (hw : wlO ol l g = some true)
    (hx : ev l x = some (.pointer (some ⟨b, off, none⟩))) (hy : ev l y = some v) (hj : hl[j]? = some (blk b (.cells cs E (0, 0)))) (hsz : v.cells.toList.length = sz) (hfit : off + v.cells.toList.length ≤ cs.size) (h1 : v.cells.toList.all Value.oneCell' = true)
    (he : putCells cs off v.cells.toList = cs') (h : KQ n c Q .normal l (hl.set j (blk b (.cells cs' E (0, 0)))) H) : KD P n ol.toArray keep true (TQ n c Q) [i] l hl H := by
  subst he; exact D_lastStore hT j hi hw hx hy hj hsz (Nat.ble_eq.mpr hfit) h1 h
/-- A read of a row of one's own. -/
theorem R_loadRow {t : TypeId} {x : Operand} {agg : Bool} {sz b off : Nat} {a : Addr} {e : TypeId} {sz' k k' cap : Nat} {xs vs : List Value} (hT : Ty P t agg sz) (j : Nat) (hx : ev l x = some (.pointer (some ⟨b, off, none⟩)))
    (hj : hl[j]? = some (row (.slice (some a) k' cap) e sz' k xs)) (ha : a.block = b) (hvs : (xs.drop off).take sz = vs) (hlen : vs.length = sz) (h1 : agg = false → sz = 1) (hv : mkV agg vs = v) : ValOk P l H hl (.load t x) ty v := by
  intro ee w hk ho
  subst hv
  obtain ⟨_, hr⟩ := ho.own _ (List.mem_of_getElem? hj)
  rcases hr with ⟨hr, _⟩ | ⟨g, cap', cur, hr, hg, _, _, _, htk⟩
  · cases hr
  · simp only [Value.slice.injEq, Option.some.injEq] at hr
    obtain ⟨rfl, _, _⟩ := hr
    simp only at ha
    subst ha
    have hg' : w.heap[g]? = some (.cells cur e (0, 0)) := hg
    have hc : ∀ j u, vs[j]? = some u → w.cell? ((⟨g, off, none⟩ : Addr).add j) = some u := by
      intro j u hj
      rw [addr_add]
      rw [← hvs, List.getElem?_take] at hj
      split at hj
      · rw [List.getElem?_drop, ← htk, List.getElem?_take] at hj
        split at hj
        · simp [World.cell?, hg']; simpa using hj
        · cases hj
      · cases hj
    simp [ex, execOp, hk x _ hx, Instr.loadAt, Instr.sureAddr, run_loadVar hT hlen h1 w hc]
/-- A call that is handed p and ends with q. -/
theorem K_callO {xs : List Operand} {ats : Array TypeId} {f : FuncId} {gx : Operand} {first captured vs : List Value} {post : Value → View → HL → Prop} (p r : HL) (hp : hl.Perm (p ++ r))
    (hcal : callable P f = true) (hg : ev l gx = some (.func (.func f) first.toArray captured.toArray)) (hxs : evs l xs = some vs) (hdn : Nat.blt d n = true) (hS : SatO P f (first ++ vs ++ captured).toArray H p post)
    (h : ∀ u H' q, VLe H H' → post u H' q → KO P n c ops Q rest ((d, u) :: l) (q ++ r) H') :
    KO P n c ops Q (⟨some d, .call ⟨.value gx, xs.toArray, ats⟩, ty, pos, aft, none⟩ :: rest) l hl H :=
  KE p r hp (E_call hcal hg hxs hS) hdn h
theorem D_callO {xs : List Operand} {ats : Array TypeId} {f : FuncId} {gx : Operand} {first captured vs : List Value} {post : Value → View → HL → Prop} (p r : HL) (hi : nthO ol i = some ⟨some d, .call ⟨.value gx, xs.toArray, ats⟩, ty, pos, aft, g⟩)
    (hw : wlO ol l g = some true) (hcal : callable P f = true) (hg : ev l gx = some (.func (.func f) first.toArray captured.toArray)) (hxs : evs l xs = some vs) (hp : hl.Perm (p ++ r)) (hkp : memAll keep r) (hS : SatO P f (first ++ vs ++ captured).toArray H p post)
    (h : ∀ u H' q, VLe H H' → post u H' q → KD P n ol.toArray keep fin T R ((d, u) :: l) (q ++ r) H') : KD P n ol.toArray keep fin T (i :: R) l hl H :=
  D_eff p r hi hw rfl hp hkp.mem (E_call hcal hg hxs hS) h
theorem D_lastPut {t kt et : TypeId} {x y z : Operand} {b : Nat} {kvs : List (Value × Value)} {key val : Value} {kl : Lit} (K : WideMaps.KeyLaw P kt) (ht : P.underlying t = some (.map kt et)) (j : Nat)
    (hi : nthO ol i = some ⟨none, .mapUpdate t x y z, ty, pos, aft, g⟩) (hw : wlO ol l g = some true)
    (hx : ev l x = some (mp b)) (hy : ev l y = some key) (hz : ev l z = some val) (hj : hl[j]? = some (mapO b kvs)) (hkey : keyOf P kt key = some kl) (hks : ∀ p ∈ kvs, ∃ l, keyOf P kt p.1 = some l) (ho : ∀ p ∈ kvs, p.1 ≠ key)
    (h : KQ n c Q .normal l (hl.set j (mapO b (kvs ++ [(key, val)]))) H) : KD P n ol.toArray keep true (TQ n c Q) [i] l hl H :=
  D_last [_] (hl.eraseIdx j) hi hw rfl (perm_erase hj) (E_mapPut K ht hx hy hz hkey hks ho) (by
    rintro _ H' q _ ⟨en', rfl, rfl, rfl⟩
    exact fun ρ w hm ho => h ρ w hm (ho.perm (perm_set hj)))
end rules
/-- The first k words met with t's. -/
def upto (s t k : Nat) : Nat := ((s &&& t) % 2 ^ (64 * k)) ||| ((s >>> (64 * k)) <<< (64 * k))
theorem upto_testBit (s t k j : Nat) : (upto s t k).testBit j = if j < 64 * k then (s &&& t).testBit j else s.testBit j := by
  unfold upto
  rw [Nat.testBit_or, Nat.testBit_mod_two_pow, Nat.testBit_shiftLeft, Nat.testBit_shiftRight]
  by_cases h : j < 64 * k
  · have : ¬ (j ≥ 64 * k) := by omega
    simp [h, this]
  · have h2 : j ≥ 64 * k := by omega
    simp [h, h2]
theorem wd_upto (s t k i : Nat) : wd (upto s t k) i = if i < k then wd s i &&& wd t i else wd s i := by
  apply Nat.eq_of_testBit_eq
  intro j
  rw [wd_testBit, upto_testBit]
  by_cases hj : j < 64
  · by_cases hi : i < k
    · have : 64 * i + j < 64 * k := by omega
      simp [hi, this, hj, wd_testBit]
    · have : ¬ (64 * i + j < 64 * k) := by omega
      simp [hi, this, hj, wd_testBit]
  · by_cases hi : i < k <;> simp [hi, hj, wd_testBit]
theorem upto_zero (s t : Nat) : upto s t 0 = s := by
  apply Nat.eq_of_testBit_eq
  intro j
  rw [upto_testBit]; simp
theorem upto_all {s t : Nat} (h : s < big) : upto s t 16 = s &&& t := by
  apply Nat.eq_of_testBit_eq
  intro j
  rw [upto_testBit]
  by_cases hj : j < 64 * 16
  · simp [hj]
  · simp only [hj, if_false]
    rw [testBit_big h (by omega), testBit_big (and_big t h) (by omega)]
theorem wd_upto_succ (s t k i : Nat) : wd (upto s t (k + 1)) i = if i = k then wd (upto s t k) k &&& wd t k else wd (upto s t k) i := by
  rw [wd_upto, wd_upto, wd_upto]
  by_cases h1 : i = k
  · subst h1; simp
  · by_cases h2 : i < k
    · simp [h1, h2, Nat.lt_succ_of_lt h2]
    · have : ¬ i < k + 1 := by omega
      simp [h1, h2, this]
/-! ### Words of a set in a box -/
theorem cells_get (s k : Nat) {off : Nat} (ho : off = k) (hk : k < 16) : (setV s).cells[off]? = some (wv s k) := by
  subst ho
  have := setL_get s off hk
  simpa [setV, Value.cells] using this
theorem zero_big : 0 < big := by rw [big_eq]; exact Nat.two_pow_pos kBits
theorem cells_fit (s k : Nat) {x : Int} {off : Nat} (ho : off = k) (hk : k < 16) : off + (Value.int .u64 x).cells.toList.length ≤ (setV s).cells.size := by
  subst ho
  exact hk
theorem cells_put {s t k x off : Nat} (ho : off = k) (hk : k < 16) (h : ∀ i, i < 16 → wd t i = if i = k then x else wd s i) :
    putCells (setV s).cells off (Value.int .u64 (x : Int)).cells.toList = (setV t).cells := by
  subst ho
  have := setL_put hk h
  show (putL (setL s) off [.int .u64 (x : Int)]).toArray = (setL t).toArray
  rw [this]
/-! ### Lists into sets, the least element -/
def wth (s : Nat) (i : Int) : Nat := if 0 ≤ i ∧ i < 1024 then s ||| 2 ^ i.toNat else s
def ofL (xs : List Int) : Nat := xs.foldl wth 0
theorem ofL_take (xs : List Int) (k : Nat) (hk : k < xs.length) : ofL (xs.take (k + 1)) = wth (ofL (xs.take k)) xs[k] := by
  unfold ofL
  rw [List.take_succ_eq_append_getElem hk, List.foldl_append]; rfl
/-- The table of math/bits, a global of number g. -/
def TabAt (g : Nat) (H : View) : Prop := At H g 0 (bruijn.map fun (k : Nat) => Value.int .u8 (k : Int))
theorem TabAt.mono {g : Nat} {H H' : View} (h : TabAt g H) (hle : VLe H H') : TabAt g H' := At.mono h hle
theorem TabAt.get {g : Nat} {H : View} (h : TabAt g H) {i k : Nat} (_hi : i < 64) (hk : bruijn[i]? = some k) {off : Nat} (ho : off = i) : At H g off [.int .u8 (k : Int)] := by
  subst ho
  have := At.sub (p := off) (cs := [.int .u8 (k : Int)]) h (by
    intro j v hj
    cases j with
    | zero => simp at hj; subst hj; simp [hk]
    | succ j => simp at hj)
  simpa using this
theorem vadd_self (H : View) (b : Nat) (o : Obj) : vadd H b o b = some o := by simp [vadd]
def minS (s : Nat) : Int := if s = 0 then 0 else ((low s 1024 0 : Nat) : Int)
theorem low_eq {s m : Nat} (hm : m < 1024) (h1 : s.testBit m = true) (h2 : ∀ j, j < m → s.testBit j = false) : low s 1024 0 = m := by
  obtain ⟨g1, _, g3, g4⟩ := low_spec s 1024 0 ⟨m, Nat.zero_le _, by omega, h1⟩
  rcases Nat.lt_trichotomy (low s 1024 0) m with h | h | h
  · rw [h2 _ h] at g1; cases g1
  · exact h
  · rw [g4 m (Nat.zero_le _) h] at h1; cases h1
theorem minS_word {s k : Nat} (hk : k < 16) (hz : ∀ i, i < k → wd s i = 0) (hne : wd s k ≠ 0) : minS s = 64 * (k : Int) + ((low (wd s k) 64 0 : Nat) : Int) ∧ s ≠ 0 ∧ low (wd s k) 64 0 < 64 := by
  obtain ⟨j, hj1, hj2⟩ := exists_bit hne (show wd s k < 2 ^ 64 from two64 ▸ wd_lt s k)
  obtain ⟨g1, _, g3, g4⟩ := low_spec (wd s k) 64 0 ⟨j, Nat.zero_le _, by omega, hj2⟩
  generalize low (wd s k) 64 0 = m at g1 g3 g4 ⊢
  have hb : s.testBit (64 * k + m) = true := by
    have := wd_testBit s k m
    rw [g1] at this
    simp at this
    exact this.2
  have hs : s ≠ 0 := fun e => by subst e; simp at hb
  have hl : low s 1024 0 = 64 * k + m := by
    refine low_eq (by omega) hb fun i hi => ?_
    rw [testBit_wd]
    by_cases e : i / 64 < k
    · rw [hz _ e]; simp
    · have : i / 64 = k := by omega
      rw [this]
      exact g4 _ (Nat.zero_le _) (by omega)
  refine ⟨?_, hs, by omega⟩
  rw [minS, if_neg hs, hl]
  omega
theorem zero_of_words {s : Nat} (hs : s < big) (hz : ∀ i, i < 16 → wd s i = 0) : s = 0 := set_ext hs zero_big fun i hi => by rw [hz i hi]; simp [wd]
theorem zero_or_bit {s : Nat} (hs : s < big) (h : s ≠ 0) : s.testBit (low s 1024 0) = true ∧ low s 1024 0 < 1024 ∧ ∀ j, j < low s 1024 0 → s.testBit j = false := by
  obtain ⟨j, hj1, hj2⟩ := exists_bit h (show s < 2 ^ kBits from big_eq ▸ hs)
  rw [kBits_eq] at hj1
  obtain ⟨g1, _, g3, g4⟩ := low_spec s 1024 0 ⟨j, Nat.zero_le _, by omega, hj2⟩
  exact ⟨g1, by omega, fun j hj => g4 j (Nat.zero_le _) hj⟩
theorem els_zero : els 0 = [] := by
  unfold els
  have : (List.range 1024).filter (fun i => (0 : Nat).testBit i) = [] := List.filter_eq_nil_iff.2 (fun i _ => by simp)
  rw [this]; rfl
theorem range_split (m : Nat) (hm : m < 1024) : List.range 1024 = List.range m ++ m :: List.range' (m + 1) (1023 - m) := by
  rw [List.range_eq_range', List.range_eq_range', show 1024 = m + (1 + (1023 - m)) by omega, ← List.range'_append_1, ← List.range'_append_1]
  simp
theorem els_step {s : Nat} (hs : s < big) (h : s ≠ 0) : els s = minS s :: els (clr s (low s 1024 0)) := by
  obtain ⟨g1, g2, g3⟩ := zero_or_bit hs h
  have hm : minS s = ((low s 1024 0 : Nat) : Int) := by rw [minS, if_neg h]
  rw [hm]
  generalize low s 1024 0 = m at g1 g2 g3 ⊢
  unfold els
  rw [range_split m g2]
  simp only [List.filter_append, List.filter_cons, g1, if_true, clr_testBit, decide_true, Bool.not_true, Bool.and_false, Bool.false_eq_true, if_false]
  have e1 : (List.range m).filter (fun i => s.testBit i) = [] := List.filter_eq_nil_iff.2 (fun i hi => by rw [g3 i (List.mem_range.1 hi)]; simp)
  have e2 : (List.range m).filter (fun i => s.testBit i && !decide (m = i)) = [] := List.filter_eq_nil_iff.2 (fun i hi => by rw [g3 i (List.mem_range.1 hi)]; simp)
  have e3 : (List.range' (m + 1) (1023 - m)).filter (fun i => s.testBit i && !decide (m = i)) = (List.range' (m + 1) (1023 - m)).filter (fun i => s.testBit i) := by
    apply List.filter_congr
    intro i hi
    have := (List.mem_range'_1.1 hi).1
    have : ¬ m = i := by omega
    simp [this]
  rw [e1, e2, e3]
  rfl
theorem els_mem {s : Nat} {x : Int} (h : x ∈ els s) : ∃ k : Nat, x = (k : Int) ∧ k < 1024 ∧ s.testBit k = true := by
  obtain ⟨k, hk, rfl⟩ := List.mem_map.1 h
  obtain ⟨h1, h2⟩ := List.mem_filter.1 hk
  exact ⟨k, rfl, List.mem_range.1 h1, h2⟩
theorem els_ok (s : Nat) : ∀ x ∈ els s, i64ok x := by
  intro x hx
  obtain ⟨k, rfl, hk, _⟩ := els_mem hx
  simp only [i64ok]; omega
theorem els_len (s : Nat) : (els s).length ≤ 1099511627776 := by
  unfold els
  have := List.length_filter_le (fun i => s.testBit i) (List.range 1024)
  simp at this ⊢
  omega
end Pal

/-
  Appends to a slice that is full: a fresh row, published. Own work. No statement of the seat is proved here.
-/
namespace Pal
open Go
section rules
variable {P : Program} {n : Nat} {c : Cx} {Q : Exit → Act → World → Prop} {l : KL} {hl : HL} {H : View}
variable {ops : Array Oper} {rest : List Oper} {d : Nat} {v : Value} {op : Op} {ty : TypeId} {pos : String} {aft : Array Edge}

/-- A slice, its length no more than its room. -/
def SlC (H : View) (v : Value) (k : Nat) (cells : List Value) : Prop := SlAt H v k cells ∧ ∃ a cap, v = .slice a k cap ∧ k ≤ cap
theorem E_appendPub {x y : Operand} {t e : TypeId} {sz bytes k m : Nat} {a : Option Addr} {xs news : List Value} {u : Value} {p : HL} (hA : App P t e sz bytes) (hx : ev l x = some (.slice a k k)) (hxs : SlAt H (.slice a k k) k xs) (hxl : xs.length = k * sz)
    (hy : ev l y = some u) (hu : ((∃ a cp, u = .slice a m cp) ∧ m = 0 ∧ news = []) ∨ ∃ b off cp, u = .slice (some ⟨b, off, none⟩) m cp ∧ (At H b off news ∨ ∃ cs T fz, p = [blk b (.cells cs T fz)] ∧ off = 0 ∧ cs.toList.take news.length = news))
    (hl' : news.length = m * sz) (hb : (k + m) * bytes ≤ 140737488355328 ∧ k + m ≤ 140737488355328) :
    Eff P l H p (.call ⟨.builtin .append, #[x, y], #[t, t]⟩) ty fun v' H' q => q = [] ∧ SlC H' v' (k + m) (xs ++ news) := by
  intro ev' w hk ho
  obtain ⟨i, z, hi, hz, hs, hzs, hby⟩ := hA.i
  subst hs
  subst hby
  have hS : P.underlying t = some (.slice e) := hA.s
  have hu' : ((∃ a cp, u = .slice a m cp) ∧ m = 0 ∧ news = []) ∨ ∃ a cp, u = .slice (some a) m cp ∧ (∀ j u, news[j]? = some u → w.cell? (a.add j) = some u) := by
    rcases hu with h | ⟨b, off, cp, h, h2⟩
    · exact .inl h
    · refine .inr ⟨_, cp, h, ?_⟩
      rcases h2 with h2 | ⟨cs, T, fz, rfl, rfl, h3⟩
      · exact h2.cell ho.has
      · have hbk : w.heap[b]? = some (.cells cs T fz) := ho.own (blk b (.cells cs T fz)) (by simp)
        intro j u hj
        rw [addr_add]
        rw [← h3, List.getElem?_take] at hj
        split at hj
        · simpa [World.cell?, hbk] using hj
        · cases hj
  have ho0 : Ok ⟨w, H, feet p⟩ w H p := ho.ok
  by_cases hm : m = 0
  · subst hm
    have hn : news = [] := List.eq_nil_of_length_eq_zero (by simpa using hl')
    subst hn
    have hx' : ∃ a cp, u = .slice a 0 cp := by
      rcases hu' with ⟨h, _⟩ | ⟨a, cp, h, _⟩
      · exact h
      · exact ⟨some a, cp, h⟩
    obtain ⟨a', cp, rfl⟩ := hx'
    have hf : (Builtin.firstCells i.size 0 (.slice a' 0 cp)).run P w = .ok #[] w := by
      cases a' <;> simp [Builtin.firstCells, loadCells, loadCellsFrom]
    have hr : (ex ev' (.call ⟨.builtin .append, #[x, y], #[t, t]⟩) ty).run P w = .ok (.value (.slice a k k)) w := by
      simp only [ex, execOp, resolve, invoke, builtin]
      cases a <;> simp [hk x _ hx, hk y _ hy, Builtin.append_, run_underlying hS, Go.sizeOf, typeInfo, hi, Builtin.lenOf, hf, storeCells]
    rw [hr]
    exact ⟨H, [], ho0.sublist (List.nil_sublist p), rfl, by simpa using hxs, a, k, rfl, by omega⟩
  · obtain ⟨a', cp, rfl, hnews⟩ := hu'.resolve_left (fun h => hm h.2.1)
    have hge := grownCap_ge w (k + m) k e
    have h63 : ((k + m : Nat) : Int) ≤ 9223372036854775807 := by omega
    have key : ∀ o : Obj, ∀ cap, k + m ≤ cap → (∃ tl, o = .cells ((xs ++ news).toArray ++ tl) e) → ∃ H' q, Ok ⟨w, H, feet p⟩ (w.drew.alloc o) H' q ∧ q = [] ∧ SlC H' (.slice (some ⟨w.heap.size, 0, none⟩) (k + m) cap) (k + m) (xs ++ news) := by
      rintro o cap hcap ⟨tl, rfl⟩
      have h1 := (ho0.drew.alloc (.cells ((xs ++ news).toArray ++ tl) e)).perm (List.Perm.refl _)
      have hnew : w.drew.heap.size ∉ feet p := fun hm => Nat.lt_irrefl _ (ho.lt hm)
      have h2 := (h1.publish hnew).sublist (List.nil_sublist p)
      refine ⟨_, [], h2, rfl, ⟨_, cap, rfl, .inr ⟨w.heap.size, 0, rfl, _, e, _, vadd_self _ _ _, ?_⟩⟩, _, cap, rfl, hcap⟩
      intro j u hj
      have hjl : j < (xs ++ news).length := (List.getElem?_eq_some_iff.1 hj).1
      rw [Nat.zero_add, Array.getElem?_append_left (by simpa using hjl)]
      simpa using hj
    have hrun : ∃ o cap, k + m ≤ cap ∧ (∃ tl, o = Obj.cells ((xs ++ news).toArray ++ tl) e) ∧ (Builtin.append_ #[t, t] ty #[.slice a k k, .slice (some a') m cp]).run P w = .ok (.slice (some ⟨w.heap.size, 0, none⟩) (k + m) cap) (w.drew.alloc o) := by
      cases a with
      | none =>
        obtain ⟨a2, cap2, h1, h2⟩ := hxs
        cases h1
        rcases h2 with ⟨h2, h3⟩ | ⟨b, off, h2, _⟩
        · subst h2; subst h3
          have hr := run_append_nil (P := P) w t ty e i z hS hi hz a' m cp news hl' hnews (by omega) (by omega) (by have := hb.1; simp only [Nat.zero_add] at this; omega)
          refine ⟨_, grownCap w m 0 e, ?_, ⟨_, by simp only [List.nil_append]; rfl⟩, by simpa using hr⟩
          have := grownCap_ge w m 0 e
          omega
        · cases h2
      | some a0 =>
        obtain ⟨a2, cap2, h1, h2⟩ := hxs
        cases h1
        have holds : ∀ j v, xs[j]? = some v → w.cell? (a0.add j) = some v := by
          rcases h2 with ⟨_, h3⟩ | ⟨b, off, h2, h3⟩
          · subst h3; intro j v hj; simp at hj
          · cases h2; exact h3.cell ho.has
        have hr := run_append_grow (P := P) w t ty e i z hS hi hz a0 k k xs hxl holds a' m cp news hl' hnews (by omega) h63 (growslice_fits (by omega) hb.1)
        exact ⟨_, _, hge, ⟨Builtin.zeroCells z.cells (grownCap w (k + m) k e - (k + m)), by rw [← List.append_toArray]⟩, hr⟩
    obtain ⟨o, cap, hcap, ho', hr⟩ := hrun
    have hrun2 : (ex ev' (.call ⟨.builtin .append, #[x, y], #[t, t]⟩) ty).run P w = .ok (.value (.slice (some ⟨w.heap.size, 0, none⟩) (k + m) cap)) (w.drew.alloc o) := by
      simp [ex, execOp, resolve, invoke, builtin, hk x _ hx, hk y _ hy]
      rw [hr]; rfl
    rw [hrun2]
    exact key o cap hcap ho'
theorem K_appendPubH {x y : Operand} {t e : TypeId} {sz bytes k m : Nat} {a : Option Addr} {xs news : List Value} {u : Value} (hA : App P t e sz bytes) (hx : ev l x = some (.slice a k k)) (hxs : SlAt H (.slice a k k) k xs) (hxl : xs.length = k * sz)
    (hy : ev l y = some u) (hu : SlAt H u m news) (hul : news.length = m * sz) (hb : (k + m) * bytes ≤ 140737488355328 ∧ k + m ≤ 140737488355328) (hdn : Nat.blt d n = true)
    (h : ∀ v' H', VLe H H' → SlC H' v' (k + m) (xs ++ news) → KO P n c ops Q rest ((d, v') :: l) hl H') :
    KO P n c ops Q (⟨some d, .call ⟨.builtin .append, #[x, y], #[t, t]⟩, ty, pos, aft, none⟩ :: rest) l hl H := by
  refine KE [] hl (List.Perm.refl _) (E_appendPub (p := []) hA hx hxs hxl hy ?_ hul hb) hdn ?_
  · obtain ⟨a', cap', rfl, h2⟩ := hu
    rcases h2 with ⟨rfl, rfl⟩ | ⟨b, off, rfl, h2⟩
    · exact .inl ⟨⟨a', cap', rfl⟩, rfl, rfl⟩
    · exact .inr ⟨b, off, cap', rfl, .inl h2⟩
  · rintro v' H' q hle ⟨rfl, h2⟩
    exact h v' H' hle h2
variable {ol : List Oper} {keep : HL} {fin : Bool} {T : ST} {R : List Nat} {i : Nat} {g : Option (Nat × Bool)}
theorem D_appendPub1 {x y : Operand} {t e : TypeId} {sz bytes k m : Nat} {a : Option Addr} {xs : List Value} {b : Nat} {cs : Array Value} {fz : Nat × Nat} {tl : HL} (hA : App P t e sz bytes)
    (hi : nthO ol i = some ⟨some d, .call ⟨.builtin .append, #[x, y], #[t, t]⟩, ty, pos, aft, g⟩) (hw : wlO ol l g = some true) (hx : ev l x = some (.slice a k k)) (hxs : SlAt H (.slice a k k) k xs) (hxl : xs.length = k * sz)
    (hy : ev l y = some (slc m b)) (hhl : hl = blk b (.cells cs e fz) :: tl) (hkp : memAll keep tl) (hcs : cs.toList.length = m * sz) (hb : (k + m) * bytes ≤ 140737488355328 ∧ k + m ≤ 140737488355328)
    (h : ∀ v' H', VLe H H' → SlC H' v' (k + m) (xs ++ cs.toList) → KD P n ol.toArray keep fin T R ((d, v') :: l) tl H') : KD P n ol.toArray keep fin T (i :: R) l hl H := by
  subst hhl
  refine D_eff [blk b (.cells cs e fz)] tl hi hw rfl (List.Perm.refl _) hkp.mem (E_appendPub hA hx hxs hxl hy (.inr ⟨b, 0, _, rfl, .inr ⟨cs, e, fz, rfl, rfl, List.take_length⟩⟩) hcs hb) ?_
  rintro v' H' q hle ⟨rfl, h2⟩
  exact h v' H' hle h2
/-! ### Publishing a block where something was handed over -/
theorem Ok.publishP {w : World} {b : Nat} {o : Obj} (h : Ok c w H (blk b o :: hl)) (hsub : ∀ x ∈ c.pass, x ∈ feet hl) : Ok c w (vadd H b o) hl := by
  refine h.publish fun hm => ?_
  have hnd := h.nd
  rw [feet_cons] at hnd
  simp only [blk, List.cons_append, List.nil_append, List.nodup_cons] at hnd
  exact hnd.1 (hsub b hm)
theorem KQ_pubblk {x : Exit} {b : Nat} {o : Obj} (hsub : ∀ x ∈ c.pass, x ∈ feet hl) (h : ∀ H', VLe H H' → H' b = some o → KQ n c Q x l hl H') : KQ n c Q x l (blk b o :: hl) H := by
  intro ρ w hm ho
  have h2 := Ok.publishP ho hsub
  have hle : VLe H (vadd H b o) := by
    intro k o' hk
    by_cases e : k = b
    · subst e
      have := (ho.foot k (by simp [feet, blk])).1
      rw [this] at hk; cases hk
    · simp [vadd, e, hk]
  exact h _ hle (vadd_self _ _ _) ρ w hm h2
theorem KQ_pubnew {x : Exit} {b : Nat} {o : Obj} (hnew : b ∉ c.pass) (h : ∀ H', VLe H H' → H' b = some o → KQ n c Q x l hl H') : KQ n c Q x l (blk b o :: hl) H := by
  intro ρ w hm ho
  have h2 := ho.publish hnew
  have hle : VLe H (vadd H b o) := by
    intro k o' hk
    by_cases e : k = b
    · subst e
      have := (ho.foot k (by simp [feet, blk])).1
      rw [this] at hk; cases hk
    · simp [vadd, e, hk]
  exact h _ hle (vadd_self _ _ _) ρ w hm h2
/-- A new block, known to be new. -/
theorem KAn {mk : Nat → Value} {o : Obj} (hv : AllocOk P l op ty mk o) (hdn : Nat.blt d n = true)
    (h : ∀ b, c.w0.heap.size ≤ b → KO P n c ops Q rest ((d, mk b) :: l) (blk b o :: hl) H) : KO P n c ops Q (⟨some d, op, ty, pos, aft, none⟩ :: rest) l hl H := by
  intro ρ w hm ho
  have hs := ho.size
  refine wpList_plain rfl fun K hK => upon_wp (R := fun u w' => u = mk w.heap.size ∧ w' = w.alloc o) ?_ ?_
  · simp only [hv _ w hm.knows, Upon, and_self]
  · rintro u w' ⟨rfl, rfl⟩
    simp only [fr_put]
    exact hK _ _ (h _ hs _ _ (hm.put hdn _) (ho.alloc o))
theorem enterP {f : FuncId} {fn : Func} {body : Code} {n : Nat} {args : List Value} {post : Value → View → HL → Prop}
    (hf : P.funcs[f]? = some fn) (hb : fn.body = some body) (hnt : fn.ntmps = n) (hn : Nat.ble args.length n = true)
    (h : ∀ w0, (∀ x ∈ feet hl, x < w0.heap.size) → KC P n ⟨w0, H, feet hl⟩ body (bodyPost P fn (RS ⟨w0, H, feet hl⟩ post)) (args0 0 args) hl H) :
    SatO P f args.toArray H hl post := by
  intro w hw
  have key : SatO P f args.toArray H hl post → SatO P f args.toArray H hl post := id
  subst hnt
  have hn' := Nat.ble_eq.mp hn
  refine calls_of_wp hf hb ?_
  have key : ({ tmps := args.toArray ++ Array.replicate (fn.ntmps - args.toArray.size) undef, defers := [] } : Act) = fr fn.ntmps fun t => args.getD t undef := by
    simp only [fr, Act.mk.injEq, and_true]
    apply Array.ext
    · simp; omega
    · intro i h1 h2
      simp at h1 h2
      rw [Array.getElem_append]
      by_cases hi : i < args.length
      · simp [hi]
      · simp [hi]
  rw [key]
  refine h w (fun x hx => hw.lt hx) _ w ?_ hw.ok
  intro t v hv
  obtain ⟨_, h2⟩ := look_args0 args 0 t v hv
  simp at h2
  have : t < args.length := (List.getElem?_eq_some_iff.1 h2).1
  exact ⟨by omega, by simp [h2]⟩
theorem At.of {b : Nat} {cs : Array Value} {T : TypeId} {fz : Nat × Nat} (h : H b = some (.cells cs T fz)) : At H b 0 cs.toList := ⟨cs, T, fz, h, fun j v hj => by simpa using hj⟩
end rules

section
variable {P : Program} {n : Nat} {c : Cx} {l : KL} {hl : HL} {H : View}
theorem results_sel {fn : Func} {hl' : HL} (is : List Nat) (hs : sel is hl = some hl') {rs : List ResultVar} {vs : List Value} (hfn : fn.results = rs.toArray) {post : Value → View → HL → Prop} (h : resOk P l hl rs vs) (hp : post (tupV vs) H hl') :
    KQ n c (bodyPost P fn (RS c post)) .ret l hl H := by
  intro ρ w hm ho
  exact ⟨rfl, tupV vs, resOk.results hfn hm ho.hasL h, _, H, hl', rfl, ho.sel hs, hp⟩
end
theorem SatO.mono' {P : Program} {f : FuncId} {args : Array Value} {H : View} {p : HL} {post post' : Value → View → HL → Prop} (h : SatO P f args H p post) (hp : ∀ v H' q, post v H' q → post' v H' q) : SatO P f args H p post' :=
  fun w hw => Calls.mono (h w hw) fun _ _ ⟨v, H', q, h1, h2, h3⟩ => ⟨v, H', q, h1, h2, hp _ _ _ h3⟩
/-! ### All tuples, in their order -/
def ext (k : Nat) : Nat → List Int → List (List Int)
  | 0, xs => [xs]
  | m + 1, xs => (List.range k).flatMap fun (i : Nat) => ext k m (xs ++ [(i : Int)])
def extTo (k m : Nat) (xs : List Int) (i : Nat) : List (List Int) := (List.range i).flatMap fun (j : Nat) => ext k m (xs ++ [(j : Int)])
theorem extTo_succ (k m : Nat) (xs : List Int) (i : Nat) : extTo k m xs (i + 1) = extTo k m xs i ++ ext k m (xs ++ [(i : Int)]) := by
  unfold extTo
  rw [List.range_succ, List.flatMap_append]
  simp
theorem extTo_prefix {k m : Nat} {xs : List Int} {i j : Nat} (h : i ≤ j) : extTo k m xs i <+: extTo k m xs j := by
  induction h with
  | refl => exact List.prefix_refl _
  | step _ ih => rw [extTo_succ]; exact ih.trans (List.prefix_append _ _)
/-- What the function owes that is shown all tuples. -/
def VisitOk (P : Program) (gf : Nat) (cap : List Value) (H0 : View) (T : List (List Int)) (E : List (List Int) → HL → Prop) (F : HL → Prop) : Prop :=
  ∀ H pre xs a len cp p, xs.length = len → VLe H0 H → E pre p → (pre ++ [xs]) <+: T → SI H (.slice a len cp) xs → len ≤ cp →
    SatO P gf ([] ++ [Value.slice a len cp] ++ cap).toArray H p (fun v _ q => ∃ r : Bool, v = .bool r ∧ (r = true → E (pre ++ [xs]) q) ∧ (r = false → F q))
theorem SlAt.recap {H : View} {a : Option Addr} {k cap : Nat} {cells : List Value} (h : SlAt H (.slice a k cap) k cells) (cap' : Nat) : SlAt H (.slice a k cap') k cells := by
  obtain ⟨a', c', h1, h2⟩ := h
  cases h1
  exact ⟨a, cap', rfl, h2⟩
theorem SI.snoc {H : View} {a : Option Addr} {cp : Nat} {xs : List Int} {i : Nat} (hx : ∀ x ∈ xs, i64ok x) (hi : i ≤ 1099511627776) (h : SlAt H (.slice a (xs.length + 1) cp) (xs.length + 1) (ints xs ++ [.int .i64 (i : Int)])) :
    SI H (.slice a (xs.length + 1) cp) (xs ++ [(i : Int)]) := by
  refine ⟨by simpa [ints] using h, ?_⟩
  intro x hx'
  rcases List.mem_append.1 hx' with h1 | h1
  · exact hx x h1
  · simp at h1; subst h1; simp only [i64ok]; omega
theorem ext_prefix {k m i : Nat} {xs : List Int} {pre T : List (List Int)} (hi : i < k) (h : pre ++ ext k (m + 1) xs <+: T) : pre ++ extTo k m xs i ++ ext k m (xs ++ [(i : Int)]) <+: T := by
  refine List.IsPrefix.trans ?_ h
  rw [List.append_assoc, ← extTo_succ]
  exact (List.prefix_append_right_inj pre).2 (extTo_prefix (j := k) hi)
end Pal

/-
  Automata asx plain lists: what they are over a view, what is wrong with them. Own work. No statement of the seat is proved here.
-/
namespace Pal
open Go
structure Rl where
  sym : Int
  args : List Int
  to : Int
structure Au where
  ranks : List Int
  states : Int
  rules : List Rl
  final : List Int
def RepR (H : View) (r : Rl) (cs : List Value) : Prop := ∃ a cp, cs = [.int .i64 r.sym, .slice a r.args.length cp, .int .i64 r.to] ∧ SI H (.slice a r.args.length cp) r.args ∧ i64ok r.sym ∧ i64ok r.to ∧ r.args.length ≤ 1099511627776
theorem RepR.mono {H H' : View} {r : Rl} {cs : List Value} (h : RepR H r cs) (hle : VLe H H') : RepR H' r cs := by
  obtain ⟨a, cp, h1, h2, h3⟩ := h
  exact ⟨a, cp, h1, h2.mono hle, h3⟩
structure RepAu (H : View) (a : Au) (vr vu vf : Value) : Prop where
  r : SI H vr a.ranks
  u : ∃ cells, SlAt H vu a.rules.length cells ∧ RepL (RepR H) 3 a.rules cells
  f : SI H vf a.final
  s : i64ok a.states
  rl : a.ranks.length ≤ 1099511627776
  ul : a.rules.length ≤ 1099511627776
  fl : a.final.length ≤ 1099511627776
theorem RepAu.mono {H H' : View} {a : Au} {vr vu vf : Value} (h : RepAu H a vr vu vf) (hle : VLe H H') : RepAu H' a vr vu vf := by
  obtain ⟨cells, h1, h2⟩ := h.u
  exact ⟨h.r.mono hle, ⟨cells, h1.mono hle, h2.imp fun x cs hx => hx.mono hle⟩, h.f.mono hle, h.s, h.rl, h.ul, h.fl⟩
theorem At.one {H : View} {b off : Nat} {vs : List Value} {j : Nat} {v : Value} (h : At H b off vs) (hj : vs[j]? = some v) : At H b (off + j) [v] := by
  refine h.sub fun k u hk => ?_
  cases k with
  | zero => simp at hk; subst hk; simpa using hj
  | succ k => simp at hk
theorem RepAu.rule {H : View} {a : Au} {vr vu vf : Value} (h : RepAu H a vr vu vf) {i : Nat} (hi : i < a.rules.length) : ∃ b off cp ra rcp, vu = .slice (some ⟨b, off, none⟩) a.rules.length cp ∧
    At H b (off + i * 3) [.int .i64 a.rules[i].sym, .slice ra a.rules[i].args.length rcp, .int .i64 a.rules[i].to] ∧ SI H (.slice ra a.rules[i].args.length rcp) a.rules[i].args ∧ i64ok a.rules[i].sym ∧ i64ok a.rules[i].to ∧ a.rules[i].args.length ≤ 1099511627776 := by
  obtain ⟨cells, h1, h2⟩ := h.u
  obtain ⟨ua, ucp, rfl, h3⟩ := h1
  obtain ⟨b, off, cs, rfl, _, ⟨ra, rcp, rfl, h5⟩, h6⟩ := SlAt.elem ⟨ua, ucp, rfl, h3⟩ h2 hi rfl
  exact ⟨b, off, ucp, ra, rcp, rfl, h6, h5⟩
theorem RepAu.ushape {H : View} {a : Au} {vr vu vf : Value} (h : RepAu H a vr vu vf) : ∃ ua ucp, vu = .slice ua a.rules.length ucp := by
  obtain ⟨cells, ⟨ua, ucp, rfl, _⟩, _⟩ := h.u
  exact ⟨ua, ucp, rfl⟩

/-! ### What is wrong -/
def ranksErr (ranks : List Int) : Int :=
  if (ranks.length : Int) < 1 ∨ 4096 < (ranks.length : Int) then 2 else if (ranks.any fun x => decide (x < 0 ∨ 2 < x)) = true then 3 else if ¬ (0 : Int) ∈ ranks then 9 else 0
def badQ (n q : Int) : Bool := !decide (0 ≤ q ∧ q < n)
def ruleErr (a : Au) (r : Rl) : Int :=
  if r.sym < 0 ∨ (a.ranks.length : Int) ≤ r.sym then 6 else if (r.args.length : Int) ≠ a.ranks.getD r.sym.toNat 0 then 3 else if (r.args.any (badQ a.states) || badQ a.states r.to) = true then 2 else 0
def rulesErr (a : Au) : List Rl → Int
  | [] => 0
  | r :: rs => if ruleErr a r ≠ 0 then ruleErr a r else rulesErr a rs
def auErr (a : Au) : Int :=
  if ranksErr a.ranks ≠ 0 then ranksErr a.ranks else if a.states < 0 ∨ 256 < a.states ∨ 65536 < (a.rules.length : Int) then 2
  else if rulesErr a a.rules ≠ 0 then rulesErr a a.rules else if (a.final.any (badQ a.states)) = true then 2 else 0
theorem rulesErr_take {a : Au} {rs : List Rl} {k : Nat} (h : ∀ j (hj : j < rs.length), j < k → ruleErr a rs[j] = 0) (hk : k < rs.length) (he : ruleErr a rs[k] ≠ 0) : rulesErr a rs = ruleErr a rs[k] := by
  induction rs generalizing k with
  | nil => simp at hk
  | cons r rs ih =>
    cases k with
    | zero => simp only [rulesErr, List.getElem_cons_zero] at he ⊢; rw [if_pos he]
    | succ k =>
      have h0 := h 0 (by simp) (by omega)
      simp only [List.getElem_cons_zero] at h0
      simp only [rulesErr, h0, ne_eq, not_true_eq_false, if_false, List.getElem_cons_succ] at he ⊢
      exact ih (fun j hj hjk => h (j + 1) (by simp; omega) (by omega)) (by simpa using hk) he
theorem rulesErr_zero {a : Au} {rs : List Rl} (h : ∀ j (hj : j < rs.length), ruleErr a rs[j] = 0) : rulesErr a rs = 0 := by
  induction rs with
  | nil => rfl
  | cons r rs ih =>
    have h0 := h 0 (by simp)
    simp only [List.getElem_cons_zero] at h0
    simp only [rulesErr, h0, ne_eq, not_true_eq_false, if_false]
    exact ih fun j hj => h (j + 1) (by simp; omega)
end Pal

/-
  The subset construction asx a plain function, and its state over owned blocks. Own work. No statement of the seat is proved here.
-/
namespace Pal
open Go

/-! ### The plain function -/
structure DS where
  subs : List Nat
  res : List ((Int × Int × Int) × Int)
def rulesOf (a : Au) (sym : Int) : List Rl := a.rules.filter fun r => decide (r.sym = sym)
def hasB (s : Nat) (i : Int) : Bool := decide (0 ≤ i ∧ i < 1024) && s.testBit i.toNat
/-- The first k children fit. -/
def fitsTo (subs : List Nat) (args : List Int) (from' : List Int) : Nat → Bool
  | 0 => true
  | k + 1 => fitsTo subs args from' k && hasB (subs.getD (args.getD k 0).toNat 0) (from'.getD k 0)
def succTo (subs : List Nat) (args : List Int) (rs : List Rl) : Nat → Nat
  | 0 => 0
  | k + 1 => match rs[k]? with
    | some r => if fitsTo subs args r.args r.args.length = true then wth (succTo subs args rs k) r.to else succTo subs args rs k
    | none => succTo subs args rs k
def succM (a : Au) (subs : List Nat) (sym : Int) (args : List Int) : Nat := succTo subs args (rulesOf a sym) (rulesOf a sym).length
def keyM (sym : Int) (args : List Int) : Int × Int × Int := (sym, args.getD 0 0, args.getD 1 0)
def lookM (res : List ((Int × Int × Int) × Int)) (k : Int × Int × Int) : Option Int := (res.find? fun p => decide (p.1 = k)).map (·.2)
def numM (subs : List Nat) (s : Nat) : Option Int := if s ∈ subs then some (subs.idxOf s : Int) else none
def addM (a : Au) (limit : Int) (sym : Int) (st : DS) (args : List Int) : Option DS :=
  match lookM st.res (keyM sym args) with
  | some _ => some st
  | none => match numM st.subs (succM a st.subs sym args) with
    | some n => some ⟨st.subs, st.res ++ [(keyM sym args, n)]⟩
    | none => if (st.subs.length : Int) = limit then none else some ⟨st.subs ++ [succM a st.subs sym args], st.res ++ [(keyM sym args, (st.subs.length : Int))]⟩
def addsM (a : Au) (limit sym : Int) : List (List Int) → DS → Option DS
  | [], st => some st
  | x :: xs, st => (addM a limit sym st x).bind (addsM a limit sym xs)
theorem addsM_append (a : Au) (limit sym : Int) : ∀ (xs ys : List (List Int)) (st : DS), addsM a limit sym (xs ++ ys) st = (addsM a limit sym xs st).bind (addsM a limit sym ys)
  | [], ys, st => rfl
  | x :: xs, ys, st => by
    simp only [List.cons_append, addsM]
    cases addM a limit sym st x with
    | none => rfl
    | some st' => simpa using addsM_append a limit sym xs ys st'
/-- One round over the symbols, each with its rank. -/
def roundM (a : Au) (limit : Int) (was : Nat) : List Int → Int → DS → Option DS
  | [], _, st => some st
  | r :: rs, sym, st => (addsM a limit sym (ext was r.toNat []) st).bind (roundM a limit was rs (sym + 1))
def buildM (a : Au) (limit : Int) : Nat → DS → Option DS
  | 0, _ => none
  | f + 1, st => (roundM a limit st.subs.length a.ranks 0 st).bind fun st' => if st'.subs.length = st.subs.length then some st' else buildM a limit f st'
/-- What holds of a state. -/
structure DS.Inv (limit : Int) (st : DS) : Prop where
  nd : st.subs.Nodup
  bg : ∀ s ∈ st.subs, s < big
  rn : (st.res.map (·.1)).Nodup
  rk : ∀ p ∈ st.res, i64ok p.1.1 ∧ i64ok p.1.2.1 ∧ i64ok p.1.2.2
  rv : ∀ p ∈ st.res, 0 ≤ p.2 ∧ p.2 < st.subs.length
  le : (st.subs.length : Int) ≤ limit

theorem wth_big {s : Nat} (i : Int) (h : s < big) : wth s i < big := by
  unfold wth
  split
  · exact or_big h (by omega)
  · exact h
theorem succTo_big (subs : List Nat) (args : List Int) (rs : List Rl) : ∀ k, succTo subs args rs k < big
  | 0 => zero_big
  | k + 1 => by
    unfold succTo
    have ih := succTo_big subs args rs k
    split
    · split
      · exact wth_big _ ih
      · exact ih
    · exact ih
theorem numM_lt {subs : List Nat} {s : Nat} {n : Int} (h : numM subs s = some n) : 0 ≤ n ∧ n < subs.length := by
  unfold numM at h
  split at h
  · rename_i hm
    have := List.idxOf_lt_length_iff.2 hm
    cases h
    omega
  · cases h
theorem nodup_map_inj {α β : Type} {f : α → β} {l : List α} (hn : (l.map f).Nodup) {p q : α} (hp : p ∈ l) (hq : q ∈ l) (h : f p = f q) : p = q := by
  induction l with
  | nil => cases hp
  | cons x r ih =>
    simp only [List.map_cons, List.nodup_cons] at hn
    rcases List.mem_cons.1 hp with rfl | hp'
    · rcases List.mem_cons.1 hq with rfl | hq'
      · rfl
      · exact absurd (List.mem_map.2 ⟨q, hq', h.symm⟩) hn.1
    · rcases List.mem_cons.1 hq with rfl | hq'
      · exact absurd (List.mem_map.2 ⟨p, hp', h⟩) hn.1
      · exact ih hn.2 hp' hq'
theorem lookM_none {res : List ((Int × Int × Int) × Int)} {k : Int × Int × Int} (h : lookM res k = none) : ∀ p ∈ res, p.1 ≠ k := by
  unfold lookM at h
  simp only [Option.map_eq_none_iff, List.find?_eq_none, decide_eq_true_eq] at h
  exact h
theorem lookM_some {res : List ((Int × Int × Int) × Int)} {k : Int × Int × Int} {n : Int} (hn : (res.map (·.1)).Nodup) (h : lookM res k = some n) : (∃ p ∈ res, p.1 = k) ∧ ∀ p ∈ res, p.1 = k → p.2 = n := by
  unfold lookM at h
  simp only [Option.map_eq_some_iff] at h
  obtain ⟨q, hq, rfl⟩ := h
  have hm := List.mem_of_find?_eq_some hq
  have hk := List.find?_some hq
  simp only [decide_eq_true_eq] at hk
  refine ⟨⟨q, hm, hk⟩, fun p hp hpk => ?_⟩
  have : p = q := nodup_map_inj hn hp hm (hpk.trans hk.symm)
  rw [this]
theorem keyM_ok {sym : Int} {args : List Int} (hs : i64ok sym) (ha : ∀ x ∈ args, i64ok x) : i64ok (keyM sym args).1 ∧ i64ok (keyM sym args).2.1 ∧ i64ok (keyM sym args).2.2 := by
  have h0 : i64ok 0 := by simp [i64ok]
  refine ⟨hs, ?_, ?_⟩
  · show i64ok (args.getD 0 0)
    rcases args with _ | ⟨x, xs⟩
    · exact h0
    · exact ha _ (by simp)
  · show i64ok (args.getD 1 0)
    rcases args with _ | ⟨x, _ | ⟨y, ys⟩⟩
    · exact h0
    · exact h0
    · exact ha _ (by simp)
theorem addM_inv {a : Au} {limit sym : Int} {st st' : DS} {args : List Int} (h : st.Inv limit) (hs : i64ok sym) (ha : ∀ x ∈ args, i64ok x) (he : addM a limit sym st args = some st') : st'.Inv limit := by
  unfold addM at he
  split at he
  · cases he; exact h
  · rename_i hl
    have hno := lookM_none hl
    have hk := keyM_ok hs ha
    have hrn : ∀ n : Int, ((st.res ++ [(keyM sym args, n)]).map (·.1)).Nodup := by
      intro n
      rw [List.map_append, List.nodup_append]
      refine ⟨h.rn, by simp, ?_⟩
      intro x hx y hy
      simp at hy
      subst hy
      obtain ⟨p, hp, rfl⟩ := List.mem_map.1 hx
      exact hno p hp
    split at he
    · rename_i n hn
      cases he
      refine ⟨h.nd, h.bg, hrn n, ?_, ?_, h.le⟩
      · intro p hp
        rcases List.mem_append.1 hp with hp | hp
        · exact h.rk p hp
        · simp at hp; subst hp; exact hk
      · intro p hp
        rcases List.mem_append.1 hp with hp | hp
        · exact h.rv p hp
        · simp at hp; subst hp; exact numM_lt hn
    · rename_i hn
      split at he
      · cases he
      · rename_i hne
        cases he
        have hnm : succM a st.subs sym args ∉ st.subs := by
          unfold numM at hn
          split at hn
          · cases hn
          · assumption
        have hle := h.le
        refine ⟨?_, ?_, hrn _, ?_, ?_, ?_⟩
        · rw [List.nodup_append]
          refine ⟨h.nd, by simp, ?_⟩
          intro x hx y hy e
          simp at hy
          subst hy; subst e
          exact hnm hx
        · intro s hs
          rcases List.mem_append.1 hs with hs | hs
          · exact h.bg s hs
          · simp at hs; subst hs; exact succTo_big _ _ _ _
        · intro p hp
          rcases List.mem_append.1 hp with hp | hp
          · exact h.rk p hp
          · simp at hp; subst hp; exact hk
        · intro p hp
          simp only [List.length_append, List.length_cons, List.length_nil]
          rcases List.mem_append.1 hp with hp | hp
          · have := h.rv p hp; omega
          · simp at hp; subst hp; exact ⟨by simp, by simp; omega⟩
        · simp only [List.length_append, List.length_cons, List.length_nil]
          omega
theorem addM_le {a : Au} {limit sym : Int} {st st' : DS} {args : List Int} (he : addM a limit sym st args = some st') : st.subs.length ≤ st'.subs.length := by
  unfold addM at he
  split at he
  · cases he; exact Nat.le_refl _
  · split at he
    · cases he; exact Nat.le_refl _
    · split at he
      · cases he
      · cases he; simp

/-! ### The state over owned blocks -/
def keyV (k : Int × Int × Int) : Value := .agg #[.int .i64 k.1, .int .i64 k.2.1, .int .i64 k.2.2]
def numKV (subs : List Nat) : List (Value × Value) := subs.zipIdx.map fun p => (setV p.1, .int .i64 (p.2 : Int))
def resKV (res : List ((Int × Int × Int) × Int)) : List (Value × Value) := res.map fun p => (keyV p.1, .int .i64 p.2)
def subCells (subs : List Nat) : List Value := subs.flatMap setL
theorem subCells_get {subs : List Nat} {i : Nat} (hi : i < subs.length) : ((subCells subs).drop (i * 16)).take 16 = setL subs[i] := by
  unfold subCells
  induction subs generalizing i with
  | nil => simp at hi
  | cons s r ih =>
    cases i with
    | zero =>
      simp only [List.flatMap_cons, Nat.zero_mul, List.drop_zero, List.getElem_cons_zero]
      rw [← setL_len s]; exact List.take_left
    | succ i =>
      have e : (i + 1) * 16 = 16 + i * 16 := by omega
      rw [e, ← List.drop_drop, List.flatMap_cons]
      have : List.drop 16 (setL s ++ r.flatMap setL) = r.flatMap setL := by
        rw [← setL_len s]; exact List.drop_left
      rw [this]
      simpa using ih (by simpa using hi)
theorem keyV_inj {k k' : Int × Int × Int} (h : keyV k = keyV k') : k = k' := by
  obtain ⟨a, b, d⟩ := k
  obtain ⟨a', b', d'⟩ := k'
  simp [keyV] at h
  obtain ⟨rfl, rfl, rfl⟩ := h
  rfl
theorem numKV_opt {subs : List Nat} (hn : subs.Nodup) (hb : ∀ s ∈ subs, s < big) {s : Nat} (hs : s < big) : optOk (numKV subs) (setV s) (numM subs s) := by
  unfold numM
  split
  · rename_i hm
    have hi := List.idxOf_lt_length_iff.2 hm
    have hg : subs[subs.idxOf s] = s := List.getElem_idxOf hi
    refine ⟨⟨(setV s, .int .i64 (subs.idxOf s : Int)), List.mem_map.2 ⟨(s, subs.idxOf s), ?_, rfl⟩, rfl⟩, ?_⟩
    · rw [List.mem_zipIdx_iff_getElem?]
      simp [hi, hg]
    · intro p hp hk
      obtain ⟨q, hq, rfl⟩ := List.mem_map.1 hp
      rw [List.mem_zipIdx_iff_getElem?] at hq
      obtain ⟨hq1, hq2⟩ := List.getElem?_eq_some_iff.1 hq
      have hqs : q.1 = s := setV_inj (hb _ (hq2 ▸ List.getElem_mem hq1)) hs hk
      have : q.2 = subs.idxOf s := by
        rw [← hqs, ← hq2]
        exact (List.Nodup.idxOf_getElem hn _ hq1).symm
      rw [this]
  · rename_i hm
    intro p hp hk
    obtain ⟨q, hq, rfl⟩ := List.mem_map.1 hp
    rw [List.mem_zipIdx_iff_getElem?] at hq
    obtain ⟨hq1, hq2⟩ := List.getElem?_eq_some_iff.1 hq
    have hqm : q.1 ∈ subs := hq2 ▸ List.getElem_mem hq1
    exact hm (setV_inj (hb _ hqm) hs hk ▸ hqm)
theorem resKV_opt {res : List ((Int × Int × Int) × Int)} (hn : (res.map (·.1)).Nodup) (k : Int × Int × Int) : optOk (resKV res) (keyV k) (lookM res k) := by
  cases h : lookM res k with
  | none =>
    intro p hp hk
    obtain ⟨q, hq, rfl⟩ := List.mem_map.1 hp
    exact lookM_none h q hq (keyV_inj hk)
  | some n =>
    obtain ⟨⟨q, hq, hqk⟩, h2⟩ := lookM_some hn h
    refine ⟨⟨_, List.mem_map.2 ⟨q, hq, rfl⟩, by rw [hqk]⟩, ?_⟩
    intro p hp hk
    obtain ⟨q', hq', rfl⟩ := List.mem_map.1 hp
    show Value.int .i64 q'.2 = .int .i64 n
    rw [h2 q' hq' (keyV_inj hk)]
theorem numKV_snoc (subs : List Nat) (s : Nat) : numKV (subs ++ [s]) = numKV subs ++ [(setV s, .int .i64 (subs.length : Int))] := by
  unfold numKV
  rw [List.zipIdx_append]
  simp
theorem resKV_snoc (res : List ((Int × Int × Int) × Int)) (k : Int × Int × Int) (n : Int) : resKV (res ++ [(k, n)]) = resKV res ++ [(keyV k, .int .i64 n)] := by simp [resKV]
theorem subCells_snoc (subs : List Nat) (s : Nat) : subCells (subs ++ [s]) = subCells subs ++ setL s := by simp [subCells]
def subsV (v : Value) (n : Nat) : Prop := (v = nilS ∧ n = 0) ∨ ∃ g cap, v = .slice (some ⟨g, 0, none⟩) n cap
/-- The builder's block B, its two maps, its subsets. -/
def BE (tb ts : TypeId) (B m1 m2 : Nat) (a : Au) (vr vu vf vrules : Value) (st : DS) (q : HL) : Prop :=
  ∃ vsub, subsV vsub st.subs.length ∧ q = [blk B (.cells #[vr, .int .i64 a.states, vu, vf, vrules, mp m1, vsub, mp m2] tb (0, 0)), mapO m1 (numKV st.subs), row vsub ts 16 st.subs.length (subCells st.subs), mapO m2 (resKV st.res)]

section rules
variable {P : Program} {n : Nat} {c : Cx} {Q : Exit → Act → World → Prop} {l : KL} {hl : HL} {H : View}
theorem KQ_rowshape {x : Exit} {v : Value} {e : TypeId} {sz k : Nat} {xs : List Value} (i : Nat) (hi : hl[i]? = some (row v e sz k xs)) (h : subsV v k → KQ n c Q x l hl H) : KQ n c Q x l hl H := by
  intro ρ w hm ho
  refine h ?_ ρ w hm ho
  obtain ⟨_, h2⟩ := ho.own _ (List.mem_of_getElem? hi)
  rcases h2 with ⟨h2, h3⟩ | ⟨g, cap, cur, h2, _⟩
  · exact .inl ⟨h2, h3⟩
  · exact .inr ⟨g, cap, h2⟩
/-- Keys that are three numbers. -/
structure TriT (P : Program) (t e : TypeId) : Prop where
  us : ∃ f1 f2 f3 : Field, P.underlying t = some (.struct #[f1, f2, f3]) ∧ (f1.name ≠ "_" ∧ f1.type = e ∧ f1.offset = 0) ∧ (f2.name ≠ "_" ∧ f2.type = e ∧ f2.offset = 1) ∧ (f3.name ≠ "_" ∧ f3.type = e ∧ f3.offset = 2)
  ue : P.underlying e = some (.int .i64)
  ct : P.cellsOf t = 3
  ce : P.cellsOf e = 1
  kt : P.keyType t = true
  law : WideMaps.KeyLaw P t
  nt : ∃ m, P.types.size = m + 1
theorem wf_i64 {x : Int} (h : i64ok x) : (Lit.int .i64 x).wf = true := by
  simp only [i64ok] at h
  simp [Lit.wf, IntKind.min, IntKind.max, IntKind.bits, IntKind.signed]
  omega
theorem TriT.key {t e : TypeId} (h : TriT P t e) {k : Int × Int × Int} (hk : i64ok k.1 ∧ i64ok k.2.1 ∧ i64ok k.2.2) : ∃ l, keyOf P t (keyV k) = some l := by
  obtain ⟨f1, f2, f3, hu, ⟨n1, t1, o1⟩, ⟨n2, t2, o2⟩, ⟨n3, t3, o3⟩⟩ := h.us
  obtain ⟨m, hm⟩ := h.nt
  have he : ∀ (d : Nat) (x : Int), i64ok x → P.keyLits (d + 1) e [.int .i64 x] = some [.int .i64 x] := by
    intro d x hx
    simp [Program.keyLits, h.ue, wf_i64 hx]
  have hl : P.keyLits (m + 2) t [.int .i64 k.1, .int .i64 k.2.1, .int .i64 k.2.2] = some [.int .i64 k.1, .int .i64 k.2.1, .int .i64 k.2.2] := by
    unfold Program.keyLits
    rw [hu]
    simp [h.ct, h.ce, t1, t2, t3, o1, o2, o3, n1, n2, n3, he m _ hk.1, he m _ hk.2.1, he m _ hk.2.2]
  refine ⟨.string (keyBytes [.int .i64 k.1, .int .i64 k.2.1, .int .i64 k.2.2]), ?_⟩
  unfold keyOf
  rw [hu, hm]
  have hf : (keyV k).formed P t = true := by simp [Value.formed, keyV, hu, h.ct]
  have hc : (keyV k).cells.toList = [.int .i64 k.1, .int .i64 k.2.1, .int .i64 k.2.2] := rfl
  rw [hc, hl]
  simp [h.kt, hf]
end rules
/-- The rules by their symbol. -/
def RepBy (H : View) (a : Au) (v : Value) : Prop := ∃ b off cp, v = .slice (some ⟨b, off, none⟩) a.ranks.length cp ∧
  ∀ s, s < a.ranks.length → ∃ ua ucp cells, At H b (off + s * 1) [.slice ua (rulesOf a s).length ucp] ∧ SlAt H (.slice ua (rulesOf a s).length ucp) (rulesOf a s).length cells ∧ RepL (RepR H) 3 (rulesOf a s) cells
theorem RepBy.mono {H H' : View} {a : Au} {v : Value} (h : RepBy H a v) (hle : VLe H H') : RepBy H' a v := by
  obtain ⟨b, off, cp, h1, h2⟩ := h
  refine ⟨b, off, cp, h1, fun s hs => ?_⟩
  obtain ⟨ua, ucp, cells, h3, h4, h5⟩ := h2 s hs
  exact ⟨ua, ucp, cells, h3.mono hle, h4.mono hle, h5.imp fun x cs hx => hx.mono hle⟩
theorem rules_elem {H : View} {ua : Option Addr} {ucp : Nat} {rs : List Rl} {cells : List Value} (h1 : SlAt H (.slice ua rs.length ucp) rs.length cells) (h2 : RepL (RepR H) 3 rs cells) {i : Nat} (hi : i < rs.length) : ∃ b off ra rcp, ua = some ⟨b, off, none⟩ ∧
    At H b (off + i * 3) [.int .i64 rs[i].sym, .slice ra rs[i].args.length rcp, .int .i64 rs[i].to] ∧ SI H (.slice ra rs[i].args.length rcp) rs[i].args ∧ i64ok rs[i].sym ∧ i64ok rs[i].to ∧ rs[i].args.length ≤ 1099511627776 := by
  obtain ⟨b, off, cs, rfl, _, ⟨ra, rcp, rfl, h5⟩, h6⟩ := SlAt.elem h1 h2 hi rfl
  exact ⟨b, off, ra, rcp, rfl, h6, h5⟩
theorem RepR.imp3 {H H' : View} (hle : VLe H H') {rs : List Rl} {cells : List Value} (h : RepL (RepR H) 3 rs cells) : RepL (RepR H') 3 rs cells := h.imp fun _ _ hx => hx.mono hle
theorem fitsTo_false {subs : List Nat} {args fr : List Int} {k : Nat} (h : fitsTo subs args fr k = false) : fitsTo subs args fr (k + 1) = false := by simp [fitsTo, h]
theorem fitsTo_true {subs : List Nat} {args fr : List Int} {k : Nat} (h : fitsTo subs args fr k = true) (ha : k < args.length) (hf : k < fr.length) (hi : args[k].toNat < subs.length) :
    fitsTo subs args fr (k + 1) = (decide (0 ≤ fr[k] ∧ fr[k] < 1024) && subs[args[k].toNat].testBit fr[k].toNat) := by
  simp [fitsTo, h, hasB, List.getD, ha, hf, hi]
theorem succTo_yes {subs : List Nat} {args : List Int} {rs : List Rl} {k : Nat} (hk : k < rs.length) (h : fitsTo subs args rs[k].args rs[k].args.length = true) : succTo subs args rs (k + 1) = wth (succTo subs args rs k) rs[k].to := by
  simp [succTo, hk, h]
theorem succTo_no {subs : List Nat} {args : List Int} {rs : List Rl} {k : Nat} (hk : k < rs.length) (h : fitsTo subs args rs[k].args rs[k].args.length = false) : succTo subs args rs (k + 1) = succTo subs args rs k := by
  simp [succTo, hk, h]
theorem numKV_keys {P : Program} {t e : TypeId} (h : SetT P t e) (subs : List Nat) : ∀ p ∈ numKV subs, ∃ l, keyOf P t p.1 = some l := by
  intro p hp
  obtain ⟨q, _, rfl⟩ := List.mem_map.1 hp
  exact h.key q.1
theorem resKV_keys {P : Program} {t e : TypeId} (h : TriT P t e) {res : List ((Int × Int × Int) × Int)} (hr : ∀ p ∈ res, i64ok p.1.1 ∧ i64ok p.1.2.1 ∧ i64ok p.1.2.2) : ∀ p ∈ resKV res, ∃ l, keyOf P t p.1 = some l := by
  intro p hp
  obtain ⟨q, hq, rfl⟩ := List.mem_map.1 hp
  exact h.key (hr q hq)
theorem subsV.shape {v : Value} {n : Nat} (h : subsV v n) : ∃ a cp, v = .slice a n cp := by
  rcases h with ⟨rfl, rfl⟩ | ⟨g, cap, rfl⟩
  · exact ⟨none, 0, rfl⟩
  · exact ⟨_, cap, rfl⟩
theorem ext_mem {k : Nat} : ∀ {m : Nat} {ys xs : List Int}, xs ∈ ext k m ys → ∃ zs, xs = ys ++ zs ∧ zs.length = m ∧ ∀ z ∈ zs, 0 ≤ z ∧ z < (k : Int)
  | 0, ys, xs, h => by
    simp only [ext, List.mem_singleton] at h
    exact ⟨[], by simp [h], rfl, by simp⟩
  | m + 1, ys, xs, h => by
    simp only [ext, List.mem_flatMap, List.mem_range] at h
    obtain ⟨i, hi, h⟩ := h
    obtain ⟨zs, rfl, h1, h2⟩ := ext_mem h
    refine ⟨(i : Int) :: zs, by simp, by simp [h1], ?_⟩
    intro z hz
    rcases List.mem_cons.1 hz with rfl | hz
    · omega
    · exact h2 z hz
/-! ### What a right automaton keeps -/
structure AuOk (a : Au) : Prop where
  rl : 1 ≤ a.ranks.length ∧ a.ranks.length ≤ 4096
  rk : ∀ s (h : s < a.ranks.length), 0 ≤ a.ranks[s] ∧ a.ranks[s] ≤ 2
  st : 0 ≤ a.states ∧ a.states ≤ 256
  ul : a.rules.length ≤ 65536
  ru : ∀ r ∈ a.rules, 0 ≤ r.sym ∧ r.sym < a.ranks.length ∧ (r.args.length : Int) = a.ranks.getD r.sym.toNat 0 ∧ (∀ q ∈ r.args, 0 ≤ q ∧ q < a.states) ∧ 0 ≤ r.to ∧ r.to < a.states
  fi : ∀ q ∈ a.final, 0 ≤ q ∧ q < a.states
theorem badQ_false {n q : Int} (h : badQ n q = false) : 0 ≤ q ∧ q < n := by
  simpa [badQ] using h
theorem rulesErr_all {a : Au} : ∀ {rs : List Rl}, rulesErr a rs = 0 → ∀ r ∈ rs, ruleErr a r = 0
  | [], _, r, hr => by cases hr
  | x :: rs, h, r, hr => by
    simp only [rulesErr] at h
    by_cases h0 : ruleErr a x ≠ 0
    · rw [if_pos h0] at h; exact absurd h h0
    · rw [if_neg h0] at h
      rcases List.mem_cons.1 hr with rfl | hr
      · exact Decidable.not_not.1 h0
      · exact rulesErr_all h r hr
theorem AuOk.of {a : Au} (h : auErr a = 0) : AuOk a := by
  unfold auErr at h
  split at h
  · rename_i h0; exact absurd h h0
  rename_i h0
  have h0 : ranksErr a.ranks = 0 := Decidable.not_not.1 h0
  split at h
  · cases h
  rename_i h1
  split at h
  · rename_i h2; exact absurd h h2
  rename_i h2
  have h2 : rulesErr a a.rules = 0 := Decidable.not_not.1 h2
  split at h
  · cases h
  rename_i h3
  unfold ranksErr at h0
  split at h0
  · cases h0
  rename_i r1
  split at h0
  · cases h0
  rename_i r2
  refine ⟨by omega, ?_, by omega, by omega, ?_, ?_⟩
  · intro s hs
    have : ¬ ∃ x ∈ a.ranks, decide (x < 0 ∨ 2 < x) = true := fun ⟨x, hx, h⟩ => r2 (List.any_eq_true.2 ⟨x, hx, h⟩)
    have h5 : ¬ (a.ranks[s] < 0 ∨ 2 < a.ranks[s]) := fun h => this ⟨_, List.getElem_mem hs, by simpa using h⟩
    omega
  · intro r hr
    have h4 := rulesErr_all h2 r hr
    unfold ruleErr at h4
    split at h4
    · cases h4
    rename_i s1
    split at h4
    · cases h4
    rename_i s2
    split at h4
    · cases h4
    rename_i s3
    simp only [Bool.or_eq_true, not_or, Bool.not_eq_true] at s3
    have h6 : ∀ q ∈ r.args, badQ a.states q = false := by
      intro q hq
      have := s3.1
      rw [List.any_eq_false] at this
      simpa using this q hq
    have h7 := badQ_false s3.2
    exact ⟨by omega, by omega, Decidable.not_not.1 s2, fun q hq => badQ_false (h6 q hq), h7⟩
  · intro q hq
    have : a.final.any (badQ a.states) = false := by simpa using h3
    rw [List.any_eq_false] at this
    exact badQ_false (by simpa using this q hq)
theorem rulesOf_mem {a : Au} {s : Int} {r : Rl} (h : r ∈ rulesOf a s) : r ∈ a.rules ∧ r.sym = s := by
  simpa [rulesOf] using h
theorem addsM_inv {a : Au} {limit sym : Int} (hs : i64ok sym) : ∀ {xs : List (List Int)} {st st' : DS}, (∀ x ∈ xs, ∀ y ∈ x, i64ok y) → st.Inv limit → addsM a limit sym xs st = some st' → st'.Inv limit ∧ st.subs.length ≤ st'.subs.length
  | [], st, st', _, h, he => by cases he; exact ⟨h, Nat.le_refl _⟩
  | x :: xs, st, st', hx, h, he => by
    simp only [addsM, Option.bind_eq_some_iff] at he
    obtain ⟨st1, h1, h2⟩ := he
    have h3 := addM_inv h hs (hx x (by simp)) h1
    obtain ⟨h4, h5⟩ := addsM_inv hs (fun y hy => hx y (by simp [hy])) h3 h2
    exact ⟨h4, Nat.le_trans (addM_le h1) h5⟩
end Pal

/-
  A family of owned rows whose heads stand in one block. Own work. No statement of the seat is proved here.
-/
namespace Pal
open Go
abbrev Fam := Nat → Value × Nat × List Value
def rowsF (e : TypeId) (sz : Nat) (f : Fam) (n : Nat) : HL := (List.range n).map fun s => row (f s).1 e sz (f s).2.1 (f s).2.2
def upd1 (f : Fam) (s : Nat) (x : Value × Nat × List Value) : Fam := fun t => if t = s then x else f t
theorem rowsF_get {e : TypeId} {sz : Nat} {f : Fam} {n s : Nat} (h : s < n) : (rowsF e sz f n)[s]? = some (row (f s).1 e sz (f s).2.1 (f s).2.2) := by
  simp [rowsF, h]
theorem rowsF_set {e : TypeId} {sz : Nat} {f : Fam} {n s : Nat} (h : s < n) (x : Value × Nat × List Value) : (rowsF e sz f n).set s (row x.1 e sz x.2.1 x.2.2) = rowsF e sz (upd1 f s x) n := by
  apply List.ext_getElem?
  intro i
  rw [List.getElem?_set]
  by_cases hi : i < n
  · rw [rowsF_get hi]
    by_cases e : s = i
    · subst e; simp [rowsF, h, upd1]
    · rw [if_neg e, rowsF_get hi]
      have : ¬ i = s := fun h => e h.symm
      simp [upd1, this]
  · have h1 : (rowsF e sz (upd1 f s x) n)[i]? = none := by simp [rowsF, hi]
    have h2 : (rowsF e sz f n)[i]? = none := by simp [rowsF, hi]
    rw [h1]
    have e : ¬ s = i := by omega
    rw [if_neg e, h2]
def headsF (f : Fam) (n : Nat) : Array Value := ((List.range n).map fun s => (f s).1).toArray
theorem headsF_size (f : Fam) (n : Nat) : (headsF f n).size = n := by simp [headsF]
theorem headsF_get {f : Fam} {n s off : Nat} (ho : off = s) (h : s < n) : (headsF f n)[off]? = some (f s).1 := by
  subst ho; simp [headsF, h]
theorem headsF_put {f : Fam} {n s off : Nat} {a : Option Addr} {k cap m : Nat} {cs : List Value} (ho : off = s) (h : s < n) :
    putCells (headsF f n) off (Value.slice a k cap).cells.toList = headsF (upd1 f s (.slice a k cap, m, cs)) n := by
  subst ho
  show (putL (headsF f n).toList off [Value.slice a k cap]).toArray = _
  unfold headsF putL
  congr 1
  apply List.ext_getElem?
  intro i
  rcases Nat.lt_trichotomy i off with hi | hi | hi
  · have h1 : i < n := by omega
    have h2 : ¬ i = off := by omega
    rw [List.append_assoc, List.getElem?_append_left (by simp; omega), List.getElem?_take_of_lt hi]
    simp [h1, upd1, h2]
  · subst hi
    rw [List.append_assoc, List.getElem?_append_right (by rw [List.length_take]; exact Nat.min_le_left _ _)]
    simp [h, upd1, Nat.min_eq_left (Nat.le_of_lt h)]
  · rw [List.getElem?_append_right (by simp; omega), List.getElem?_drop]
    have h2 : ¬ i = off := by omega
    simp only [List.length_append, List.length_take, List.length_map, List.length_range, List.length_cons, List.length_nil]
    rw [show off + (0 + 1) + (i - (min off n + (0 + 1))) = i by omega]
    by_cases h1 : i < n
    · simp [h1, upd1, h2]
    · simp [h1]
def nilF : Fam := fun _ => (nilS, 0, [])
section rules
variable {P : Program} {n : Nat} {c : Cx} {Q : Exit → Act → World → Prop} {l : KL} {hl : HL} {H : View}
variable {ops : Array Oper} {rest : List Oper} {d : Nat} {v : Value} {op : Op} {ty : TypeId} {pos : String} {aft : Array Edge}
theorem KQ_perm {x : Exit} (hl' : HL) (hp : hl.Perm hl') (h : KQ n c Q x l hl' H) : KQ n c Q x l hl H := fun ρ w hm ho => h ρ w hm (ho.perm hp)
theorem Ok.nilrows {w : World} (e : TypeId) (sz : Nat) (ho : Ok c w H hl) : ∀ m, Ok c w H (hl ++ rowsF e sz nilF m)
  | 0 => by simpa [rowsF] using ho
  | m + 1 => by
    have h1 := (Ok.nilrows e sz ho m).nilrow e sz
    refine h1.perm ?_
    have : rowsF e sz nilF (m + 1) = rowsF e sz nilF m ++ [row nilS e sz 0 []] := by
      unfold rowsF
      rw [List.range_succ, List.map_append]; rfl
    rw [this, ← List.append_assoc]
    exact (List.perm_append_comm (l₁ := [row nilS e sz 0 []]))
theorem KQ_nilrows {x : Exit} (e : TypeId) (sz m : Nat) (h : KQ n c Q x l (hl ++ rowsF e sz nilF m) H) : KQ n c Q x l hl H := fun ρ w hm ho => h ρ w hm (ho.nilrows e sz m)
theorem Ok.pubrows {w : World} {e : TypeId} {sz : Nat} {f : Fam} (hc : c.pass = []) : ∀ {m : Nat} {H : View}, Ok c w H (hl ++ rowsF e sz f m) → ∃ H', VLe H H' ∧ (∀ s, s < m → rowAt H' (f s).1 (f s).2.1 (f s).2.2) ∧ Ok c w H' hl
  | 0, H, ho => ⟨H, VLe.refl H, fun s hs => absurd hs (Nat.not_lt_zero _), by simpa [rowsF] using ho⟩
  | m + 1, H, ho => by
    have e1 : rowsF e sz f (m + 1) = rowsF e sz f m ++ [row (f m).1 e sz (f m).2.1 (f m).2.2] := by
      unfold rowsF
      rw [List.range_succ, List.map_append]; rfl
    rw [e1, ← List.append_assoc] at ho
    have ho2 := ho.perm (List.perm_append_comm (l₂ := [row (f m).1 e sz (f m).2.1 (f m).2.2]))
    obtain ⟨H1, h1, h2, h3⟩ := Ok.pubrow ho2 (by rw [hc]; simp)
    obtain ⟨H2, h4, h5, h6⟩ := Ok.pubrows hc h3
    refine ⟨H2, h1.trans h4, fun s hs => ?_, h6⟩
    by_cases e0 : s = m
    · subst e0
      rcases h2 with ⟨g1, g2, g3⟩ | ⟨g, cap, g1, g2⟩
      · exact .inl ⟨g1, g2, g3⟩
      · exact .inr ⟨g, cap, g1, g2.mono h4⟩
    · exact h5 s (by omega)
theorem KQ_pubrows {x : Exit} {e : TypeId} {sz : Nat} {f : Fam} {m : Nat} (hc : c.pass = []) (h : ∀ H', VLe H H' → (∀ s, s < m → rowAt H' (f s).1 (f s).2.1 (f s).2.2) → KQ n c Q x l hl H') : KQ n c Q x l (hl ++ rowsF e sz f m) H := by
  intro ρ w hm ho
  obtain ⟨H', h1, h2, h3⟩ := Ok.pubrows hc ho
  exact h H' h1 h2 ρ w hm h3
theorem KC_own {code : Code} (hl' : HL) (hp : List.Sublist hl' hl) (h : KC P n c code Q l hl' H) : KC P n c code Q l hl H := fun ρ w hm ho => h ρ w hm (ho.sublist hp)
theorem KC_pubnew {code : Code} {b : Nat} {o : Obj} (hnew : b ∉ c.pass) (h : ∀ H', VLe H H' → H' b = some o → KC P n c code Q l hl H') : KC P n c code Q l (blk b o :: hl) H := by
  intro ρ w hm ho
  have h2 := ho.publish hnew
  have hle : VLe H (vadd H b o) := by
    intro k o' hk
    by_cases e : k = b
    · subst e
      have := (ho.foot k (by simp [feet, blk])).1
      rw [this] at hk; cases hk
    · simp [vadd, e, hk]
  exact h _ hle (vadd_self _ _ _) ρ w hm h2
theorem KO_pubnew {b : Nat} {o : Obj} (hnew : b ∉ c.pass) (h : ∀ H', VLe H H' → H' b = some o → KO P n c ops Q rest l hl H') : KO P n c ops Q rest l (blk b o :: hl) H := by
  intro ρ w hm ho
  have h2 := ho.publish hnew
  have hle : VLe H (vadd H b o) := by
    intro k o' hk
    by_cases e : k = b
    · subst e
      have := (ho.foot k (by simp [feet, blk])).1
      rw [this] at hk; cases hk
    · simp [vadd, e, hk]
  exact h _ hle (vadd_self _ _ _) ρ w hm h2
theorem KQ_nilrow {x : Exit} (e : TypeId) (sz : Nat) (h : KQ n c Q x l (row nilS e sz 0 [] :: hl) H) : KQ n c Q x l hl H := fun ρ w hm ho => h ρ w hm (ho.nilrow e sz)
variable {ol : List Oper} {keep : HL} {fin : Bool} {T : ST} {R : List Nat} {i : Nat} {g : Option (Nat × Bool)}
theorem D_makeSlice {mk : Nat → Value} {o : Obj} (hi : nthO ol i = some ⟨some d, op, ty, pos, aft, g⟩) (hw : wlO ol l g = some true) (hc : Nat.beq (cls op) 1 = true) (_hkp : memAll keep hl) (hv : AllocOk P l op ty mk o)
    (h : ∀ b, KD P n ol.toArray keep fin T R ((d, mk b) :: l) (blk b o :: hl) H) : KD P n ol.toArray keep fin T (i :: R) l hl H :=
  D_alloc hi hw hc hv h
end rules
theorem madeNil (n : Nat) : madeCells #[nilS] (n * 1) = headsF nilF n := by
  unfold madeCells headsF nilF
  apply Array.ext'
  simp
  intro a _
  simp [Nat.mod_one]
theorem filter_take_succ {a : Au} {k s : Nat} (hk : k < a.rules.length) : (a.rules.take (k + 1)).filter (fun r => decide (r.sym = (s : Int))) = (a.rules.take k).filter (fun r => decide (r.sym = (s : Int))) ++ (if a.rules[k].sym = (s : Int) then [a.rules[k]] else []) := by
  rw [List.take_succ_eq_append_getElem hk, List.filter_append]
  by_cases h : a.rules[k].sym = (s : Int) <;> simp [h]
/-! ### construct -/
def limM (most : Int) : Int := if 512 < most then 512 else most
def consM (a : Au) (most : Int) : Int × Option DS :=
  if auErr a ≠ 0 then (auErr a, none) else if most < 1 then (2, none) else
    match buildM a (limM most) 513 ⟨[], []⟩ with
    | none => (8, none)
    | some st => (0, some st)
theorem DS.Inv.nil {limit : Int} (h : 0 ≤ limit) : DS.Inv limit ⟨[], []⟩ := ⟨.nil, by simp, .nil, by simp, by simp, h⟩
/-- A slice of slices of ints. -/
def RSI (H : View) (xs : List Int) (cs : List Value) : Prop := ∃ w, cs = [w] ∧ SI H w xs
def SSI (H : View) (v : Value) (xss : List (List Int)) : Prop := ∃ cells, SlAt H v xss.length cells ∧ RepL (RSI H) 1 xss cells
theorem RSI.mono {H H' : View} {xs : List Int} {cs : List Value} (h : RSI H xs cs) (hle : VLe H H') : RSI H' xs cs := by
  obtain ⟨w, h1, h2⟩ := h
  exact ⟨w, h1, h2.mono hle⟩
theorem SSI.mono {H H' : View} {v : Value} {xss : List (List Int)} (h : SSI H v xss) (hle : VLe H H') : SSI H' v xss := by
  obtain ⟨cells, h1, h2⟩ := h
  exact ⟨cells, h1.mono hle, h2.imp fun _ _ hx => hx.mono hle⟩
theorem SSI.nil (H : View) (a : Option Addr) (cp : Nat) : SSI H (.slice a 0 cp) [] := ⟨[], ⟨a, cp, rfl, .inl ⟨rfl, rfl⟩⟩, .nil⟩
theorem SSI.get {H : View} {a : Option Addr} {k cap : Nat} {xss : List (List Int)} (h : SSI H (.slice a k cap) xss) {i : Nat} (hi : i < xss.length) : ∃ b off xa xcp, a = some ⟨b, off, none⟩ ∧ At H b (off + i * 1) [.slice xa xss[i].length xcp] ∧ SI H (.slice xa xss[i].length xcp) xss[i] := by
  obtain ⟨cells, h1, h2⟩ := h
  obtain ⟨a', c', h3, _⟩ := id h1
  cases h3
  obtain ⟨b, off, cs, rfl, _, ⟨w, rfl, h5⟩, h6⟩ := SlAt.elem h1 h2 hi rfl
  obtain ⟨xa, xcp, rfl⟩ := h5.shape
  exact ⟨b, off, xa, xcp, rfl, h6, h5⟩
theorem SSI.shape {H : View} {v : Value} {xss : List (List Int)} (h : SSI H v xss) : ∃ a cap, v = .slice a xss.length cap := by
  obtain ⟨cells, ⟨a, c, rfl, _⟩, _⟩ := h
  exact ⟨a, c, rfl⟩
theorem take_map_succ {α β : Type} {f : α → β} {l : List α} {k : Nat} (h : k < l.length) : (l.take (k + 1)).map f = (l.take k).map f ++ [f l[k]] := by
  rw [List.take_succ_eq_append_getElem h, List.map_append]; rfl
theorem consM_cases (a : Au) (most : Int) : ((consM a most).1 ≠ 0 ∧ (consM a most).2 = none) ∨ ((consM a most).1 = 0 ∧ ∃ st, (consM a most).2 = some st) := by
  unfold consM
  split
  · rename_i h; exact .inl ⟨h, rfl⟩
  · split
    · exact .inl ⟨by decide, rfl⟩
    · split
      · exact .inl ⟨by decide, rfl⟩
      · rename_i st _; exact .inr ⟨rfl, st, rfl⟩
theorem consM_ne {a : Au} {most : Int} (h : (consM a most).1 ≠ 0) : (consM a most).2 = none := by
  rcases consM_cases a most with h1 | h1
  · exact h1.2
  · exact absurd h1.1 h
theorem consM_eq {a : Au} {most : Int} (h : (consM a most).1 = 0) : ∃ st, (consM a most).2 = some st := by
  rcases consM_cases a most with h1 | h1
  · exact absurd h h1.1
  · exact h1.2
/-! ### Deterministic automata -/
structure Dt where
  ranks : List Int
  acc : List Bool
  to : List (List Int)
def bools (xs : List Bool) : List Value := xs.map .bool
def SB (H : View) (v : Value) (xs : List Bool) : Prop := SlAt H v xs.length (bools xs)
structure RepDt (H : View) (d : Dt) (vr va vt : Value) : Prop where
  r : SI H vr d.ranks
  a : SB H va d.acc
  t : SSI H vt d.to
theorem RepDt.mono {H H' : View} {d : Dt} {vr va vt : Value} (h : RepDt H d vr va vt) (hle : VLe H H') : RepDt H' d vr va vt := ⟨h.r.mono hle, SlAt.mono h.a hle, h.t.mono hle⟩
def accM (a : Au) (st : DS) : List Bool := st.subs.map fun s => !decide (s &&& ofL a.final = 0)
def valM (st : DS) (sym : Int) (xs : List Int) : Int := (lookM st.res (keyM sym xs)).getD 0
def toM (a : Au) (st : DS) (s : Nat) : List Int := (ext st.subs.length (a.ranks.getD s 0).toNat []).map (valM st s)
def fromM (a : Au) (st : DS) : Dt := ⟨a.ranks, accM a st, (List.range a.ranks.length).map (toM a st)⟩
theorem valM_ok {st : DS} {limit : Int} (h : st.Inv limit) (hl : limit ≤ 1048576) (sym : Int) (xs : List Int) : i64ok (valM st sym xs) := by
  unfold valM
  cases hk : lookM st.res (keyM sym xs) with
  | none => simp [i64ok]
  | some n =>
    have := lookM_some h.rn hk
    obtain ⟨⟨p, hp, hpk⟩, h2⟩ := this
    have h3 := h.rv p hp
    rw [h2 p hp hpk] at h3
    have h4 := h.le
    simp only [Option.getD_some, i64ok]
    omega
theorem ints_snoc (xs : List Int) (x : Int) : ints (xs ++ [x]) = ints xs ++ [.int .i64 x] := by simp [ints]
theorem ext_len {k : Nat} : ∀ {m : Nat} {ys : List Int}, (ext k m ys).length = k ^ m
  | 0, ys => by simp [ext]
  | m + 1, ys => by
    simp only [ext, List.length_flatMap, ext_len]
    rw [List.map_const', List.sum_replicate_nat, List.length_range, Nat.pow_succ, Nat.mul_comm]
theorem pow_le2 {k n : Nat} (hk : k ≤ 512) (hn : n ≤ 2) : k ^ n ≤ 262144 := by
  match n, hn with
  | 0, _ => simp
  | 1, _ => rw [Nat.pow_one]; omega
  | 2, _ => calc k ^ 2 ≤ 512 ^ 2 := Nat.pow_le_pow_left hk 2
      _ = 262144 := by decide
theorem bools_snoc (xs : List Bool) (x : Bool) : bools (xs ++ [x]) = bools xs ++ [.bool x] := by simp [bools]
theorem accM_take (a : Au) (st : DS) (k : Nat) (hk : k < st.subs.length) : (accM a st).take (k + 1) = (accM a st).take k ++ [!decide (st.subs[k] &&& ofL a.final = 0)] := by
  have h : k < (accM a st).length := by simpa [accM] using hk
  rw [List.take_succ_eq_append_getElem h]
  simp [accM]
theorem range_map_succ {α : Type} (f : Nat → α) (k : Nat) : (List.range (k + 1)).map f = (List.range k).map f ++ [f k] := by
  rw [List.range_succ, List.map_append]; rfl
/-! ### Lists in their order -/
def cmpL : List Int → List Int → Int
  | [], [] => 0
  | [], _ :: _ => -1
  | _ :: _, [] => 1
  | x :: xs, y :: ys => if x < y then -1 else if y < x then 1 else cmpL xs ys
theorem cmpL_self : ∀ xs : List Int, cmpL xs xs = 0
  | [] => rfl
  | x :: xs => by simp [cmpL, cmpL_self xs]
theorem cmpL_eq : ∀ {xs ys : List Int}, cmpL xs ys = 0 ↔ xs = ys
  | [], [] => by simp [cmpL]
  | [], _ :: _ => by simp [cmpL]
  | _ :: _, [] => by simp [cmpL]
  | x :: xs, y :: ys => by
    simp only [cmpL, List.cons.injEq]
    by_cases h1 : x < y
    · rw [if_pos h1]; constructor
      · intro h; cases h
      · rintro ⟨rfl, _⟩; omega
    · rw [if_neg h1]
      by_cases h2 : y < x
      · rw [if_pos h2]; constructor
        · intro h; cases h
        · rintro ⟨rfl, _⟩; omega
      · rw [if_neg h2, cmpL_eq]
        constructor
        · intro h; exact ⟨by omega, h⟩
        · exact fun h => h.2
theorem cmpL_end {xs ys : List Int} {k : Nat} (h1 : k ≤ xs.length) (h2 : k ≤ ys.length) (h : k = xs.length ∨ k = ys.length) : cmpL (xs.drop k) (ys.drop k) = if xs.length < ys.length then -1 else if ys.length < xs.length then 1 else 0 := by
  rcases h with h | h
  · subst h
    rw [List.drop_length]
    by_cases h3 : xs.length < ys.length
    · rw [if_pos h3, List.drop_eq_getElem_cons h3]; rfl
    · have h4 : ys.length ≤ xs.length := by omega
      rw [if_neg h3, if_neg (by omega), List.drop_eq_nil_of_le h4]; rfl
  · subst h
    rw [List.drop_length]
    by_cases h3 : ys.length < xs.length
    · rw [if_neg (by omega), if_pos h3, List.drop_eq_getElem_cons h3]; rfl
    · have h4 : xs.length ≤ ys.length := by omega
      rw [if_neg (by omega), if_neg h3, List.drop_eq_nil_of_le h4]; rfl
theorem SB.get {H : View} {a : Option Addr} {k cap : Nat} {xs : List Bool} (h : SB H (.slice a k cap) xs) {i : Nat} (hi : i < xs.length) : ∃ b off, a = some ⟨b, off, none⟩ ∧ At H b (off + i * 1) [.bool xs[i]] := by
  obtain ⟨a', c', h1, h2⟩ := h
  cases h1
  rcases h2 with ⟨h2, _⟩ | ⟨b, off, rfl, h2⟩
  · omega
  · have := h2.one (j := i) (v := .bool xs[i]) (by simp [bools, hi])
    exact ⟨b, off, rfl, by simpa using this⟩
/-! ### The document's example -/
def knownA : Au := ⟨[0, 2], 2, [⟨0, [], 0⟩, ⟨0, [], 1⟩, ⟨1, [0, 1], 1⟩], [1]⟩
theorem known_cons : ∃ st, consM knownA 9 = (0, some st) ∧ st.subs.map els = [[0, 1], [1], []] ∧ accM knownA st = [true, true, false] := by
  refine ⟨⟨[3, 2, 0], [((0, 0, 0), 0), ((1, 0, 0), 1), ((1, 0, 1), 1), ((1, 1, 0), 2), ((1, 1, 1), 2), ((1, 0, 2), 2), ((1, 1, 2), 2), ((1, 2, 0), 2), ((1, 2, 1), 2), ((1, 2, 2), 2)]⟩, ?_, ?_, ?_⟩
  · kernel_rfl
  · decide +kernel
  · decide +kernel
end Pal

/-
  Loops that keep what they do not write: rules over PalA. Own work. No statement of the seat is proved here.
-/
namespace Pal
open Go
def memN (k : Nat) : List Nat → Bool
  | [] => false
  | a :: r => cond (Nat.beq a k) true (memN k r)
def del (ks : List Nat) : KL → KL
  | [] => []
  | (k, v) :: r => cond (memN k ks) (del ks r) ((k, v) :: del ks r)
theorem beqN (a b : Nat) : Nat.beq a b = (a == b) := by
  by_cases h : a = b
  · subst h; simp [Nat.beq_refl]
  · simp [beq_ne h, h]
theorem look_del {ks : List Nat} {t : Nat} {v : Value} : ∀ {l : KL}, look (del ks l) t = some v → memN t ks = false ∧ look l t = some v
  | [], h => by simp [del, look] at h
  | (k, u) :: r, h => by
    simp only [del] at h
    cases hm : memN k ks with
    | true =>
      rw [hm] at h
      obtain ⟨h1, h2⟩ := look_del (l := r) h
      have hne : k ≠ t := fun e => by subst e; rw [hm] at h1; cases h1
      exact ⟨h1, by simp only [look, beq_ne hne]; exact h2⟩
    | false =>
      rw [hm] at h
      simp only [cond_false, look] at h
      by_cases e : k = t
      · subst e
        simp only [Nat.beq_refl, cond_true] at h
        exact ⟨hm, by simp only [look, Nat.beq_refl, cond_true]; exact h⟩
      · rw [beq_ne e] at h
        obtain ⟨h1, h2⟩ := look_del (l := r) h
        exact ⟨h1, by simp only [look, beq_ne e]; exact h2⟩
theorem look_app {t : Nat} {b : KL} : ∀ {a : KL}, look (a ++ b) t = match look a t with | some v => some v | none => look b t
  | [] => rfl
  | (k, u) :: r => by
    simp only [List.cons_append, look]
    cases Nat.beq k t with
    | true => rfl
    | false => exact look_app (a := r)
section
variable {P : Program} {n : Nat} {c : Cx} {Q : Exit → Act → World → Prop} {l l0 : KL} {hl : HL} {H : View}
theorem Mt.loop {ρ : Env} {M : KL} {ks : List Nat} (h : Mt n ρ l) (hs : subs M l) (hd : del ks l = l0) : Mt n ρ (M ++ l0) := by
  intro t v hv
  rw [look_app] at hv
  cases hm : look M t with
  | some u => rw [hm] at hv; cases hv; exact h.sub hs t _ hm
  | none =>
    rw [hm] at hv
    exact h t v (look_del (hd ▸ hv)).2
def LDat {G : Type} (M : G → KL) (l0 : KL) (O : G → HL) (V : G → View) (I : G → Prop) (n : Nat) (c : Cx) (g : G) (a : Act) (w : World) : Prop :=
  I g ∧ ∃ ρ, a = fr n ρ ∧ Mt n ρ (M g ++ l0) ∧ Ok c w (V g) (O g)
def LDnext {G : Type} (_ks : List Nat) (M : G → KL) (l0 : KL) (O : G → HL) (V : G → View) (I : G → Prop) (μ : G → Nat) (n : Nat) (c : Cx) (g : G) (a : Act) (w : World) : Prop :=
  ∃ g', LDat M l0 O V I n c g' a w ∧ μ g' < μ g
/-- ks: the slots that a round may write; M: what is known of them at a round's head. -/
theorem K_loopD {G : Type} (ks : List Nat) (M : G → KL) (O : HL → G → HL) (V : G → View) (I : G → Prop) (μ : G → Nat) (g : G) {code : Code} (hI : I g) (hs : subs (M g) l) (hd : del ks l = l0) (ho : hl = O hl g) (hV : H = V g)
    (round : ∀ g, I g → KC P n c code (Exit.then (LDnext ks M l0 (O hl) V I μ n c g) Q) (M g ++ l0) (O hl g) (V g)) : KC P n c (.loop code) Q l hl H := by
  intro ρ w hm hok
  refine wp_loop_g (LDat M l0 (O hl) V I n c) μ (g₀ := g) ⟨hI, ρ, rfl, hm.loop hs hd, hV ▸ ho ▸ hok⟩ ?_
  rintro g a w ⟨hI, ρ, rfl, hm, hok⟩
  exact round g hI ρ w hm hok
theorem Q_nextD {G : Type} {ks : List Nat} {M : G → KL} {O : G → HL} {V : G → View} {I : G → Prop} {μ : G → Nat} {g : G} (g' : G) (hI : I g') (hμ : μ g' < μ g) (hs : subs (M g') l) (hd : del ks l = l0) (ho : hl = O g') (hV : H = V g') :
    KQ n c (Exit.then (LDnext ks M l0 O V I μ n c g) Q) .normal l hl H := by
  intro ρ w hm hok
  exact ⟨g', ⟨hI, ρ, rfl, hm.loop hs hd, hV ▸ ho ▸ hok⟩, hμ⟩
end
end Pal

/-
  Appends to an empty literal; slices of slices. Own work. No statement of the seat is proved here.
-/
namespace Pal
open Go
section
variable {P : Program} {n : Nat} {c : Cx} {Q : Exit → Act → World → Prop} {l : KL} {hl : HL} {H : View} {keep : HL} {fin : Bool}
variable {ol : List Oper} {ops : Array Oper} {rest : List Oper} {R : List Nat} {T : ST} {d : Nat} {op : Op} {ty : TypeId} {pos : String} {aft : Array Edge} {g : Option (Nat × Bool)} {v : Value}
/-- An empty literal's block is a row. -/
theorem Has.row0 {w : World} {b : Nat} {e : TypeId} {sz : Nat} {r : HL} (h : Has w H (blk b (.cells #[] e (0, 0)) :: r)) : Has w H (row (slc 0 b) e sz 0 [] :: r) := by
  have hb : w.heap[b]? = some (.cells #[] e (0, 0)) := h.own _ List.mem_cons_self
  refine ⟨h.has, ?_, fun k hk => h.foot k (by simpa [feet, row, rowFoot, blk, slc] using hk), by simpa [feet, row, rowFoot, blk, slc] using h.nd⟩
  intro en hen
  rcases List.mem_cons.1 hen with rfl | hen
  · exact ⟨by simp, .inr ⟨b, 0, #[], rfl, hb, Nat.le_refl _, by decide, by simp, by simp⟩⟩
  · exact h.own en (List.mem_cons_of_mem _ hen)
theorem Ok.row0 {w : World} {b : Nat} {e : TypeId} {sz : Nat} {r : HL} (h : Ok c w H (blk b (.cells #[] e (0, 0)) :: r)) : Ok c w H (row (slc 0 b) e sz 0 [] :: r) :=
  ⟨h.os, h.tape, h.output, h.drawn, h.size, h.old, h.vold, h.le, h.has, (Has.row0 h.hasL).own, fun k hk => h.foot k (by simpa [feet, row, rowFoot, blk, slc] using hk), by simpa [feet, row, rowFoot, blk, slc] using h.nd⟩
theorem KO_row0 {b : Nat} {e : TypeId} (sz : Nat) {r : HL} (h : KO P n c ops Q rest l (row (slc 0 b) e sz 0 [] :: r) H) : KO P n c ops Q rest l (blk b (.cells #[] e (0, 0)) :: r) H := fun ρ w hm ho => h ρ w hm ho.row0
theorem run_append_ty {t t' e e' ty : TypeId} (hs : slcOk P t e) (hs' : slcOk P t' e') (args : Array Value) (w : World) : (Builtin.append_ #[t, t'] ty args).run P w = (Builtin.append_ #[t, t] ty args).run P w := by
  unfold Builtin.append_
  cases h0 : args[0]? with
  | none => rfl
  | some s => cases h1 : args[1]? with
    | none => rfl
    | some x =>
      simp only [List.getElem?_toArray, List.getElem?_cons_zero, List.getElem?_cons_succ, Sem.run_bind, run_underlying hs, Result.andThen_ok]
      cases s with
      | slice base sLen sCap =>
        simp only [Sem.run_bind]
        cases (Go.sizeOf e).run P w with
        | ok size w1 =>
          simp only [Result.andThen_ok, run_underlying hs, run_underlying hs', Sem.run_pure]
        | _ => rfl
      | _ => rfl
theorem Eff.append_ty {t t' e e' : TypeId} {x y : Operand} {p : HL} {post : Value → View → HL → Prop} (hs : slcOk P t e) (hs' : slcOk P t' e') (hx : ∃ v, ev l x = some v) (hy : ∃ v, ev l y = some v)
    (h : Eff P l H p (.call ⟨.builtin .append, #[x, y], #[t, t]⟩) ty post) : Eff P l H p (.call ⟨.builtin .append, #[x, y], #[t, t']⟩) ty post := by
  intro e2 w hk ho
  obtain ⟨vx, hx⟩ := hx
  obtain ⟨vy, hy⟩ := hy
  have := h e2 w hk ho
  have he : (ex e2 (.call ⟨.builtin .append, #[x, y], #[t, t']⟩) ty).run P w = (ex e2 (.call ⟨.builtin .append, #[x, y], #[t, t]⟩) ty).run P w := by
    have := run_append_ty (ty := ty) hs hs' #[vx, vy] w
    simp [ex, execOp, resolve, invoke, builtin, hk x _ hx, hk y _ hy]
    rw [this]
  rw [he]
  exact this
/-- append(E{}, y...), y read through the view. -/
theorem E_append0 {x y : Operand} {t t' e : TypeId} {sz bytes m b : Nat} {news : List Value} {u : Value} (hA : App P t e sz bytes) (ht' : slcOk P t' e) (hx : ev l x = some (slc 0 b)) (hy : ev l y = some u)
    (hu : SlAt H u m news) (hl' : news.length = m * sz) (h1 : news.all Value.oneCell' = true) (hb : m * bytes ≤ 140737488355328 ∧ m ≤ 140737488355328) :
    Eff P l H [blk b (.cells #[] e (0, 0))] (.call ⟨.builtin .append, #[x, y], #[t, t']⟩) ty fun v' H' q => ∃ a cap, v' = .slice a m cap ∧ H' = H ∧ q = [row v' e sz m news] := by
  refine Eff.append_ty hA.s ht' ⟨_, hx⟩ ⟨_, hy⟩ ?_
  intro e2 w hk ho
  have ho' : Has w H [row (slc 0 b) e sz 0 []] := Has.row0 ho
  have key : ∀ {u : Value} {m : Nat}, ev l y = some u → (u = .slice none 0 0 ∧ m = 0 ∧ news = [] ∨ ∃ b off cp, u = .slice (some ⟨b, off, none⟩) m cp ∧ At H b off news) → news.length = m * sz → m * bytes ≤ 140737488355328 ∧ m ≤ 140737488355328 →
      Upon P ((ex e2 (.call ⟨.builtin .append, #[x, y], #[t, t]⟩) ty).run P w) fun v w' => ∃ H' q, Ok ⟨w, H, feet [blk b (.cells #[] e (0, 0))]⟩ w' H' q ∧ ∃ a cap, v = .slice a m cap ∧ H' = H ∧ q = [row v e sz m news] := by
    intro u m hy hu hl' hb
    have h := E_appendH (P := P) (ty := ty) (k := 0) (xs := []) (v := slc 0 b) hA hx hy hu hl' h1 ⟨by simpa using hb.1, by simpa using hb.2⟩ e2 w hk ho'
    refine h.mono ?_
    rintro v w' ⟨H', q, hok, a, cap, rfl, rfl, rfl, _⟩
    refine ⟨H', _, ?_, a, cap, by simp, rfl, rfl⟩
    simpa [feet, row, rowFoot, blk, slc] using hok
  obtain ⟨a, cap, rfl, h2⟩ := hu
  rcases h2 with ⟨rfl, rfl⟩ | ⟨b', off, rfl, hAt⟩
  · obtain ⟨i, z, hi, hz, hs, hzs, hby⟩ := hA.i
    have hf : (Builtin.firstCells i.size 0 (.slice a 0 cap)).run P w = .ok #[] w := by
      cases a <;> simp [Builtin.firstCells, loadCells, loadCellsFrom]
    have hr : (Builtin.append_ #[t, t] ty #[slc 0 b, .slice a 0 cap]).run P w = .ok (slc 0 b) w := by
      simp [slc, Builtin.append_, run_underlying hA.s, Go.sizeOf, typeInfo, hi, Builtin.lenOf, hf, storeCells]
    have hrun : (ex e2 (.call ⟨.builtin .append, #[x, y], #[t, t]⟩) ty).run P w = .ok (.value (slc 0 b)) w := by
      simp [ex, execOp, resolve, invoke, builtin, hk x _ hx, hk y _ hy]
      rw [hr]; rfl
    rw [hrun]
    refine ⟨H, [row (slc 0 b) e sz 0 []], ?_, some ⟨b, 0, none⟩, 0, rfl, rfl, rfl⟩
    simpa [feet, row, rowFoot, blk, slc] using Has.ok ho'
  · exact key hy (.inr ⟨b', off, cap, rfl, hAt⟩) hl' hb
theorem K_append0 {x y : Operand} {t t' e : TypeId} {sz bytes m b : Nat} {news : List Value} {u : Value} (j : Nat) (hA : App P t e sz bytes) (ht' : slcOk P t' e) (hx : ev l x = some (slc 0 b)) (hy : ev l y = some u)
    (hi : hl[j]? = some (blk b (.cells #[] e (0, 0)))) (hu : SlAt H u m news) (hl' : news.length = m * sz) (h1 : news.all Value.oneCell' = true) (hb : m * bytes ≤ 140737488355328 ∧ m ≤ 140737488355328) (hdn : Nat.blt d n = true)
    (h : ∀ a cap, KO P n c ops Q rest ((d, .slice a m cap) :: l) (row (.slice a m cap) e sz m news :: hl.eraseIdx j) H) :
    KO P n c ops Q (⟨some d, .call ⟨.builtin .append, #[x, y], #[t, t']⟩, ty, pos, aft, none⟩ :: rest) l hl H := by
  refine KE _ (hl.eraseIdx j) (perm_erase hi) (E_append0 hA ht' hx hy hu hl' h1 hb) hdn ?_
  rintro v' H' q _ ⟨a, cap, rfl, rfl, rfl⟩
  exact h a cap
end
end Pal

/-
  Slices that may be read, whether they lie in the view or are owned; the reference's subset construction in plain lists. Own work. No statement of the seat is proved here.
-/
namespace Pal
open Go
section
variable {P : Program} {n : Nat} {c : Cx} {Q : Exit → Act → World → Prop} {l : KL} {hl : HL} {H : View} {ops : Array Oper} {rest : List Oper}
/-- A slice's cells can be read by whoever holds p. -/
structure Rd (H : View) (p : HL) (v : Value) (n : Nat) (cells : List Value) : Prop where
  sh : ∃ a cap, v = .slice a n cap ∧ (n = 0 ∨ ∃ b off, a = some ⟨b, off, none⟩)
  rd : ∀ a k cap, v = .slice (some a) k cap → ∀ w, Has w H p → ∀ j u, cells[j]? = some u → w.cell? (a.add j) = some u
theorem Rd.mono {H H' : View} {p : HL} {v : Value} {n : Nat} {cells : List Value} (h : Rd H p v n cells) (hle : VLe H H') : Rd H' p v n cells :=
  ⟨h.sh, fun a k cap hv w hh => h.rd a k cap hv w (hh.le hle)⟩
theorem SlAt.rd {H : View} {v : Value} {n : Nat} {cells : List Value} (h : SlAt H v n cells) : Rd H [] v n cells := by
  obtain ⟨a, cap, rfl, h2⟩ := h
  constructor
  · refine ⟨a, cap, rfl, ?_⟩
    rcases h2 with ⟨rfl, _⟩ | ⟨b, off, rfl, _⟩
    · exact .inl rfl
    · exact .inr ⟨b, off, rfl⟩
  · intro a' k cap' hv w hw j u hj
    cases hv
    rcases h2 with ⟨rfl, rfl⟩ | ⟨b, off, hb, hA⟩
    · simp at hj
    · cases hb
      exact hA.cell hw.has j u hj
theorem row_rd {H : View} {v : Value} {e : TypeId} {sz k : Nat} {cells : List Value} (hs : subsV v k) : Rd H [row v e sz k cells] v k cells := by
  constructor
  · rcases hs with ⟨rfl, rfl⟩ | ⟨g, cap, rfl⟩
    · exact ⟨none, 0, rfl, .inl rfl⟩
    · exact ⟨_, cap, rfl, .inr ⟨g, 0, rfl⟩⟩
  · intro a k' cap' hv w hw j u hj
    have hr := hw.own _ (List.mem_cons_self)
    obtain ⟨_, hr⟩ := hr
    rcases hr with ⟨hr, _⟩ | ⟨g, cap', cur, hr, hg, _, _, _, htk⟩
    · rw [hr] at hv; cases hv
    · rw [hr] at hv
      simp only [Value.slice.injEq, Option.some.injEq] at hv
      obtain ⟨rfl, _, _⟩ := hv
      have hg' : w.heap[g]? = some (.cells cur e (0, 0)) := hg
      rw [addr_add]
      rw [← htk, List.getElem?_take] at hj
      split at hj
      · simp [World.cell?, hg']; simpa using hj
      · cases hj
theorem Has.sub {w : World} {H : View} {hl p : HL} (h : Has w H hl) (hp : ∃ r, hl.Perm (p ++ r)) : Has w H p := by
  obtain ⟨r, hr⟩ := hp
  exact (h.perm hr).left
theorem permSelf (p : HL) : ∃ r, p.Perm (p ++ r) := ⟨[], by rw [List.append_nil]⟩
theorem permCons {a : Own} {hl p : HL} (h : ∃ r, hl.Perm (p ++ r)) : ∃ r, (a :: hl).Perm (p ++ r) := by
  obtain ⟨r, hr⟩ := h
  exact ⟨a :: r, (hr.cons a).trans List.perm_middle.symm⟩
end

theorem idxOf_at {α : Type} [BEq α] [LawfulBEq α] {xs : List α} {y : α} {k : Nat} (hk : k < xs.length) (he : xs[k] = y) (hno : ∀ j (h : j < xs.length), j < k → xs[j] ≠ y) : xs.idxOf y = k := by
  induction xs generalizing k with
  | nil => simp at hk
  | cons x r ih =>
    cases k with
    | zero => simp at he; subst he; simp
    | succ k =>
      have h0 := hno 0 (by simp) (by omega)
      simp only [List.getElem_cons_zero] at h0
      have hb : (x == y) = false := beq_false_of_ne h0
      rw [List.idxOf_cons, hb, cond_false, ih (k := k) (by simpa using hk) (by simpa using he) (fun j h hj => by
        have := hno (j + 1) (by simpa using h) (by omega)
        simpa using this)]
theorem RepL.snocT {α β : Type} {R : β → List Value → Prop} {sz : Nat} {f : α → β} {xs : List α} {k : Nat} {cells cs : List Value} (hR : RepL R sz ((xs.take k).map f) cells) (hk : k < xs.length) (hx : R (f xs[k]) cs) (hl : cs.length = sz) :
    RepL R sz ((xs.take (k + 1)).map f) (cells ++ cs) := by
  rw [take_map_succ hk]; exact hR.snoc hx hl
theorem RepL.impSI {H H' : View} (hle : VLe H H') {xss : List (List Int)} {cells : List Value} (h : RepL (RSI H) 1 xss cells) : RepL (RSI H') 1 xss cells := h.imp fun _ _ hx => hx.mono hle
theorem Rd.open' {H : View} {p : HL} {a : Option Addr} {n cap : Nat} {cells : List Value} (h : Rd H p (.slice a n cap) n cells) (hn : 0 < n) : ∃ b off, a = some ⟨b, off, none⟩ := by
  obtain ⟨a', cap', he, h2⟩ := h.sh
  cases he
  rcases h2 with h2 | h2
  · omega
  · exact h2

/-! ### The reference's functions -/
def refFind (l : List (List Int)) (s : List Int) : Int := if s ∈ l then (l.idxOf s : Int) else -1
def ofM (l : List (List Int)) (xs : List Int) : List (List Int) := xs.map fun i => l.getD i.toNat []
/-- All tuples of m numbers below k. -/
def tups (k : Nat) : Nat → List (List Int)
  | 0 => [[]]
  | m + 1 => (tups k m).flatMap fun xs => (List.range k).map fun (j : Nat) => xs ++ [(j : Int)]
theorem tups_len (k : Nat) : ∀ m, (tups k m).length = k ^ m
  | 0 => rfl
  | m + 1 => by
    simp only [tups, List.length_flatMap, List.length_map, List.length_range]
    rw [List.map_const', List.sum_replicate_nat, tups_len k m, Nat.pow_succ]
theorem tups_item {k : Nat} : ∀ {m : Nat} {xs : List Int}, xs ∈ tups k m → xs.length = m ∧ ∀ x ∈ xs, 0 ≤ x ∧ x < (k : Int)
  | 0, xs, h => by simp [tups] at h; subst h; simp
  | m + 1, xs, h => by
    simp only [tups, List.mem_flatMap, List.mem_map, List.mem_range] at h
    obtain ⟨ys, hys, j, hj, rfl⟩ := h
    obtain ⟨h1, h2⟩ := tups_item hys
    refine ⟨by simp [h1], fun x hx => ?_⟩
    rcases List.mem_append.1 hx with hx | hx
    · exact h2 x hx
    · simp at hx; subst hx; omega
theorem ext_eq (k : Nat) : ∀ (m : Nat) (xs : List Int), ext k m xs = (tups k m).map (xs ++ ·)
  | 0, xs => by simp [ext, tups]
  | m + 1, xs => by
    have h : ∀ (m : Nat) (xs : List Int), ext k (m + 1) xs = (ext k m xs).flatMap fun ys => (List.range k).map fun (j : Nat) => ys ++ [(j : Int)] := by
      intro m
      induction m with
      | zero => intro xs; simp [ext]; exact (List.map_eq_flatMap ..).symm
      | succ m ih =>
        intro xs
        rw [show ext k (m + 1 + 1) xs = (List.range k).flatMap fun (j : Nat) => ext k (m + 1) (xs ++ [(j : Int)]) from rfl]
        rw [show ext k (m + 1) xs = (List.range k).flatMap fun (j : Nat) => ext k m (xs ++ [(j : Int)]) from rfl]
        rw [List.flatMap_assoc]
        congr 1
        funext j
        exact ih _
    rw [h m xs, ext_eq k m xs]
    simp only [tups, List.flatMap_map, List.map_flatMap, List.map_map, Function.comp_def, List.append_assoc]
theorem ext_nil (k m : Nat) : ext k m [] = tups k m := by rw [ext_eq]; simp
/-- Whether a rule fits: its operands are in the given sets. -/
def hasAll (l : List (List Int)) (args : List Int) (k : Nat) : Bool := (List.range k).all fun i => decide (args.getD i 0 ∈ l.getD i [])
def fitR (sym s : Int) (l : List (List Int)) (r : Rl) : Bool := decide (r.sym = sym ∧ r.to = s) && hasAll l r.args l.length
def refNext (a : Au) (sym : Int) (l : List (List Int)) : List Int := ((List.range a.states.toNat).filter fun (s : Nat) => a.rules.any (fitR sym (s : Int) l)).map fun (s : Nat) => (s : Int)
def refStep (a : Au) (sym : Int) (out : List (List Int)) (xs : List Int) : List (List Int) :=
  if refNext a sym (ofM out xs) ∈ out then out else out ++ [refNext a sym (ofM out xs)]
def refSteps (a : Au) (sym : Int) (xss : List (List Int)) (out : List (List Int)) : List (List Int) := xss.foldl (refStep a sym) out
def refSyms (a : Au) (was : Nat) : List Int → Int → List (List Int) → List (List Int)
  | [], _, out => out
  | r :: rs, sym, out => refSyms a was rs (sym + 1) (refSteps a sym (tups was r.toNat) out)
def refRounds (a : Au) : Nat → Int → List (List Int) → List (List Int)
  | 0, _, out => out
  | f + 1, was, out => if was < out.length then refRounds a f out.length (refSyms a out.length a.ranks 0 out) else out
def refSubs (a : Au) : List (List Int) := refRounds a 130 (-1) []
def refFinal (a : Au) (out : List (List Int)) : List Bool := out.map fun l => l.any fun x => decide (x ∈ a.final)
def refTo (a : Au) (out : List (List Int)) (s : Nat) : List Int := (tups out.length (a.ranks.getD s 0).toNat).map fun xs => refFind out (refNext a (s : Int) (ofM out xs))
def refFrom (a : Au) : Dt := ⟨a.ranks, refFinal a (refSubs a), (List.range a.ranks.length).map (refTo a (refSubs a))⟩
end Pal

/-
  Plain lemmas on the reference's subset construction: how many subsets there are, steps and rounds. Own work. No statement of the seat is proved here.
-/
namespace Pal
open Go
/-- Pigeonhole. -/
theorem nodup_le : ∀ {n : Nat} {l : List Nat}, l.Nodup → (∀ x ∈ l, x < n) → l.length ≤ n
  | 0, l, _, h => by cases l with
    | nil => simp
    | cons a r => exact absurd (h a (by simp)) (by omega)
  | n + 1, l, hn, h => by
    by_cases hm : n ∈ l
    · have h1 := nodup_le (n := n) (l := l.erase n) (hn.erase n) (fun x hx => by
        have h2 := h x (List.mem_of_mem_erase hx)
        have h3 : x ≠ n := fun e => by subst e; exact (List.Nodup.not_mem_erase hn) hx
        omega)
      rw [List.length_erase_of_mem hm] at h1
      omega
    · have := nodup_le (n := n) hn (fun x hx => by
        have h2 := h x hx
        have h3 : x ≠ n := fun e => hm (e ▸ hx)
        omega)
      omega
def subL (m : Nat) (p : Nat → Bool) : List Int := ((List.range m).filter p).map fun (s : Nat) => (s : Int)
def codeL (m : Nat) (xs : List Int) : Nat := (List.range m).foldl (fun acc (s : Nat) => 2 * acc + (if (s : Int) ∈ xs then 1 else 0)) 0
theorem codeL_lt (m : Nat) (xs : List Int) : codeL m xs < 2 ^ m := by
  unfold codeL
  induction m with
  | zero => simp
  | succ m ih =>
    rw [List.range_succ, List.foldl_append, List.foldl_cons, List.foldl_nil, Nat.pow_succ]
    split <;> omega
theorem codeL_inj {m : Nat} {xs ys : List Int} (h : codeL m xs = codeL m ys) : ∀ s, s < m → ((s : Int) ∈ xs ↔ (s : Int) ∈ ys) := by
  unfold codeL at h
  induction m with
  | zero => intro s hs; omega
  | succ m ih =>
    rw [List.range_succ, List.foldl_append, List.foldl_append, List.foldl_cons, List.foldl_nil, List.foldl_cons, List.foldl_nil] at h
    intro s hs
    by_cases e : s = m
    · subst e
      by_cases h1 : (s : Int) ∈ xs <;> by_cases h2 : (s : Int) ∈ ys <;> simp [h1, h2] at h ⊢ <;> omega
    · refine ih ?_ s (by omega)
      split at h <;> split at h <;> omega
theorem mem_subL {m : Nat} {p : Nat → Bool} {s : Nat} : (s : Int) ∈ subL m p ↔ s < m ∧ p s = true := by
  simp only [subL, List.mem_map, List.mem_filter, List.mem_range]
  constructor
  · rintro ⟨t, ⟨h1, h2⟩, h3⟩
    have : t = s := by omega
    subst this; exact ⟨h1, h2⟩
  · rintro ⟨h1, h2⟩; exact ⟨s, ⟨h1, h2⟩, rfl⟩
theorem subL_congr {m : Nat} {p q : Nat → Bool} (h : ∀ s, s < m → p s = q s) : subL m p = subL m q := by
  unfold subL
  congr 1
  exact List.filter_congr fun s hs => h s (List.mem_range.1 hs)
theorem subL_code {m : Nat} {p q : Nat → Bool} (h : codeL m (subL m p) = codeL m (subL m q)) : subL m p = subL m q := by
  refine subL_congr fun s hs => ?_
  have := codeL_inj h s hs
  rw [mem_subL, mem_subL] at this
  simp only [hs, true_and] at this
  cases h1 : p s <;> cases h2 : q s <;> simp_all
structure RefOk (a : Au) (out : List (List Int)) : Prop where
  nd : out.Nodup
  sub : ∀ x ∈ out, ∃ p, x = subL a.states.toNat p
theorem RefOk.len {a : Au} {out : List (List Int)} (h : RefOk a out) (ha : a.states ≤ 6) : out.length ≤ 64 := by
  have h1 : (out.map (codeL a.states.toNat)).Nodup := by
    refine List.Pairwise.map _ (fun x y hxy => ?_) (List.Pairwise.and_mem.1 h.nd)
    intro e
    obtain ⟨p, rfl⟩ := h.sub x hxy.1
    obtain ⟨q, rfl⟩ := h.sub y hxy.2.1
    exact hxy.2.2 (subL_code e)
  have h2 := nodup_le (n := 64) h1 (fun x hx => by
    obtain ⟨y, _, rfl⟩ := List.mem_map.1 hx
    have := codeL_lt a.states.toNat y
    have h3 : 2 ^ a.states.toNat ≤ 2 ^ 6 := Nat.pow_le_pow_right (by decide) (by omega)
    omega)
  simpa using h2
theorem subL_len (m : Nat) (p : Nat → Bool) : (subL m p).length ≤ m := by
  unfold subL
  rw [List.length_map]
  exact Nat.le_trans (List.length_filter_le _ _) (by simp)
theorem RefOk.nil (a : Au) : RefOk a [] := ⟨.nil, by simp⟩
theorem refNext_sub (a : Au) (sym : Int) (l : List (List Int)) : refNext a sym l = subL a.states.toNat fun s => a.rules.any (fitR sym (s : Int) l) := rfl
theorem RefOk.snoc {a : Au} {out : List (List Int)} (h : RefOk a out) {sym : Int} {l : List (List Int)} (hn : ¬ refNext a sym l ∈ out) : RefOk a (out ++ [refNext a sym l]) := by
  refine ⟨?_, ?_⟩
  · rw [List.nodup_append]
    refine ⟨h.nd, by simp, ?_⟩
    intro x hx y hy e
    simp at hy; subst hy; subst e; exact hn hx
  · intro x hx
    rcases List.mem_append.1 hx with hx | hx
    · exact h.sub x hx
    · simp at hx; subst hx; exact ⟨_, rfl⟩
theorem all_succ {α : Type} {f : α → Bool} {xs : List α} {k : Nat} (hk : k < xs.length) : (xs.take (k + 1)).all f = ((xs.take k).all f && f xs[k]) := by
  rw [List.take_succ_eq_append_getElem hk, List.all_append]; simp only [List.all_cons, List.all_nil, Bool.and_true]
theorem refStep_len (a : Au) (sym : Int) (out : List (List Int)) (xs : List Int) : out.length ≤ (refStep a sym out xs).length := by
  unfold refStep; split <;> simp
section
variable {P : Program} {n : Nat} {c : Cx} {Q : Exit → Act → World → Prop} {l : KL} {hl : HL} {H : View}
theorem KC_pubrow {v : Value} {e : TypeId} {sz k : Nat} {xs : List Value} {code : Code} (hnew : c.pass = []) (h : ∀ H', VLe H H' → rowAt H' v k xs → KC P n c code Q l hl H') : KC P n c code Q l (row v e sz k xs :: hl) H := by
  intro ρ w hm ho
  obtain ⟨H', h1, h2, h3⟩ := ho.pubrow (fun b _ hb => by rw [hnew] at hb; cases hb)
  exact h H' h1 h2 ρ w hm h3
end
theorem take_ints_snoc {α : Type} {f : α → Int} {xs : List α} {k : Nat} (hk : k < xs.length) : ints ((xs.take (k + 1)).map f) = ints ((xs.take k).map f) ++ [.int .i64 (f xs[k])] := by
  rw [take_map_succ hk, ints_snoc]
theorem SB.shape {H : View} {v : Value} {xs : List Bool} (h : SB H v xs) : ∃ a cap, v = .slice a xs.length cap := by
  obtain ⟨a, cap, h, _⟩ := h; exact ⟨a, cap, h⟩
theorem SB.mono {H H' : View} {v : Value} {xs : List Bool} (h : SB H v xs) (hle : VLe H H') : SB H' v xs := SlAt.mono h hle
end Pal

/-
  The program's subset construction is the reference's: plain law, no program in sight. Own work. No statement of the seat is proved here.
-/
namespace Pal
open Go
/-! ### Sets asx numbers, sets asx lists -/
theorem els_subL (s : Nat) : els s = subL 1024 (fun i => s.testBit i) := rfl
theorem mem_els {s : Nat} {x : Int} : x ∈ els s ↔ (0 ≤ x ∧ x < 1024) ∧ s.testBit x.toNat = true := by
  constructor
  · intro h
    obtain ⟨k, rfl, h1, h2⟩ := els_mem h
    exact ⟨by omega, by simpa using h2⟩
  · rintro ⟨h1, h2⟩
    have : x = ((x.toNat : Nat) : Int) := by omega
    rw [this, els_subL, mem_subL]
    exact ⟨by omega, h2⟩
theorem hasB_mem (s : Nat) (x : Int) : hasB s x = decide (x ∈ els s) := by
  rw [Bool.eq_iff_iff]
  simp only [hasB, Bool.and_eq_true, decide_eq_true_eq, mem_els]
theorem subL_ext {n m : Nat} {p q : Nat → Bool} (hnm : n ≤ m) (h1 : ∀ j, j < n → q j = p j) (h2 : ∀ j, n ≤ j → j < m → q j = false) : subL m q = subL n p := by
  obtain ⟨d, rfl⟩ : ∃ d, m = n + d := ⟨m - n, by omega⟩
  clear hnm
  induction d with
  | zero => exact subL_congr h1
  | succ d ih =>
    have hq := h2 (n + d) (by omega) (by omega)
    have : subL (n + (d + 1)) q = subL (n + d) q := by
      rw [show n + (d + 1) = n + d + 1 by omega]
      simp [subL, List.range_succ, hq]
    rw [this]
    exact ih fun j hj hjm => h2 j hj (by omega)
theorem els_inj {s t : Nat} (hs : s < big) (ht : t < big) (h : els s = els t) : s = t := by
  apply Nat.eq_of_testBit_eq
  intro j
  by_cases hj : j < 1024
  · have h1 : ((j : Int) ∈ els s ↔ (j : Int) ∈ els t) := by rw [h]
    rw [mem_els, mem_els] at h1
    have h2 : (0 ≤ (j : Int) ∧ (j : Int) < 1024) := by omega
    simp only [h2, true_and, Int.toNat_natCast] at h1
    cases hb1 : s.testBit j <;> cases hb2 : t.testBit j <;> simp_all
  · rw [testBit_big hs (by omega), testBit_big ht (by omega)]
theorem wth_testBit (s : Nat) (i : Int) (j : Nat) : (wth s i).testBit j = (s.testBit j || decide ((0 ≤ i ∧ i < 1024) ∧ i = (j : Int))) := by
  unfold wth
  by_cases h : 0 ≤ i ∧ i < 1024
  · rw [if_pos h, Nat.testBit_or, Nat.testBit_two_pow]
    congr 1
    simp only [decide_eq_decide]
    omega
  · rw [if_neg h]
    simp [h]
theorem ofL_testBit (xs : List Int) (j : Nat) : (ofL xs).testBit j = decide (j < 1024 ∧ (j : Int) ∈ xs) := by
  have key : ∀ (xs : List Int) (s : Nat), (xs.foldl wth s).testBit j = (s.testBit j || decide (j < 1024 ∧ (j : Int) ∈ xs)) := by
    intro xs
    induction xs with
    | nil => intro s; simp
    | cons x r ih =>
      intro s
      rw [List.foldl_cons, ih, wth_testBit, Bool.or_assoc]
      congr 1
      rw [Bool.eq_iff_iff]
      simp only [Bool.or_eq_true, decide_eq_true_eq, List.mem_cons]
      constructor
      · rintro (⟨h1, h2⟩ | ⟨h1, h2⟩)
        · exact ⟨by omega, .inl h2.symm⟩
        · exact ⟨h1, .inr h2⟩
      · rintro ⟨h1, h2 | h2⟩
        · exact .inl ⟨by omega, h2.symm⟩
        · exact .inr ⟨h1, h2⟩
  unfold ofL
  rw [key xs 0]
  simp
/-! ### The successor -/
theorem fitsTo_iff {subs : List Nat} {args fr : List Int} : ∀ {k : Nat}, fitsTo subs args fr k = true ↔ ∀ i, i < k → fr.getD i 0 ∈ els (subs.getD (args.getD i 0).toNat 0)
  | 0 => by simp [fitsTo]
  | k + 1 => by
    simp only [fitsTo, Bool.and_eq_true, fitsTo_iff (k := k), hasB_mem, decide_eq_true_eq]
    constructor
    · rintro ⟨h1, h2⟩ i hi
      by_cases e : i = k
      · subst e; exact h2
      · exact h1 i (by omega)
    · intro h; exact ⟨fun i hi => h i (by omega), h k (by omega)⟩
theorem succTo_testBit {subs : List Nat} {args : List Int} {rs : List Rl} {j : Nat} : ∀ {k : Nat}, k ≤ rs.length → ((succTo subs args rs k).testBit j = true ↔ ∃ r ∈ rs.take k, fitsTo subs args r.args r.args.length = true ∧ (0 ≤ r.to ∧ r.to < 1024) ∧ r.to = (j : Int))
  | 0, _ => by simp [succTo]
  | k + 1, hk => by
    have hk' : k < rs.length := by omega
    have ih := succTo_testBit (subs := subs) (args := args) (rs := rs) (j := j) (k := k) (by omega)
    rw [List.take_succ_eq_append_getElem hk']
    cases hf : fitsTo subs args rs[k].args rs[k].args.length with
    | true =>
      rw [succTo_yes hk' hf, wth_testBit, Bool.or_eq_true, ih, decide_eq_true_eq]
      constructor
      · rintro (⟨r, hr, h⟩ | h)
        · exact ⟨r, List.mem_append_left _ hr, h⟩
        · exact ⟨rs[k], List.mem_append_right _ (by simp), hf, h⟩
      · rintro ⟨r, hr, h⟩
        rcases List.mem_append.1 hr with hr | hr
        · exact .inl ⟨r, hr, h⟩
        · simp at hr; subst hr; exact .inr h.2
    | false =>
      rw [succTo_no hk' hf, ih]
      constructor
      · rintro ⟨r, hr, h⟩; exact ⟨r, List.mem_append_left _ hr, h⟩
      · rintro ⟨r, hr, h⟩
        rcases List.mem_append.1 hr with hr | hr
        · exact ⟨r, hr, h⟩
        · simp at hr; subst hr; rw [hf] at h; cases h.1
theorem getD_els (subs : List Nat) (i : Nat) : (subs.map els).getD i [] = els (subs.getD i 0) := by
  simp only [List.getD_eq_getElem?_getD, List.getElem?_map]
  cases subs[i]? with
  | none => rw [Option.map_none, Option.getD_none, Option.getD_none, els_zero]
  | some s => rw [Option.map_some, Option.getD_some, Option.getD_some]
theorem getD_ofM (l : List (List Int)) (args : List Int) {k : Nat} (hk : k < args.length) : (ofM l args).getD k [] = l.getD (args.getD k 0).toNat [] := by
  simp [ofM, List.getD_eq_getElem?_getD, List.getElem?_map, List.getElem?_eq_getElem hk]
theorem fitR_iff {subs : List Nat} {args : List Int} {sym j : Int} {r : Rl} (hl : r.sym = sym → r.args.length = args.length) :
    fitR sym j (ofM (subs.map els) args) r = true ↔ r.sym = sym ∧ r.to = j ∧ fitsTo subs args r.args r.args.length = true := by
  unfold fitR
  rw [Bool.and_eq_true, decide_eq_true_eq, and_assoc]
  refine and_congr_right fun hs => and_congr_right fun _ => ?_
  rw [fitsTo_iff, hl hs]
  have hlen : (ofM (subs.map els) args).length = args.length := by simp [ofM]
  rw [hlen]
  simp only [hasAll, List.all_eq_true, List.mem_range, decide_eq_true_eq]
  constructor
  · intro h i hi
    have := h i hi
    rwa [getD_ofM _ _ hi, getD_els] at this
  · intro h i hi
    rw [getD_ofM _ _ hi, getD_els]
    exact h i hi
/-- The lengths fit: every rule of the symbol takes asx many operands asx args has. -/
theorem els_succ {a : Au} (haok : AuOk a) {subs : List Nat} {args : List Int} {sym : Int} (hl : ∀ r ∈ a.rules, r.sym = sym → r.args.length = args.length) :
    els (succM a subs sym args) = refNext a sym (ofM (subs.map els) args) := by
  have hst := haok.st
  rw [els_subL, refNext_sub]
  have hbit : ∀ j : Nat, (succM a subs sym args).testBit j = true ↔ ∃ r ∈ a.rules, r.sym = sym ∧ fitsTo subs args r.args r.args.length = true ∧ (0 ≤ r.to ∧ r.to < 1024) ∧ r.to = (j : Int) := by
    intro j
    unfold succM
    rw [succTo_testBit (Nat.le_refl _), List.take_length]
    constructor
    · rintro ⟨r, hr, h⟩
      obtain ⟨h1, h2⟩ := rulesOf_mem hr
      exact ⟨r, h1, h2, h⟩
    · rintro ⟨r, hr, hs, h⟩
      exact ⟨r, by simp [rulesOf, hr, hs], h⟩
  refine subL_ext (n := a.states.toNat) (m := 1024) (p := fun s => a.rules.any (fitR sym (s : Int) (ofM (subs.map els) args))) (q := fun i => (succM a subs sym args).testBit i) (by omega) ?_ ?_
  · intro j hj
    rw [Bool.eq_iff_iff, hbit, List.any_eq_true]
    constructor
    · rintro ⟨r, hr, hs, hf, _, ht⟩
      exact ⟨r, hr, (fitR_iff (hl r hr)).2 ⟨hs, ht, hf⟩⟩
    · rintro ⟨r, hr, h⟩
      obtain ⟨hs, ht, hf⟩ := (fitR_iff (hl r hr)).1 h
      exact ⟨r, hr, hs, hf, by omega, ht⟩
  · intro j hj1 hj2
    rw [Bool.eq_false_iff]
    intro h
    obtain ⟨r, hr, _, _, _, ht⟩ := (hbit j).1 h
    have := (haok.ru r hr).2.2.2.2.2
    omega
end Pal

/-
  The program's subset construction is the reference's: steps, rounds, the whole. Own work. No statement of the seat is proved here.
-/
namespace Pal
open Go
def rankN (a : Au) (s : Nat) : Nat := (a.ranks.getD s 0).toNat
/-- A tuple of operands for symbol s below n subsets. -/
def Fits (a : Au) (s n : Nat) (args : List Int) : Prop := s < a.ranks.length ∧ args.length = rankN a s ∧ ∀ x ∈ args, 0 ≤ x ∧ x < (n : Int)
theorem Fits.rank {a : Au} (haok : AuOk a) {s n : Nat} {args : List Int} (h : Fits a s n args) : args.length ≤ 2 ∧ ∀ r ∈ a.rules, r.sym = (s : Int) → r.args.length = args.length := by
  obtain ⟨h1, h2, _⟩ := h
  have h3 := haok.rk s h1
  have h4 : a.ranks.getD s 0 = a.ranks[s] := by simp [List.getD, h1]
  refine ⟨?_, fun r hr hs => ?_⟩
  · rw [h2, rankN, h4]; omega
  · have h5 := (haok.ru r hr).2.2.1
    rw [hs, Int.toNat_natCast] at h5
    rw [h2, rankN, ← h5]
    omega
theorem Fits.mono {a : Au} {s n m : Nat} {args : List Int} (h : Fits a s n args) (hnm : n ≤ m) : Fits a s m args := ⟨h.1, h.2.1, fun x hx => by have := h.2.2 x hx; omega⟩
theorem keyM_inj {s s' : Nat} {x y : List Int} (h : keyM s x = keyM s' y) : s = s' ∧ (x.length = y.length → x.length ≤ 2 → x = y) := by
  simp only [keyM, Prod.mk.injEq] at h
  obtain ⟨h1, h2, h3⟩ := h
  refine ⟨by omega, fun hl hl2 => ?_⟩
  match x, y, hl, hl2 with
  | [], [], _, _ => rfl
  | [a], [b], _, _ => simp at h2; rw [h2]
  | [a, b], [c, d], _, _ => simp at h2 h3; rw [h2, h3]
  | _ :: _ :: _ :: _, _, _, h => simp at h
/-- What the results say. -/
def ResOk (a : Au) (st : DS) : Prop := ∀ p ∈ st.res, ∃ (s : Nat) (args : List Int), p.1 = keyM (s : Int) args ∧ Fits a s st.subs.length args ∧ 0 ≤ p.2 ∧ st.subs[p.2.toNat]? = some (succM a st.subs s args)
theorem fits_append {subs : List Nat} (t : List Nat) {args fr : List Int} (h : ∀ x ∈ args, 0 ≤ x ∧ x < (subs.length : Int)) : ∀ {m : Nat}, m ≤ args.length → fitsTo (subs ++ t) args fr m = fitsTo subs args fr m
  | 0, _ => rfl
  | m + 1, hm => by
    have hx := h _ (List.getElem_mem (show m < args.length by omega))
    have hg : args.getD m 0 = args[m] := by simp [List.getD, show m < args.length by omega]
    have hs : (subs ++ t).getD (args.getD m 0).toNat 0 = subs.getD (args.getD m 0).toNat 0 := by
      rw [hg, List.getD_eq_getElem?_getD, List.getD_eq_getElem?_getD, List.getElem?_append_left (by omega)]
    simp only [fitsTo, fits_append t h (m := m) (by omega), hs]
theorem succM_app {a : Au} (haok : AuOk a) {s : Nat} {subs : List Nat} (t : List Nat) {args : List Int} (h : Fits a s subs.length args) : succM a (subs ++ t) s args = succM a subs s args := by
  have hr := (h.rank haok).2
  unfold succM
  have key : ∀ (rs : List Rl), (∀ r ∈ rs, r.args.length = args.length) → ∀ k, succTo (subs ++ t) args rs k = succTo subs args rs k := by
    intro rs hrs k
    induction k with
    | zero => rfl
    | succ k ih =>
      simp only [succTo, ih]
      cases hk : rs[k]? with
      | none => rfl
      | some r =>
        have hm := hrs r (List.mem_of_getElem? hk)
        simp only [fits_append t h.2.2 (show r.args.length ≤ args.length by omega)]
  exact key _ (fun r hr2 => hr r (rulesOf_mem hr2).1 (rulesOf_mem hr2).2) _
theorem succM_big (a : Au) (subs : List Nat) (sym : Int) (args : List Int) : succM a subs sym args < big := succTo_big _ _ _ _
theorem mem_map_els {subs : List Nat} (hb : ∀ s ∈ subs, s < big) {s : Nat} (hs : s < big) : els s ∈ subs.map els ↔ s ∈ subs := by
  constructor
  · intro h
    obtain ⟨t, ht, he⟩ := List.mem_map.1 h
    exact els_inj (hb t ht) hs he ▸ ht
  · exact fun h => List.mem_map_of_mem h
theorem lookM_key {res : List ((Int × Int × Int) × Int)} {k : Int × Int × Int} {n : Int} (h : lookM res k = some n) : ∃ p ∈ res, p.1 = k ∧ p.2 = n := by
  unfold lookM at h
  obtain ⟨p, hp, rfl⟩ := Option.map_eq_some_iff.1 h
  exact ⟨p, List.mem_of_find?_eq_some hp, by simpa using List.find?_some hp, rfl⟩
def KeyIn (st : DS) (s : Nat) (args : List Int) : Prop := ∃ n, lookM st.res (keyM (s : Int) args) = some n
def KeysLe (st st' : DS) : Prop := ∀ k n, lookM st.res k = some n → lookM st'.res k = some n
theorem KeysLe.refl (st : DS) : KeysLe st st := fun _ _ h => h
theorem KeysLe.trans {a b c : DS} (h : KeysLe a b) (k : KeysLe b c) : KeysLe a c := fun x n hx => k x n (h x n hx)
theorem lookM_app {res : List ((Int × Int × Int) × Int)} {k k' : Int × Int × Int} {n m : Int} (h : lookM res k = some n) : lookM (res ++ [(k', m)]) k = some n := by
  unfold lookM at h ⊢
  rw [List.find?_append]
  cases hf : res.find? (fun p => decide (p.1 = k)) with
  | none => rw [hf] at h; cases h
  | some p => rw [hf] at h; simpa using h
theorem lookM_new {res : List ((Int × Int × Int) × Int)} {k : Int × Int × Int} {m : Int} (h : lookM res k = none) : lookM (res ++ [(k, m)]) k = some m := by
  unfold lookM at h ⊢
  rw [List.find?_append]
  cases hf : res.find? (fun p => decide (p.1 = k)) with
  | none => simp
  | some p => rw [hf] at h; cases h
structure Good (a : Au) (limit : Int) (st : DS) : Prop where
  inv : st.Inv limit
  res : ResOk a st
/-- Done, asx the reference does it; or the limit is too small for what the reference finds. -/
def Did (a : Au) (limit : Int) (st : DS) (r : Option DS) (ref : List (List Int)) (K : DS → Prop) : Prop :=
  (∃ st', r = some st' ∧ Good a limit st' ∧ st'.subs.map els = ref ∧ KeysLe st st' ∧ K st' ∧ st.subs.length ≤ st'.subs.length) ∨ (r = none ∧ limit < (ref.length : Int))
theorem idxOf_getElem? {α : Type} [BEq α] [LawfulBEq α] {l : List α} {x : α} (h : x ∈ l) : l[l.idxOf x]? = some x := by
  have := List.idxOf_lt_length_of_mem h
  rw [List.getElem?_eq_getElem this]
  simp
theorem addM_ref {a : Au} (haok : AuOk a) {limit : Int} (hlm : limit ≤ 1048576) {st : DS} (hg : Good a limit st) {s : Nat} {args : List Int} (hf : Fits a s st.subs.length args) :
    Did a limit st (addM a limit s st args) (refStep a s (st.subs.map els) args) fun st' => KeyIn st' s args := by
  obtain ⟨hl2, hrl⟩ := hf.rank haok
  have hsucc := els_succ haok (subs := st.subs) hrl
  have hsb := succM_big a st.subs s args
  have hmem := mem_map_els hg.inv.bg hsb
  have hsi : i64ok (s : Int) := by
    have := hf.1
    have := haok.rl
    simp only [i64ok]; omega
  have hai : ∀ x ∈ args, i64ok x := by
    intro x hx
    have h1 := hf.2.2 x hx
    have h2 := hg.inv.le
    simp only [i64ok]; omega
  unfold refStep
  rw [← hsucc]
  cases hlk : lookM st.res (keyM (s : Int) args) with
  | some n =>
    have hadd : addM a limit s st args = some st := by simp [addM, hlk]
    obtain ⟨p, hp, hk, _⟩ := lookM_key hlk
    obtain ⟨s', args', hk', hf', h0, hsub⟩ := hg.res p hp
    obtain ⟨hs, ha⟩ := keyM_inj (hk.symm.trans hk')
    subst hs
    have hargs : args = args' := ha (by rw [hf.2.1, hf'.2.1]) hl2
    subst hargs
    rw [if_pos (hmem.2 (List.mem_of_getElem? hsub)), hadd]
    exact .inl ⟨st, rfl, hg, rfl, KeysLe.refl st, ⟨n, hlk⟩, Nat.le_refl _⟩
  | none =>
    by_cases hm : succM a st.subs s args ∈ st.subs
    · have hnum : numM st.subs (succM a st.subs s args) = some ((st.subs.idxOf (succM a st.subs s args) : Nat) : Int) := by simp [numM, hm]
      have hadd : addM a limit s st args = some ⟨st.subs, st.res ++ [(keyM s args, ((st.subs.idxOf (succM a st.subs s args) : Nat) : Int))]⟩ := by simp [addM, hlk, hnum]
      rw [if_pos (hmem.2 hm), hadd]
      refine .inl ⟨_, rfl, ⟨addM_inv hg.inv hsi hai hadd, ?_⟩, rfl, fun k n h => lookM_app h, ⟨_, lookM_new hlk⟩, Nat.le_refl _⟩
      intro p hp
      rcases List.mem_append.1 hp with hp | hp
      · exact hg.res p hp
      · simp at hp
        subst hp
        exact ⟨s, args, rfl, hf, by simp, by simpa using idxOf_getElem? hm⟩
    · have hnum : numM st.subs (succM a st.subs s args) = none := by simp [numM, hm]
      rw [if_neg (fun h => hm (hmem.1 h))]
      by_cases hlim : (st.subs.length : Int) = limit
      · have hadd : addM a limit s st args = none := by simp [addM, hlk, hnum, hlim]
        exact .inr ⟨hadd, by simp; omega⟩
      · have hadd : addM a limit s st args = some ⟨st.subs ++ [succM a st.subs s args], st.res ++ [(keyM s args, (st.subs.length : Int))]⟩ := by simp [addM, hlk, hnum, hlim]
        rw [hadd]
        refine .inl ⟨_, rfl, ⟨addM_inv hg.inv hsi hai hadd, ?_⟩, by simp, fun k n h => lookM_app h, ⟨_, lookM_new hlk⟩, by simp⟩
        intro p hp
        dsimp only at hp ⊢
        rcases List.mem_append.1 hp with hp | hp
        · obtain ⟨s', args', h1, h2, h3, h4⟩ := hg.res p hp
          refine ⟨s', args', h1, h2.mono (by rw [List.length_append]; omega), h3, ?_⟩
          rw [succM_app haok _ h2, ← h4]
          exact List.getElem?_append_left (List.getElem?_eq_some_iff.1 h4).1
        · simp at hp
          subst hp
          refine ⟨s, args, rfl, hf.mono (by rw [List.length_append]; omega), by simp, ?_⟩
          rw [succM_app haok _ hf]
          simp
theorem refSteps_len (a : Au) (sym : Int) : ∀ (xss : List (List Int)) (out : List (List Int)), out.length ≤ (refSteps a sym xss out).length
  | [], _ => Nat.le_refl _
  | x :: xs, out => Nat.le_trans (refStep_len a sym out x) (refSteps_len a sym xs _)
theorem refSyms_len (a : Au) (was : Nat) : ∀ (rs : List Int) (sym : Int) (out : List (List Int)), out.length ≤ (refSyms a was rs sym out).length
  | [], _, _ => Nat.le_refl _
  | _ :: rs, sym, out => Nat.le_trans (refSteps_len a sym _ out) (refSyms_len a was rs (sym + 1) _)
theorem refRounds_len (a : Au) : ∀ (f : Nat) (was : Int) (out : List (List Int)), out.length ≤ (refRounds a f was out).length
  | 0, _, _ => Nat.le_refl _
  | f + 1, was, out => by
    rw [refRounds]
    split
    · exact Nat.le_trans (refSyms_len a _ _ _ out) (refRounds_len a f _ _)
    · exact Nat.le_refl _
theorem RefOk.step {a : Au} {out : List (List Int)} (h : RefOk a out) (sym : Int) (xs : List Int) : RefOk a (refStep a sym out xs) := by
  unfold refStep
  split
  · exact h
  · rename_i hn; exact h.snoc hn
theorem RefOk.steps {a : Au} (sym : Int) : ∀ (xss : List (List Int)) {out : List (List Int)}, RefOk a out → RefOk a (refSteps a sym xss out)
  | [], _, h => h
  | x :: xs, _, h => RefOk.steps sym xs (h.step sym x)
theorem RefOk.syms {a : Au} (was : Nat) : ∀ (rs : List Int) (sym : Int) {out : List (List Int)}, RefOk a out → RefOk a (refSyms a was rs sym out)
  | [], _, _, h => h
  | _ :: rs, sym, _, h => RefOk.syms was rs (sym + 1) (h.steps sym _)
theorem RefOk.rounds {a : Au} : ∀ (f : Nat) (was : Int) {out : List (List Int)}, RefOk a out → RefOk a (refRounds a f was out)
  | 0, _, _, h => h
  | f + 1, was, out, h => by
    rw [refRounds]
    split
    · exact RefOk.rounds f _ (h.syms _ _ _)
    · exact h
theorem addsM_ref {a : Au} (haok : AuOk a) {limit : Int} (hlm : limit ≤ 1048576) {s : Nat} : ∀ {xss : List (List Int)} {st : DS}, Good a limit st → (∀ x ∈ xss, Fits a s st.subs.length x) →
    Did a limit st (addsM a limit s xss st) (refSteps a s xss (st.subs.map els)) fun st' => ∀ x ∈ xss, KeyIn st' s x
  | [], st, hg, _ => .inl ⟨st, rfl, hg, rfl, KeysLe.refl st, by simp, Nat.le_refl _⟩
  | x :: xs, st, hg, hf => by
    rcases addM_ref haok hlm hg (hf x (by simp)) with ⟨st1, h1, hg1, he1, hk1, hx1, hl1⟩ | ⟨h1, h2⟩
    · have hf1 : ∀ y ∈ xs, Fits a s st1.subs.length y := fun y hy => (hf y (by simp [hy])).mono hl1
      rcases addsM_ref haok hlm hg1 hf1 with ⟨st2, h2, hg2, he2, hk2, hx2, hl2⟩ | ⟨h2, h3⟩
      · refine .inl ⟨st2, by simp [addsM, h1, h2], hg2, by rw [he2, he1]; rfl, hk1.trans hk2, ?_, Nat.le_trans hl1 hl2⟩
        intro y hy
        rcases List.mem_cons.1 hy with rfl | hy
        · obtain ⟨n, hn⟩ := hx1; exact ⟨n, hk2 _ _ hn⟩
        · exact hx2 y hy
      · exact .inr ⟨by simp [addsM, h1, h2], by rw [he1] at h3; exact h3⟩
    · refine .inr ⟨by simp [addsM, h1], ?_⟩
      have := refSteps_len a s xs (refStep a s (st.subs.map els) x)
      have he : refSteps a s (x :: xs) (st.subs.map els) = refSteps a s xs (refStep a s (st.subs.map els) x) := rfl
      rw [he]; omega
theorem roundM_ref {a : Au} (haok : AuOk a) {limit : Int} (hlm : limit ≤ 1048576) {was : Nat} : ∀ {rs : List Int} {s : Nat} {st : DS}, rs = a.ranks.drop s → Good a limit st → was ≤ st.subs.length →
    Did a limit st (roundM a limit was rs s st) (refSyms a was rs s (st.subs.map els)) fun st' => ∀ t, s ≤ t → t < a.ranks.length → ∀ x ∈ tups was (rankN a t), KeyIn st' t x
  | [], s, st, hrs, hg, _ => by
    refine .inl ⟨st, rfl, hg, rfl, KeysLe.refl st, ?_, Nat.le_refl _⟩
    intro t h1 h2
    have h3 := congrArg List.length hrs
    simp at h3; omega
  | r :: rs, s, st, hrs, hg, hw => by
    have hs : s < a.ranks.length := by
      have h3 := congrArg List.length hrs
      simp at h3; omega
    rw [List.drop_eq_getElem_cons hs] at hrs
    simp only [List.cons.injEq] at hrs
    obtain ⟨hr, hrs⟩ := hrs
    have hrk : rankN a s = r.toNat := by simp [rankN, List.getD, hs, hr]
    have hfit : ∀ x ∈ tups was r.toNat, Fits a s st.subs.length x := by
      intro x hx
      obtain ⟨h1, h2⟩ := tups_item hx
      exact ⟨hs, by rw [h1, hrk], fun y hy => by have := h2 y hy; omega⟩
    have hstep := addsM_ref haok hlm (s := s) hg hfit
    have hsym : ((s : Int) + 1) = ((s + 1 : Nat) : Int) := by omega
    rcases hstep with ⟨st1, h1, hg1, he1, hk1, hx1, hl1⟩ | ⟨h1, h2⟩
    · rcases roundM_ref haok hlm (s := s + 1) hrs hg1 (Nat.le_trans hw hl1) with ⟨st2, h2, hg2, he2, hk2, hx2, hl2⟩ | ⟨h2, h3⟩
      · refine .inl ⟨st2, by rw [roundM, ext_nil, h1, hsym]; exact h2, hg2, by rw [refSyms, ← he1, hsym]; exact he2, hk1.trans hk2, ?_, Nat.le_trans hl1 hl2⟩
        intro t ht1 ht2 x hx
        by_cases e : t = s
        · subst e
          rw [hrk] at hx
          obtain ⟨n, hn⟩ := hx1 x hx
          exact ⟨n, hk2 _ _ hn⟩
        · exact hx2 t (by omega) ht2 x hx
      · exact .inr ⟨by rw [roundM, ext_nil, h1, hsym]; exact h2, by rw [refSyms, ← he1, hsym]; exact h3⟩
    · refine .inr ⟨by rw [roundM, ext_nil, h1]; rfl, ?_⟩
      have := refSyms_len a was rs ((s : Int) + 1) (refSteps a s (tups was r.toNat) (st.subs.map els))
      rw [refSyms]; omega
theorem buildM_ref {a : Au} (haok : AuOk a) {limit : Int} (hlm : limit ≤ 1048576) : ∀ {f F : Nat} {was : Int} {st : DS}, Good a limit st → limit - st.subs.length < f → was < st.subs.length → (64 : Int) - was < F → (st.subs.length : Int) ≤ 64 → RefOk a (st.subs.map els) → a.states ≤ 6 →
    Did a limit st (buildM a limit f st) (refRounds a F was (st.subs.map els)) fun st' => ∀ t, t < a.ranks.length → ∀ x ∈ tups st'.subs.length (rankN a t), KeyIn st' t x
  | 0, _, _, st, hg, hf, _, _, _, _, _ => by have := hg.inv.le; omega
  | f + 1, 0, _, _, _, _, hw, hF, h64, _, _ => by omega
  | f + 1, F + 1, was, st, hg, hf, hw, hF, h64, hro, h6 => by
    have hlen : (st.subs.map els).length = st.subs.length := List.length_map ..
    have hR : refRounds a (F + 1) was (st.subs.map els) = refRounds a F st.subs.length (refSyms a st.subs.length a.ranks 0 (st.subs.map els)) := by
      rw [refRounds, hlen, if_pos hw]
    rcases roundM_ref haok hlm (was := st.subs.length) (s := 0) (rs := a.ranks) rfl hg (Nat.le_refl _) with ⟨st1, h1, hg1, he1, hk1, hx1, hl1⟩ | ⟨h1, h2⟩
    · have h1' : roundM a limit st.subs.length a.ranks 0 st = some st1 := h1
      have he1' : st1.subs.map els = refSyms a st.subs.length a.ranks 0 (st.subs.map els) := he1
      have hlen1 : (st1.subs.map els).length = st1.subs.length := List.length_map ..
      by_cases hsame : st1.subs.length = st.subs.length
      · refine .inl ⟨st1, by rw [buildM, h1']; simp [hsame], hg1, ?_, hk1, ?_, hl1⟩
        · rw [hR, ← he1']
          cases F with
          | zero => rfl
          | succ F => rw [refRounds, hlen1, if_neg (by omega)]
        · intro t ht x hx
          rw [hsame] at hx
          exact hx1 t (Nat.zero_le _) ht x hx
      · have hro1 : RefOk a (st1.subs.map els) := by
          rw [he1']
          exact hro.syms _ _ _
        have h641 := hro1.len h6
        rcases buildM_ref haok hlm (f := f) (F := F) (was := st.subs.length) hg1 (by omega) (by omega) (by omega) (by omega) hro1 h6 with ⟨st2, h2, hg2, he2, hk2, hx2, hl2⟩ | ⟨h2, h3⟩
        · exact .inl ⟨st2, by rw [buildM, h1']; simp [hsame, h2], hg2, by rw [hR, ← he1']; exact he2, hk1.trans hk2, hx2, Nat.le_trans hl1 hl2⟩
        · exact .inr ⟨by rw [buildM, h1']; simp [hsame, h2], by rw [hR, ← he1']; exact h3⟩
    · have h1' : roundM a limit st.subs.length a.ranks 0 st = none := h1
      refine .inr ⟨by rw [buildM, h1']; rfl, ?_⟩
      have := refRounds_len a F (st.subs.length : Int) (refSyms a st.subs.length a.ranks 0 (st.subs.map els))
      rw [hR]
      have h2' : limit < ((refSyms a st.subs.length a.ranks 0 (st.subs.map els)).length : Int) := h2
      omega
theorem and_els {s : Nat} (hs : s < big) (xs : List Int) : (!decide (s &&& ofL xs = 0)) = (els s).any fun x => decide (x ∈ xs) := by
  rw [Bool.eq_iff_iff]
  simp only [Bool.not_eq_true', decide_eq_false_iff_not, List.any_eq_true, decide_eq_true_eq]
  constructor
  · intro h
    obtain ⟨j, hj, hb⟩ := exists_bit h (show s &&& ofL xs < 2 ^ kBits from big_eq ▸ and_big _ hs)
    rw [Nat.testBit_and, ofL_testBit, Bool.and_eq_true, decide_eq_true_eq] at hb
    rw [kBits_eq] at hj
    exact ⟨(j : Int), mem_els.2 ⟨by omega, by simpa using hb.1⟩, hb.2.2⟩
  · rintro ⟨x, hx, hm⟩ h0
    obtain ⟨h1, h2⟩ := mem_els.1 hx
    have : (s &&& ofL xs).testBit x.toNat = true := by
      rw [Nat.testBit_and, ofL_testBit, h2, Bool.true_and, decide_eq_true_eq]
      exact ⟨by omega, by rw [show ((x.toNat : Nat) : Int) = x by omega]; exact hm⟩
    rw [h0] at this
    simp at this
/-- The program's construction, seen from the reference's. -/
theorem cons_ref {a : Au} (he : auErr a = 0) (h6 : a.states ≤ 6) {most : Int} (hm : 1 ≤ most) :
    (most < ((refSubs a).length : Int) ∧ consM a most = (8, none)) ∨
    (((refSubs a).length : Int) ≤ most ∧ ∃ st, consM a most = (0, some st) ∧ st.subs.map els = refSubs a ∧ fromM a st = refFrom a) := by
  have haok := AuOk.of he
  have hlim1 : 1 ≤ limM most := by unfold limM; split <;> omega
  have hlim2 : limM most ≤ 512 := by unfold limM; split <;> omega
  have hlim3 : limM most ≤ most := by unfold limM; split <;> omega
  have hlim4 : limM most = most ∨ limM most = 512 := by unfold limM; split <;> omega
  have hg0 : Good a (limM most) ⟨[], []⟩ := ⟨DS.Inv.nil (by omega), fun p hp => by cases hp⟩
  have hro0 : RefOk a ((⟨[], []⟩ : DS).subs.map els) := RefOk.nil a
  have hRok : RefOk a (refSubs a) := (RefOk.nil a).rounds _ _
  have hR64 := hRok.len h6
  have hcons : consM a most = match buildM a (limM most) 513 ⟨[], []⟩ with | none => (8, none) | some st => (0, some st) := by
    unfold consM
    rw [if_neg (by omega), if_neg (by omega)]
    first | done | rfl
  rcases buildM_ref haok (by omega) (f := 513) (F := 130) (was := -1) hg0 (by simp; omega) (by simp) (by decide) (by simp) hro0 h6 with ⟨st, h1, hg, hs, _, hx, _⟩ | ⟨h1, h2⟩
  · rw [h1] at hcons
    have hs' : st.subs.map els = refSubs a := hs
    have hlen : st.subs.length = (refSubs a).length := by rw [← hs', List.length_map]
    refine .inr ⟨by have := hg.inv.le; omega, st, hcons, hs', ?_⟩
    have hacc : accM a st = refFinal a (refSubs a) := by
      rw [← hs']
      simp only [accM, refFinal, List.map_map]
      refine List.map_congr_left fun s hsm => ?_
      dsimp only [Function.comp]
      exact and_els (hg.inv.bg s hsm) a.final
    have hto : (List.range a.ranks.length).map (toM a st) = (List.range a.ranks.length).map (refTo a (refSubs a)) := by
      refine List.map_congr_left fun t ht => ?_
      have ht' := List.mem_range.1 ht
      simp only [toM, refTo, ext_nil, hlen]
      refine List.map_congr_left fun xs hxs => ?_
      obtain ⟨n, hn⟩ := hx t ht' xs (by rw [hlen]; exact hxs)
      obtain ⟨p, hp, hk, rfl⟩ := lookM_key hn
      obtain ⟨s', args', hk', hf', h0, hsub⟩ := hg.res p hp
      obtain ⟨hst, ha⟩ := keyM_inj (hk.symm.trans hk')
      subst hst
      obtain ⟨hi1, hi2⟩ := tups_item hxs
      have hargs : xs = args' := ha (by rw [hf'.2.1]; exact hi1) (by have h2 := (hf'.rank haok).1; rw [hf'.2.1] at h2; rw [hi1]; exact h2)
      subst hargs
      simp only [valM, hn, Option.getD_some]
      have hsu := els_succ haok (subs := st.subs) (hf'.rank haok).2
      rw [hs'] at hsu
      rw [← hsu]
      have hmem : succM a st.subs t xs ∈ st.subs := List.mem_of_getElem? hsub
      have hmem2 : els (succM a st.subs t xs) ∈ refSubs a := by rw [← hs']; exact List.mem_map_of_mem hmem
      rw [refFind, if_pos hmem2]
      obtain ⟨hlt, hge⟩ := List.getElem?_eq_some_iff.1 hsub
      have hlt2 : p.2.toNat < (refSubs a).length := by omega
      have hge2 : (refSubs a)[p.2.toNat] = els (succM a st.subs t xs) := by
        have : (st.subs.map els)[p.2.toNat]'(by rw [List.length_map]; exact hlt) = els (succM a st.subs t xs) := by rw [List.getElem_map, hge]
        simpa [hs'] using this
      have := idxOf_at hlt2 hge2 (fun j hj hjk e => by
        have := (List.getElem_inj (xs := refSubs a) hRok.nd).1 (e.trans hge2.symm)
        omega)
      rw [this]; omega
    simp only [fromM, refFrom, hacc, hto]
  · rw [h1] at hcons
    have h2' : limM most < ((refSubs a).length : Int) := h2
    exact .inl ⟨by omega, hcons⟩
/-- The four ways of the construction. -/
theorem cons_ways (a : Au) (most : Int) (h6 : a.states ≤ 6) : ∃ (E : Int) (o : Option DS), consM a most = (E, o) ∧
    ((auErr a ≠ 0 ∧ E = auErr a ∧ o = none) ∨ (auErr a = 0 ∧ most < 1 ∧ E = 2 ∧ o = none) ∨ (auErr a = 0 ∧ ¬ most < 1 ∧ most < ((refSubs a).length : Int) ∧ E = 8 ∧ o = none) ∨
      (auErr a = 0 ∧ ¬ most < 1 ∧ ¬ most < ((refSubs a).length : Int) ∧ E = 0 ∧ ∃ st, o = some st ∧ st.subs.map els = refSubs a ∧ fromM a st = refFrom a)) := by
  refine ⟨(consM a most).1, (consM a most).2, rfl, ?_⟩
  by_cases h0 : auErr a = 0
  · by_cases h1 : most < 1
    · have : consM a most = (2, none) := by unfold consM; rw [if_neg (by omega), if_pos h1]
      rw [this]
      exact .inr (.inl ⟨h0, h1, rfl, rfl⟩)
    · rcases cons_ref h0 h6 (most := most) (by omega) with ⟨h2, h3⟩ | ⟨h2, st, h3, h4, h5⟩
      · rw [h3]; exact .inr (.inr (.inl ⟨h0, h1, h2, rfl, rfl⟩))
      · rw [h3]; exact .inr (.inr (.inr ⟨h0, h1, by omega, rfl, st, rfl, h4, h5⟩))
  · have : consM a most = (auErr a, none) := by unfold consM; rw [if_pos h0]
    rw [this]
    exact .inl ⟨h0, rfl, rfl⟩
theorem RepDt.nil (H : View) : RepDt H ⟨[], [], []⟩ nilS nilS nilS := ⟨⟨⟨none, 0, rfl, .inl ⟨rfl, rfl⟩⟩, by simp⟩, ⟨none, 0, rfl, .inl ⟨rfl, rfl⟩⟩, SSI.nil _ none 0⟩
def DtSmall (d : Dt) : Prop := d.ranks.length ≤ 1099511627776 ∧ d.acc.length ≤ 1099511627776 ∧ d.to.length ≤ 1099511627776 ∧ ∀ x ∈ d.to, x.length ≤ 1099511627776
theorem refFrom_small {a : Au} (he : auErr a = 0) (h6 : a.states ≤ 6) : DtSmall (refFrom a) := by
  have haok := AuOk.of he
  have h1 := haok.rl
  have h2 := ((RefOk.nil a).rounds 130 (-1)).len h6
  refine ⟨by simp only [refFrom]; omega, ?_, ?_, ?_⟩
  · simp only [refFrom, refFinal, List.length_map]
    exact Nat.le_trans h2 (by decide)
  · simp only [refFrom, List.length_map, List.length_range]; omega
  · intro x hx
    simp only [refFrom, List.mem_map, List.mem_range] at hx
    obtain ⟨s, hs, rfl⟩ := hx
    simp only [refTo, List.length_map, tups_len]
    have hr := haok.rk s hs
    have hg : a.ranks.getD s 0 = a.ranks[s] := by simp [List.getD, hs]
    rw [hg]
    exact Nat.le_trans (pow_le2 (k := (refSubs a).length) (Nat.le_trans h2 (by decide)) (by omega)) (by decide)
theorem DtSmall.nil : DtSmall ⟨[], [], []⟩ := ⟨by simp, by simp, by simp, by simp⟩
end Pal

/-
  Deterministic automata and trees asx plain data: what is wrong with them, runs, relabelings. Own work. No statement of the seat is proved here.
-/
namespace Pal
open Go
section
variable {P : Program} {l : KL} {hl : HL} {H : View} {ty : TypeId}
theorem R_max2 {x y : Operand} {ats : Array TypeId} {a b : Int} {k : IntKind} (hx : ev l x = some (.int k a)) (hy : ev l y = some (.int k b)) : ValOk P l H hl (.call ⟨.builtin .max, #[x, y], ats⟩) ty (.int k (if b > a then b else a)) := by
  intro e w hk _
  simp only [ex, execOp, resolve, hk x _ hx, hk y _ hy, invoke, builtin]
  simp [Builtin.max_, Builtin.max2, hk x _ hx, hk y _ hy]
end
theorem bools_one (xs : List Bool) : (bools xs).all Value.oneCell' = true := by
  induction xs with
  | nil => rfl
  | cons x r ih => exact ih
/-! ### Trees over an alphabet -/
mutual
def Tr.nodesErr (rk : List Int) : Tr → Int
  | .node s ts => if s < 0 ∨ (rk.length : Int) ≤ s then 6 else if (ts.length : Int) ≠ rk.getD s.toNat 0 then 3 else Tr.nodesErrs rk ts
def Tr.nodesErrs (rk : List Int) : List Tr → Int
  | [] => 0
  | t :: r => if Tr.nodesErr rk t ≠ 0 then Tr.nodesErr rk t else Tr.nodesErrs rk r
end
theorem Tr.nodesErrs_cons {rk : List Int} {ts : List Tr} {k : Nat} (hk : k < ts.length) : Tr.nodesErrs rk (ts.drop k) = if Tr.nodesErr rk ts[k] ≠ 0 then Tr.nodesErr rk ts[k] else Tr.nodesErrs rk (ts.drop (k + 1)) := by
  rw [List.drop_eq_getElem_cons hk]; simp only [Tr.nodesErrs]
theorem Tr.nodesErrs_zero {rk : List Int} : ∀ {ts : List Tr}, Tr.nodesErrs rk ts = 0 ↔ ∀ t ∈ ts, Tr.nodesErr rk t = 0
  | [] => by simp [Tr.nodesErrs]
  | t :: r => by
    simp only [Tr.nodesErrs, List.mem_cons, forall_eq_or_imp]
    by_cases h : Tr.nodesErr rk t = 0
    · simp [h, Tr.nodesErrs_zero (ts := r)]
    · simp [h]
theorem Tr.nodesErr_zero {rk : List Int} {s : Int} {ts : List Tr} : Tr.nodesErr rk (.node s ts) = 0 ↔ (0 ≤ s ∧ s < rk.length) ∧ (ts.length : Int) = rk.getD s.toNat 0 ∧ ∀ t ∈ ts, Tr.nodesErr rk t = 0 := by
  simp only [Tr.nodesErr]
  by_cases h : s < 0 ∨ (rk.length : Int) ≤ s
  · rw [if_pos h]
    constructor
    · intro h2; omega
    · rintro ⟨h1, _⟩; omega
  · rw [if_neg h]
    by_cases h2 : (ts.length : Int) = rk.getD s.toNat 0
    · rw [if_neg (by omega), Tr.nodesErrs_zero]
      constructor
      · intro h3; exact ⟨by omega, h2, h3⟩
      · rintro ⟨_, _, h3⟩; exact h3
    · rw [if_pos h2]
      constructor
      · intro h3; omega
      · rintro ⟨_, h3, _⟩; exact absurd h3 h2
def validErr (rk : List Int) (t : Tr) : Int := if ranksErr rk ≠ 0 then ranksErr rk else if (4096 : Int) < t.size then 2 else if (256 : Int) < t.deep then 16 else Tr.nodesErr rk t
/-! ### Deterministic automata -/
def widthBad (d : Dt) : Bool := (List.range d.to.length).any fun s => decide ((d.to.getD s []).length ≠ d.acc.length ^ (d.ranks.getD s 0).toNat)
def entryBad (d : Dt) : Bool := d.to.any fun l => l.any (badQ d.acc.length)
def dtErr (d : Dt) : Int :=
  if ranksErr d.ranks ≠ 0 then ranksErr d.ranks else if (d.acc.length : Int) < 1 ∨ (512 : Int) < d.acc.length then 2 else if (d.to.length : Int) ≠ d.ranks.length then 3
  else if widthBad d = true then 3 else if entryBad d = true then 2 else 0
theorem ranksErr_ok {rk : List Int} (h : ranksErr rk = 0) : (1 ≤ rk.length ∧ rk.length ≤ 4096) ∧ ∀ s (hs : s < rk.length), 0 ≤ rk[s] ∧ rk[s] ≤ 2 := by
  unfold ranksErr at h
  split at h
  · cases h
  · split at h
    · cases h
    · rename_i h1 h2
      refine ⟨by omega, fun s hs => ?_⟩
      have h3 := List.any_eq_false.1 (Bool.eq_false_iff.2 h2) _ (List.getElem_mem hs)
      simp only [decide_eq_true_eq] at h3
      omega
structure DtOk (d : Dt) : Prop where
  rk : ranksErr d.ranks = 0
  n : 1 ≤ d.acc.length ∧ d.acc.length ≤ 512
  tl : d.to.length = d.ranks.length
  w : ∀ s, s < d.ranks.length → (d.to.getD s []).length = d.acc.length ^ (d.ranks.getD s 0).toNat
  e : ∀ x ∈ d.to, ∀ q ∈ x, 0 ≤ q ∧ q < d.acc.length
theorem DtOk.of {d : Dt} (h : dtErr d = 0) : DtOk d := by
  unfold dtErr at h
  split at h
  · rename_i h1; exact absurd h h1
  · split at h
    · cases h
    · split at h
      · cases h
      · split at h
        · cases h
        · split at h
          · cases h
          · rename_i h1 h2 h3 h4 h5
            have htl : d.to.length = d.ranks.length := by omega
            refine ⟨Decidable.not_not.1 h1, by omega, htl, ?_, ?_⟩
            · intro s hs
              have := List.any_eq_false.1 (Bool.eq_false_iff.2 h4) s (List.mem_range.2 (by omega))
              simpa using this
            · intro x hx q hq
              have := List.any_eq_false.1 (Bool.eq_false_iff.2 h5) x hx
              have := List.any_eq_false.1 (Bool.eq_false_iff.2 this) q hq
              exact badQ_false (Bool.eq_false_iff.2 this)
theorem DtOk.err {d : Dt} (h : DtOk d) : dtErr d = 0 := by
  unfold dtErr
  have hn := h.n
  rw [if_neg (by rw [h.rk]; simp), if_neg (by omega), if_neg (by rw [h.tl]; simp)]
  have h4 : widthBad d = false := by
    unfold widthBad
    rw [List.any_eq_false]
    intro s hs
    have := h.w s (by have := List.mem_range.1 hs; rw [h.tl] at this; exact this)
    simp only [this, ne_eq, not_true_eq_false, decide_false]; simp
  have h5 : entryBad d = false := by
    unfold entryBad
    rw [List.any_eq_false]
    intro x hx
    rw [Bool.not_eq_true, List.any_eq_false]
    intro q hq
    have := h.e x hx q hq
    simp [badQ, this]
  rw [h4, h5]
  simp
/-- The place of operand states. -/
def placeM (n : Nat) (l : List Int) : Int := l.foldl (fun p s => p * (n : Int) + s) 0
theorem placeM_take {n : Nat} {l : List Int} {k : Nat} (hk : k < l.length) : placeM n (l.take (k + 1)) = placeM n (l.take k) * n + l[k] := by
  unfold placeM
  rw [List.take_succ_eq_append_getElem hk, List.foldl_append]; rfl
theorem placeM_lt {n : Nat} {l : List Int} (h : ∀ x ∈ l, 0 ≤ x ∧ x < (n : Int)) : ∀ k, k ≤ l.length → 0 ≤ placeM n (l.take k) ∧ placeM n (l.take k) < ((n ^ k : Nat) : Int)
  | 0, _ => by simp [placeM]
  | k + 1, hk => by
    obtain ⟨h1, h2⟩ := placeM_lt h k (by omega)
    obtain ⟨h3, h4⟩ := h _ (List.getElem_mem (show k < l.length by omega))
    rw [placeM_take (show k < l.length by omega)]
    have h5 : placeM n (l.take k) + 1 ≤ ((n ^ k : Nat) : Int) := by omega
    have h6 : (placeM n (l.take k) + 1) * (n : Int) ≤ ((n ^ k : Nat) : Int) * (n : Int) := Int.mul_le_mul_of_nonneg_right h5 (by omega)
    have h7 : (((n ^ (k + 1) : Nat)) : Int) = ((n ^ k : Nat) : Int) * (n : Int) := by rw [Nat.pow_succ]; exact Int.natCast_mul _ _
    have h8 : 0 ≤ placeM n (l.take k) * (n : Int) := Int.mul_nonneg h1 (by omega)
    rw [Int.add_mul, Int.one_mul] at h6
    exact ⟨by omega, by omega⟩
def atM (d : Dt) (sym : Int) (l : List Int) : Int := (d.to.getD sym.toNat []).getD (placeM d.acc.length l).toNat 0
mutual
def Tr.run (d : Dt) : Tr → Int
  | .node s ts => atM d s (Tr.runs d ts)
def Tr.runs (d : Dt) : List Tr → List Int
  | [] => []
  | t :: r => Tr.run d t :: Tr.runs d r
end
theorem Tr.runs_map (d : Dt) : ∀ ts : List Tr, Tr.runs d ts = ts.map (Tr.run d)
  | [] => rfl
  | t :: r => by simp only [Tr.runs, List.map_cons, Tr.runs_map d r]
/-- Operands of a symbol: asx many asx its rank, all states. -/
theorem DtOk.at_ok {d : Dt} (h : DtOk d) {s : Int} {l : List Int} (hs : 0 ≤ s ∧ s < d.ranks.length) (hl : (l.length : Int) = d.ranks.getD s.toNat 0) (hx : ∀ x ∈ l, 0 ≤ x ∧ x < (d.acc.length : Int)) :
    s.toNat < d.to.length ∧ (0 ≤ placeM d.acc.length l ∧ (placeM d.acc.length l).toNat < (d.to.getD s.toNat []).length) ∧ 0 ≤ atM d s l ∧ atM d s l < d.acc.length := by
  have hs' : s.toNat < d.ranks.length := by omega
  have hw := h.w _ hs'
  have hp := placeM_lt hx l.length (Nat.le_refl _)
  rw [List.take_length] at hp
  have hr : (d.ranks.getD s.toNat 0).toNat = l.length := by omega
  rw [hr] at hw
  have hlt : (placeM d.acc.length l).toNat < (d.to.getD s.toNat []).length := by omega
  have htl : s.toNat < d.to.length := by rw [h.tl]; exact hs'
  have hg : d.to.getD s.toNat [] = d.to[s.toNat] := by simp [List.getD, htl]
  refine ⟨htl, ⟨hp.1, hlt⟩, ?_⟩
  unfold atM
  have hg2 : (d.to.getD s.toNat []).getD (placeM d.acc.length l).toNat 0 = (d.to.getD s.toNat [])[(placeM d.acc.length l).toNat] := by
    simp only [List.getD_eq_getElem?_getD (l := d.to.getD s.toNat []), List.getElem?_eq_getElem hlt, Option.getD_some]
  rw [hg2]
  exact h.e (d.to.getD s.toNat []) (hg ▸ List.getElem_mem htl) _ (List.getElem_mem hlt)
theorem Tr.run_ok {d : Dt} (h : DtOk d) : ∀ (m : Nat) (t : Tr), t.size ≤ m → Tr.nodesErr d.ranks t = 0 → 0 ≤ Tr.run d t ∧ Tr.run d t < d.acc.length
  | 0, t, hm, _ => by have := t.size_pos; omega
  | m + 1, .node s ts, hm, he => by
    obtain ⟨h1, h2, h3⟩ := Tr.nodesErr_zero.1 he
    rw [Tr.run, Tr.runs_map]
    refine (h.at_ok h1 (by rw [List.length_map]; exact h2) ?_).2.2
    intro x hx
    obtain ⟨t, ht, rfl⟩ := List.mem_map.1 hx
    have hsz : t.size ≤ Tr.sizes ts := by
      clear h2 h3 hx he hm
      induction ts with
      | nil => cases ht
      | cons u r ih =>
        simp only [Tr.sizes]
        rcases List.mem_cons.1 ht with rfl | ht
        · omega
        · have := ih ht; omega
    simp only [Tr.size] at hm
    exact Tr.run_ok h m t (by omega) (h3 t ht)
def acceptsM (d : Dt) (t : Tr) : Bool := if dtErr d ≠ 0 then false else if validErr d.ranks t ≠ 0 then false else d.acc.getD (Tr.run d t).toNat false
/-! ### Relabelings -/
def mapsM (l src dst : List Int) : Bool := decide (l.length = src.length) && (List.range l.length).all fun i => decide ((0 ≤ l.getD i 0 ∧ l.getD i 0 < dst.length) ∧ dst.getD (l.getD i 0).toNat 0 = src.getD i 0)
def invD (d : Dt) (l rk : List Int) : Dt := ⟨rk, d.acc, l.map fun s => d.to.getD s.toNat []⟩
def invM (d : Dt) (l rk : List Int) : Int × Dt :=
  if dtErr d ≠ 0 then (dtErr d, ⟨[], [], []⟩) else if ranksErr rk ≠ 0 then (ranksErr rk, ⟨[], [], []⟩) else if mapsM l rk d.ranks = false then (3, ⟨[], [], []⟩) else (0, invD d l rk)
theorem mapsM_iff {l src dst : List Int} : mapsM l src dst = true ↔ l.length = src.length ∧ ∀ i (h : i < l.length) (h2 : i < src.length), (0 ≤ l[i] ∧ l[i] < dst.length) ∧ dst.getD l[i].toNat 0 = src[i] := by
  unfold mapsM
  simp only [Bool.and_eq_true, decide_eq_true_eq, List.all_eq_true, List.mem_range]
  constructor
  · rintro ⟨h1, h2⟩
    refine ⟨h1, fun i h h3 => ?_⟩
    have := h2 i h
    simpa [List.getD, h, h3] using this
  · rintro ⟨h1, h2⟩
    refine ⟨h1, fun i h => ?_⟩
    have := h2 i h (by omega)
    simpa [List.getD, h, show i < src.length by omega] using this
theorem invD_ok {d : Dt} (h : DtOk d) {l rk : List Int} (hr : ranksErr rk = 0) (hm : mapsM l rk d.ranks = true) : DtOk (invD d l rk) := by
  obtain ⟨h1, h2⟩ := mapsM_iff.1 hm
  refine ⟨hr, h.n, by simp [invD, h1], ?_, ?_⟩
  · intro s hs
    have hs' : s < rk.length := hs
    have hsl : s < l.length := by omega
    obtain ⟨h3, h4⟩ := h2 s hsl hs'
    have hg : (invD d l rk).to.getD s [] = d.to.getD l[s].toNat [] := by simp [invD, List.getD, hsl]
    rw [hg, h.w _ (by omega), h4]
    have : (invD d l rk).ranks.getD s 0 = rk[s] := by simp [invD, List.getD, hs']
    rw [this]; rfl
  · intro x hx q hq
    simp only [invD, List.mem_map] at hx
    obtain ⟨s, hs, rfl⟩ := hx
    cases hc : d.to[s.toNat]? with
    | none => simp [List.getD, hc] at hq
    | some y =>
      simp only [List.getD, hc, Option.getD_some] at hq
      exact h.e y (List.mem_of_getElem? hc) q hq
mutual
/-- Relabeling a right tree: it is right again, and runs asx its original does over the inverse image. -/
theorem Tr.relabel_run {d : Dt} {l rk : List Int} (hm : mapsM l rk d.ranks = true) : ∀ t : Tr, Tr.nodesErr rk t = 0 → ∃ u, Tr.relabel l t = some u ∧ Tr.nodesErr d.ranks u = 0 ∧ Tr.run d u = Tr.run (invD d l rk) t
  | .node s ts, h => by
    obtain ⟨h1, h2⟩ := mapsM_iff.1 hm
    obtain ⟨g1, g2, g3⟩ := Tr.nodesErr_zero.1 h
    obtain ⟨us, r1, r2, r3, r4⟩ := Tr.relabels_run hm ts g3
    have hsl : s.toNat < l.length := by omega
    obtain ⟨h3, h4⟩ := h2 s.toNat hsl (by omega)
    have hg : l.getD s.toNat 0 = l[s.toNat] := by simp [List.getD, hsl]
    refine ⟨.node l[s.toNat] us, ?_, ?_, ?_⟩
    · simp only [Tr.relabel]
      rw [if_pos ⟨g1.1, by omega⟩, r1, hg]; rfl
    · rw [Tr.nodesErr_zero]
      refine ⟨h3, ?_, r3⟩
      rw [h4, r4, g2]
      simp [List.getD, show s.toNat < rk.length by omega]
    · rw [Tr.run, Tr.run, r2]
      unfold atM
      have : (invD d l rk).to.getD s.toNat [] = d.to.getD l[s.toNat].toNat [] := by simp [invD, List.getD, hsl]
      rw [this]
      rfl
theorem Tr.relabels_run {d : Dt} {l rk : List Int} (hm : mapsM l rk d.ranks = true) : ∀ ts : List Tr, (∀ t ∈ ts, Tr.nodesErr rk t = 0) → ∃ us, Tr.relabels l ts = some us ∧ Tr.runs d us = Tr.runs (invD d l rk) ts ∧ (∀ u ∈ us, Tr.nodesErr d.ranks u = 0) ∧ us.length = ts.length
  | [], _ => ⟨[], rfl, rfl, by simp, rfl⟩
  | t :: r, h => by
    obtain ⟨u, h1, h2, h3⟩ := Tr.relabel_run hm t (h t (by simp))
    obtain ⟨us, g1, g2, g3, g4⟩ := Tr.relabels_run hm r (fun x hx => h x (by simp [hx]))
    refine ⟨u :: us, by simp only [Tr.relabels, h1, g1]; rfl, by simp only [Tr.runs, h3, g2], ?_, by simp [g4]⟩
    intro x hx
    rcases List.mem_cons.1 hx with rfl | hx
    · exact h2
    · exact g3 x hx
end
end Pal

/-
  Parts of slices; the reference's normal form of an automaton. Own work. No statement of the seat is proved here.
-/
namespace Pal
open Go
section
variable {P : Program} {n : Nat} {c : Cx} {Q : Exit → Act → World → Prop} {l : KL} {hl : HL} {H : View} {ops : Array Oper} {rest : List Oper} {ty : TypeId}
def hiV (a : Option Addr) (cap m : Nat) : Value := .slice (if cap = 0 then a else a.map (·.add 0)) m cap
def loV (a : Option Addr) (k cap m sz : Nat) : Value := .slice (if cap = m then a else a.map (·.add (m * sz))) (k - m) (cap - m)
theorem R_sliceHi {t e : TypeId} {x y : Operand} {a : Option Addr} {k cap m : Nat} {agg : Bool} {sz : Nat} (hS : slcOk P t e) (hT : Ty P e agg sz) (hx : ev l x = some (.slice a k cap)) (hy : ev l y = some (.int .i64 (m : Int))) (hc : m ≤ cap) :
    ValOk P l H hl (.slice t x none (some y) none) ty (hiV a cap m) := by
  intro e w hk _
  have hS' : P.underlying t = some (.slice _) := hS
  simp only [ex, execOp, Instr.sliceAt, Option.map_none, Option.map_some, hk x _ hx, hk y _ hy, Sem.run_bind, run_underlying hS', Result.andThen_ok]
  simp [Instr.slice, Instr.sliceBounds, run_underlying hS', Instr.sliceBound, asIntOf, hc, hT.run_sizeOf, hiV]
theorem R_sliceLo {t e : TypeId} {x y : Operand} {a : Option Addr} {k cap m : Nat} {agg : Bool} {sz : Nat} (hS : slcOk P t e) (hT : Ty P e agg sz) (hx : ev l x = some (.slice a k cap)) (hy : ev l y = some (.int .i64 (m : Int))) (hc : m ≤ k) :
    ValOk P l H hl (.slice t x (some y) none none) ty (loV a k cap m sz) := by
  intro e w hk _
  have hS' : P.underlying t = some (.slice _) := hS
  simp only [ex, execOp, Instr.sliceAt, Option.map_none, Option.map_some, hk x _ hx, hk y _ hy, Sem.run_bind, run_underlying hS', Result.andThen_ok]
  simp [Instr.slice, Instr.sliceBounds, run_underlying hS', Instr.sliceBound, asIntOf, hc, hT.run_sizeOf, loV]
theorem SlAt.hi {a : Option Addr} {k cap m sz : Nat} {cells : List Value} (h : SlAt H (.slice a k cap) k cells) (hm : m ≤ k) (hc : k ≤ cap) : SlAt H (hiV a cap m) m (cells.take (m * sz)) := by
  obtain ⟨a', cap', he, h2⟩ := h
  cases he
  refine ⟨_, _, rfl, ?_⟩
  rcases Nat.eq_zero_or_pos m with h0 | h0
  · subst h0; exact .inl ⟨rfl, by simp⟩
  · rcases h2 with ⟨h2, _⟩ | ⟨b, off, rfl, cs, T, fz, hb, hA⟩
    · omega
    · refine .inr ⟨b, off, ?_, cs, T, fz, hb, ?_⟩
      · rw [if_neg (by omega)]; simp [Addr.add]
      · intro j v hj
        rw [List.getElem?_take] at hj
        split at hj
        · exact hA j v hj
        · cases hj
theorem SlAt.lo {a : Option Addr} {k cap m sz : Nat} {cells : List Value} (h : SlAt H (.slice a k cap) k cells) (hl : cells.length = k * sz) (hm : m ≤ k) (hc : k ≤ cap) : SlAt H (loV a k cap m sz) (k - m) (cells.drop (m * sz)) := by
  obtain ⟨a', cap', he, h2⟩ := h
  cases he
  refine ⟨_, _, rfl, ?_⟩
  rcases Nat.eq_zero_or_pos (k - m) with h0 | h0
  · refine .inl ⟨h0, ?_⟩
    rw [List.drop_eq_nil_iff, hl]
    exact Nat.mul_le_mul_right _ (by omega)
  · rcases h2 with ⟨h2, _⟩ | ⟨b, off, rfl, hA⟩
    · omega
    · refine .inr ⟨b, off + m * sz, ?_, hA.sub ?_⟩
      · rw [if_neg (by omega)]; simp [addr_add]
      · intro j v hj
        rw [List.getElem?_drop] at hj
        exact hj
section
variable {keep : HL} {fin : Bool} {ol : List Oper} {R : List Nat} {T : ST} {d : Nat} {pos : String} {aft : Array Edge} {g : Option (Nat × Bool)}
end
end
theorem RepL.take {α : Type} {R : α → List Value → Prop} {sz : Nat} {xs : List α} {cells : List Value} (h : RepL R sz xs cells) (m : Nat) : RepL R sz (xs.take m) (cells.take (m * sz)) := by
  induction h generalizing m with
  | nil => simpa using RepL.nil
  | @cons x cs xs ys hx hl ht ih =>
    cases m with
    | zero => simpa using RepL.nil
    | succ m =>
      have e1 : cs.take ((m + 1) * sz) = cs := List.take_of_length_le (by rw [hl, Nat.add_mul]; omega)
      rw [List.take_succ_cons, List.take_append, e1, hl, show (m + 1) * sz - sz = m * sz by rw [Nat.add_mul]; omega]
      exact .cons hx hl (ih m)
theorem RepL.drop {α : Type} {R : α → List Value → Prop} {sz : Nat} {xs : List α} {cells : List Value} (h : RepL R sz xs cells) (m : Nat) : RepL R sz (xs.drop m) (cells.drop (m * sz)) := by
  induction h generalizing m with
  | nil => simpa using RepL.nil
  | @cons x cs xs ys hx hl ht ih =>
    cases m with
    | zero => simpa using RepL.cons hx hl ht
    | succ m =>
      have e1 : cs.drop ((m + 1) * sz) = [] := List.drop_of_length_le (by rw [hl, Nat.add_mul]; omega)
      rw [List.drop_succ_cons, List.drop_append, e1, List.nil_append, hl, show (m + 1) * sz - sz = m * sz by rw [Nat.add_mul]; omega]
      exact ih m
theorem RepR.one {H : View} {r : Rl} {cs : List Value} (h : RepR H r cs) : cs.all Value.oneCell' = true := by
  obtain ⟨a, cp, rfl, _⟩ := h; rfl
/-! ### Normal form -/
theorem subL_yes {p : Nat → Bool} {s : Nat} (h : p s = true) : subL (s + 1) p = subL s p ++ [(s : Int)] := by simp [subL, List.range_succ, h]
theorem subL_no {p : Nat → Bool} {s : Nat} (h : p s = false) : subL (s + 1) p = subL s p := by simp [subL, List.range_succ, h]
end Pal

/-
  Deterministic automata asx nondeterministic ones, their reachable states; visits whose state depends on the view. Own work. No statement of the seat is proved here.
-/
namespace Pal
open Go
/-- What the function owes that is shown all tuples; its state may speak of the view. -/
def VisitV (P : Program) (gf : Nat) (cap : List Value) (H0 : View) (T : List (List Int)) (E : List (List Int) → View → HL → Prop) : Prop :=
  (∀ pre V V' q, VLe V V' → E pre V q → E pre V' q) ∧ ∀ H pre xs a len cp p, xs.length = len → VLe H0 H → E pre H p → (pre ++ [xs]) <+: T → SI H (.slice a len cp) xs → len ≤ cp →
    SatO P gf ([] ++ [Value.slice a len cp] ++ cap).toArray H p (fun v V' q => v = .bool true ∧ E (pre ++ [xs]) V' q)
/-! ### Places of tuples -/
theorem range_mul (n : Nat) : ∀ a : Nat, (List.range a).flatMap (fun p => (List.range n).map fun x => p * n + x) = List.range (a * n)
  | 0 => by simp
  | a + 1 => by
    rw [List.range_succ, List.flatMap_append, range_mul n a, Nat.add_mul, Nat.one_mul, List.range_add, List.flatMap_singleton]
theorem placeM_snoc (n : Nat) (l : List Int) (x : Int) : placeM n (l ++ [x]) = placeM n l * n + x := by
  simp [placeM, List.foldl_append]
theorem tups_place (n : Nat) : ∀ m, (tups n m).map (placeM n) = (List.range (n ^ m)).map fun (i : Nat) => (i : Int)
  | 0 => by simp [tups, placeM]
  | m + 1 => by
    have ih := tups_place n m
    have h1 : (tups n (m + 1)).map (placeM n) = ((tups n m).map (placeM n)).flatMap fun p => (List.range n).map fun (x : Nat) => p * (n : Int) + (x : Int) := by
      simp only [tups, List.map_flatMap, List.map_map, List.flatMap_map, Function.comp_def, placeM_snoc]
    rw [h1, ih, List.flatMap_map, Nat.pow_succ, ← range_mul n (n ^ m), List.map_flatMap]
    congr 1
    funext p
    simp only [List.map_map, Function.comp_def, Int.natCast_add, Int.natCast_mul]
theorem tups_at {n m i : Nat} (h : i < (tups n m).length) : placeM n (tups n m)[i] = (i : Int) := by
  have h1 := tups_place n m
  have h2 : ((tups n m).map (placeM n))[i]'(by rw [List.length_map]; exact h) = ((List.range (n ^ m)).map fun (i : Nat) => (i : Int))[i]'(by rw [List.length_map, List.length_range, ← tups_len n m]; exact h) := by
    simp only [h1]
  rw [List.getElem_map, List.getElem_map, List.getElem_range] at h2
  exact h2
/-! ### As a nondeterministic automaton -/
def rulesD1 (d : Dt) (s : Nat) : List Rl := (tups d.acc.length (d.ranks.getD s 0).toNat).map fun xs => ⟨(s : Int), xs, atM d (s : Int) xs⟩
def rulesD (d : Dt) : List Rl := (List.range d.ranks.length).flatMap (rulesD1 d)
def finalD (d : Dt) : List Int := subL d.acc.length fun s => d.acc.getD s false
def ntaM (d : Dt) : Au := ⟨d.ranks, (d.acc.length : Int), rulesD d, finalD d⟩
theorem mem_rulesD {d : Dt} {r : Rl} : r ∈ rulesD d ↔ ∃ s : Nat, s < d.ranks.length ∧ r.sym = (s : Int) ∧ r.args ∈ tups d.acc.length (d.ranks.getD s 0).toNat ∧ r.to = atM d (s : Int) r.args := by
  simp only [rulesD, rulesD1, List.mem_flatMap, List.mem_range, List.mem_map]
  constructor
  · rintro ⟨s, hs, xs, hxs, rfl⟩
    exact ⟨s, hs, rfl, hxs, rfl⟩
  · rintro ⟨s, hs, h1, h2, h3⟩
    refine ⟨s, hs, r.args, h2, ?_⟩
    cases r; simp_all
theorem mem_tups {n : Nat} : ∀ {m : Nat} {xs : List Int}, xs ∈ tups n m ↔ xs.length = m ∧ ∀ x ∈ xs, 0 ≤ x ∧ x < (n : Int)
  | 0, xs => by
    simp only [tups, List.mem_singleton]
    constructor
    · rintro rfl; simp
    · rintro ⟨h, _⟩; exact List.eq_nil_of_length_eq_zero h
  | m + 1, xs => by
    constructor
    · exact tups_item
    · rintro ⟨h1, h2⟩
      have hne : xs ≠ [] := fun e => by subst e; simp at h1
      obtain ⟨ys, y, rfl⟩ : ∃ ys y, xs = ys ++ [y] := ⟨xs.dropLast, xs.getLast hne, (List.dropLast_concat_getLast hne).symm⟩
      have hy := h2 y (by simp)
      simp only [tups, List.mem_flatMap, List.mem_map, List.mem_range]
      refine ⟨ys, (mem_tups (m := m)).2 ⟨by simpa using h1, fun x hx => h2 x (by simp [hx])⟩, y.toNat, by omega, ?_⟩
      rw [show ((y.toNat : Nat) : Int) = y by omega]
theorem AuOk.err {a : Au} (h : AuOk a) (h0 : ranksErr a.ranks = 0) : auErr a = 0 := by
  have hst := h.st
  have hul := h.ul
  have hru : ∀ r ∈ a.rules, ruleErr a r = 0 := by
    intro r hr
    obtain ⟨h1, h2, h3, h4, h5, h6⟩ := h.ru r hr
    unfold ruleErr
    have hb : r.args.any (badQ a.states) = false := by
      rw [List.any_eq_false]; intro q hq; have := h4 q hq; simp [badQ, this]
    have hb2 : badQ a.states r.to = false := by simp [badQ, h5, h6]
    rw [if_neg (by omega), if_neg (by rw [h3]; simp), hb, hb2]
    simp
  have hfi : a.final.any (badQ a.states) = false := by
    rw [List.any_eq_false]; intro q hq; have := h.fi q hq; simp [badQ, this]
  have hrs : rulesErr a a.rules = 0 := rulesErr_zero fun j hj => hru _ (List.getElem_mem hj)
  unfold auErr
  rw [if_neg (by rw [h0]; simp), if_neg (by omega), if_neg (by rw [hrs]; simp), hfi]
  simp
theorem rulesD_len {d : Dt} (h : DtOk d) (hn : d.acc.length ≤ 5) : (rulesD d).length ≤ d.ranks.length * 25 := by
  have key : ∀ (l : List Nat), (∀ s ∈ l, s < d.ranks.length) → (l.flatMap (rulesD1 d)).length ≤ l.length * 25 := by
    intro l
    induction l with
    | nil => intro _; simp
    | cons s l ih =>
      intro hl
      have h1 := ih (fun t ht => hl t (by simp [ht]))
      have hs := hl s (by simp)
      have h2 : (rulesD1 d s).length ≤ 25 := by
        rw [rulesD1, List.length_map, tups_len]
        have hr := (ranksErr_ok h.rk).2 s hs
        have hg : d.ranks.getD s 0 = d.ranks[s] := by simp [List.getD, hs]
        rw [hg]
        have h3 : d.ranks[s].toNat ≤ 2 := by omega
        have h4 : d.acc.length ^ d.ranks[s].toNat ≤ 5 ^ d.ranks[s].toNat := Nat.pow_le_pow_left hn _
        have h5 : 5 ^ d.ranks[s].toNat ≤ 5 ^ 2 := Nat.pow_le_pow_right (by decide) h3
        omega
      rw [List.flatMap_cons, List.length_append, List.length_cons]
      omega
  have := key (List.range d.ranks.length) (fun s hs => List.mem_range.1 hs)
  simpa [rulesD] using this
theorem ntaM_ok {d : Dt} (h : DtOk d) (hn : d.acc.length ≤ 5) (hr : d.ranks.length ≤ 8) : AuOk (ntaM d) := by
  have hrk := ranksErr_ok h.rk
  have hlen := rulesD_len h hn
  refine ⟨hrk.1, hrk.2, ⟨by simp [ntaM], by simp only [ntaM]; omega⟩, by simp only [ntaM]; omega, ?_, ?_⟩
  · intro r hr'
    obtain ⟨s, hs, h1, h2, h3⟩ := mem_rulesD.1 hr'
    obtain ⟨h4, h5⟩ := tups_item h2
    have hg : d.ranks.getD s 0 = d.ranks[s] := by simp [List.getD, hs]
    have hrs := hrk.2 s hs
    have hra : (r.args.length : Int) = d.ranks.getD ((s : Int)).toNat 0 := by rw [h4, Int.toNat_natCast, hg]; omega
    have hat := (h.at_ok (s := (s : Int)) (l := r.args) ⟨by omega, by omega⟩ hra h5).2.2
    refine ⟨by rw [h1]; omega, by rw [h1]; simp only [ntaM]; omega, by rw [h1]; exact hra, h5, by rw [h3]; exact hat.1, by rw [h3]; exact hat.2⟩
  · intro q hq
    obtain ⟨s, hs, rfl⟩ := List.mem_map.1 hq
    have := List.mem_range.1 (List.mem_filter.1 hs).1
    simp only [ntaM]; omega
theorem ntaM_err {d : Dt} (h : DtOk d) (hn : d.acc.length ≤ 5) (hr : d.ranks.length ≤ 8) : auErr (ntaM d) = 0 := (ntaM_ok h hn hr).err h.rk
/-! ### Reachable states -/
def pickD (out : List Int) (xs : List Int) : List Int := xs.map fun i => out.getD i.toNat 0
def stepD (d : Dt) (s : Int) (out : List Int) (xs : List Int) : List Int := if atM d s (pickD out xs) ∈ out then out else out ++ [atM d s (pickD out xs)]
def stepsD (d : Dt) (s : Int) (xss : List (List Int)) (out : List Int) : List Int := xss.foldl (stepD d s) out
def symsD (d : Dt) (was : Nat) : List Int → Int → List Int → List Int
  | [], _, out => out
  | r :: rs, s, out => symsD d was rs (s + 1) (stepsD d s (tups was r.toNat) out)
def roundsD (d : Dt) : Nat → Int → List Int → List Int
  | 0, _, out => out
  | f + 1, was, out => if was < out.length then roundsD d f out.length (symsD d out.length d.ranks 0 out) else out
def foundD (d : Dt) : List Int := roundsD d 130 (-1) []
def ones (out : List Int) : List (List Int) := out.map fun q => [q]
theorem ones_mem {out : List Int} {q : Int} : [q] ∈ ones out ↔ q ∈ out := by
  simp only [ones, List.mem_map]
  constructor
  · rintro ⟨x, hx, h⟩; simp at h; exact h ▸ hx
  · exact fun h => ⟨q, h, rfl⟩
theorem subL_one {n : Nat} {t : Int} (h : 0 ≤ t ∧ t < (n : Int)) : subL n (fun s => decide ((s : Int) = t)) = [t] := by
  obtain ⟨k, rfl⟩ : ∃ k : Nat, t = (k : Int) := ⟨t.toNat, by omega⟩
  have hk : k < n := by omega
  clear h
  induction n with
  | zero => omega
  | succ n ih =>
    by_cases e : k = n
    · subst e
      rw [subL_yes (by simp)]
      have : subL k (fun s => decide ((s : Int) = (k : Int))) = [] := by
        unfold subL
        rw [List.map_eq_nil_iff, List.filter_eq_nil_iff]
        intro s hs
        have := List.mem_range.1 hs
        simp; omega
      rw [this]; rfl
    · rw [subL_no (by simp; omega)]
      exact ih (by omega)
def States (d : Dt) (out : List Int) : Prop := ∀ q ∈ out, 0 ≤ q ∧ q < (d.acc.length : Int)
theorem pick_ok {d : Dt} {out xs : List Int} (ho : States d out) (hx : ∀ x ∈ xs, 0 ≤ x ∧ x < (out.length : Int)) : ∀ q ∈ pickD out xs, 0 ≤ q ∧ q < (d.acc.length : Int) := by
  intro q hq
  obtain ⟨i, hi, rfl⟩ := List.mem_map.1 hq
  have h1 := hx i hi
  have h2 : i.toNat < out.length := by omega
  have : out.getD i.toNat 0 = out[i.toNat] := by simp [List.getD, h2]
  rw [this]
  exact ho _ (List.getElem_mem h2)
theorem next_one {d : Dt} (h : DtOk d) {s : Nat} (hs : s < d.ranks.length) {out xs : List Int} (ho : States d out) (hl : xs.length = (d.ranks.getD s 0).toNat) (hx : ∀ x ∈ xs, 0 ≤ x ∧ x < (out.length : Int)) :
    refNext (ntaM d) (s : Int) (ofM (ones out) xs) = [atM d (s : Int) (pickD out xs)] ∧ (0 ≤ atM d (s : Int) (pickD out xs) ∧ atM d (s : Int) (pickD out xs) < d.acc.length) := by
  have hp := pick_ok ho hx
  have hg : d.ranks.getD s 0 = d.ranks[s] := by simp [List.getD, hs]
  have hrs := (ranksErr_ok h.rk).2 s hs
  have hpl : (pickD out xs).length = xs.length := by simp [pickD]
  have hat := (h.at_ok (s := (s : Int)) (l := pickD out xs) ⟨by omega, by omega⟩ (by rw [hpl, hl, Int.toNat_natCast, hg]; omega) hp).2.2
  refine ⟨?_, hat⟩
  rw [refNext_sub]
  have hst : (ntaM d).states.toNat = d.acc.length := by simp [ntaM]
  rw [hst, ← subL_one hat]
  refine subL_congr fun q hq => ?_
  rw [Bool.eq_iff_iff, List.any_eq_true, decide_eq_true_eq]
  have hol : (ofM (ones out) xs).length = xs.length := by simp [ofM]
  have hget : ∀ k, k < xs.length → (ofM (ones out) xs).getD k [] = [(pickD out xs).getD k 0] := by
    intro k hk
    rw [getD_ofM _ _ hk]
    have h1 := hx _ (List.getElem_mem hk)
    have h2 : xs[k].toNat < out.length := by omega
    have h3 : xs.getD k 0 = xs[k] := by simp [List.getD, hk]
    rw [h3]
    simp [ones, pickD, List.getD, hk, h2]
  constructor
  · rintro ⟨r, hr, hf⟩
    obtain ⟨s', hs', h1, h2, h3⟩ := mem_rulesD.1 hr
    simp only [fitR, Bool.and_eq_true, decide_eq_true_eq] at hf
    obtain ⟨⟨h4, h5⟩, h6⟩ := hf
    have hss : s' = s := by omega
    subst hss
    have hargs : r.args = pickD out xs := by
      have hal := (tups_item h2).1
      refine List.ext_getElem (by rw [hpl, hal, hl]) fun k g1 g2 => ?_
      have hk : k < xs.length := by rw [hpl] at g2; exact g2
      simp only [hasAll, List.all_eq_true, List.mem_range, decide_eq_true_eq] at h6
      have := h6 k (by rw [hol]; exact hk)
      rw [hget k hk] at this
      simp only [List.mem_singleton] at this
      have e1 : r.args.getD k 0 = r.args[k] := by simp [List.getD, g1]
      have e2 : (pickD out xs).getD k 0 = (pickD out xs)[k] := by simp [List.getD, g2]
      rw [e1, e2] at this
      exact this
    rw [← h5, h3, hargs]
  · intro hq2
    refine ⟨⟨(s : Int), pickD out xs, atM d (s : Int) (pickD out xs)⟩, mem_rulesD.2 ⟨s, hs, rfl, mem_tups.2 ⟨by rw [hpl, hl], hp⟩, rfl⟩, ?_⟩
    simp only [fitR, Bool.and_eq_true, decide_eq_true_eq]
    refine ⟨⟨trivial, hq2.symm⟩, ?_⟩
    simp only [hasAll, List.all_eq_true, List.mem_range, decide_eq_true_eq]
    intro k hk
    rw [hol] at hk
    rw [hget k hk]
    simp
theorem step_ones {d : Dt} (h : DtOk d) {s : Nat} (hs : s < d.ranks.length) {out xs : List Int} (ho : States d out) (hl : xs.length = (d.ranks.getD s 0).toNat) (hx : ∀ x ∈ xs, 0 ≤ x ∧ x < (out.length : Int)) :
    refStep (ntaM d) (s : Int) (ones out) xs = ones (stepD d (s : Int) out xs) ∧ States d (stepD d (s : Int) out xs) ∧ out.length ≤ (stepD d (s : Int) out xs).length := by
  obtain ⟨h1, h2⟩ := next_one h hs ho hl hx
  unfold refStep stepD
  rw [h1]
  by_cases hm : atM d (s : Int) (pickD out xs) ∈ out
  · rw [if_pos hm, if_pos (ones_mem.2 hm)]
    exact ⟨rfl, ho, Nat.le_refl _⟩
  · rw [if_neg hm, if_neg (fun h => hm (ones_mem.1 h))]
    refine ⟨by simp [ones], ?_, by simp⟩
    intro q hq
    rcases List.mem_append.1 hq with hq | hq
    · exact ho q hq
    · simp at hq; subst hq; exact h2
theorem steps_ones {d : Dt} (h : DtOk d) {s : Nat} (hs : s < d.ranks.length) : ∀ {xss : List (List Int)} {out : List Int}, States d out → (∀ xs ∈ xss, xs.length = (d.ranks.getD s 0).toNat ∧ ∀ x ∈ xs, 0 ≤ x ∧ x < (out.length : Int)) →
    refSteps (ntaM d) (s : Int) xss (ones out) = ones (stepsD d (s : Int) xss out) ∧ States d (stepsD d (s : Int) xss out) ∧ out.length ≤ (stepsD d (s : Int) xss out).length
  | [], out, ho, _ => ⟨rfl, ho, Nat.le_refl _⟩
  | xs :: xss, out, ho, hx => by
    obtain ⟨h1, h2⟩ := hx xs (by simp)
    obtain ⟨g1, g2, g3⟩ := step_ones h hs ho h1 h2
    obtain ⟨k1, k2, k3⟩ := steps_ones h hs (xss := xss) g2 (fun ys hy => ⟨(hx ys (by simp [hy])).1, fun x hxx => by have := (hx ys (by simp [hy])).2 x hxx; omega⟩)
    refine ⟨?_, k2, Nat.le_trans g3 k3⟩
    show refSteps (ntaM d) (s : Int) xss (refStep (ntaM d) (s : Int) (ones out) xs) = _
    rw [g1, k1]; rfl
theorem syms_ones {d : Dt} (h : DtOk d) {was : Nat} : ∀ {rs : List Int} {s : Nat} {out : List Int}, rs = d.ranks.drop s → States d out → was ≤ out.length →
    refSyms (ntaM d) was rs (s : Int) (ones out) = ones (symsD d was rs (s : Int) out) ∧ States d (symsD d was rs (s : Int) out) ∧ out.length ≤ (symsD d was rs (s : Int) out).length
  | [], s, out, _, ho, _ => ⟨rfl, ho, Nat.le_refl _⟩
  | r :: rs, s, out, hrs, ho, hw => by
    have hs : s < d.ranks.length := by have h3 := congrArg List.length hrs; simp at h3; omega
    rw [List.drop_eq_getElem_cons hs] at hrs
    simp only [List.cons.injEq] at hrs
    obtain ⟨hr, hrs⟩ := hrs
    have hrk : (d.ranks.getD s 0).toNat = r.toNat := by simp [List.getD, hs, hr]
    have hsym : ((s : Int) + 1) = ((s + 1 : Nat) : Int) := by omega
    obtain ⟨g1, g2, g3⟩ := steps_ones h hs (xss := tups was r.toNat) ho (fun xs hx => ⟨by rw [hrk]; exact (tups_item hx).1, fun x hxx => by have := (tups_item hx).2 x hxx; omega⟩)
    obtain ⟨k1, k2, k3⟩ := syms_ones h (s := s + 1) hrs g2 (Nat.le_trans hw g3)
    simp only [refSyms, symsD]
    rw [g1, hsym, k1]
    exact ⟨rfl, k2, Nat.le_trans g3 k3⟩
theorem ones_len (out : List Int) : (ones out).length = out.length := by simp [ones]
theorem rounds_ones {d : Dt} (h : DtOk d) : ∀ {f : Nat} {was : Int} {out : List Int}, States d out → refRounds (ntaM d) f was (ones out) = ones (roundsD d f was out) ∧ States d (roundsD d f was out)
  | 0, _, out, ho => ⟨rfl, ho⟩
  | f + 1, was, out, ho => by
    simp only [refRounds, roundsD, ones_len]
    by_cases hw : was < out.length
    · rw [if_pos hw, if_pos hw]
      obtain ⟨g1, g2, _⟩ := syms_ones h (was := out.length) (rs := d.ranks) (s := 0) (out := out) rfl ho (Nat.le_refl _)
      have g1' : refSyms (ntaM d) out.length (ntaM d).ranks 0 (ones out) = ones (symsD d out.length d.ranks 0 out) := g1
      have g2' : States d (symsD d out.length d.ranks 0 out) := g2
      rw [g1']
      exact rounds_ones h g2'
    · rw [if_neg hw, if_neg hw]
      exact ⟨rfl, ho⟩
theorem subs_found {d : Dt} (h : DtOk d) : refSubs (ntaM d) = ones (foundD d) ∧ States d (foundD d) := rounds_ones h (f := 130) (was := -1) (out := []) (fun q hq => by cases hq)
/-- The construction is closed. -/
theorem refSubs_closed {a : Au} (he : auErr a = 0) (h6 : a.states ≤ 6) : RefOk a (refSubs a) ∧ ∀ t, t < a.ranks.length → ∀ xs ∈ tups (refSubs a).length (rankN a t), refNext a (t : Int) (ofM (refSubs a) xs) ∈ refSubs a := by
  have haok := AuOk.of he
  have hRok : RefOk a (refSubs a) := (RefOk.nil a).rounds _ _
  have hR64 := hRok.len h6
  refine ⟨hRok, ?_⟩
  have hg0 : Good a (512 : Int) ⟨[], []⟩ := ⟨DS.Inv.nil (by omega), fun p hp => by cases hp⟩
  rcases buildM_ref haok (by omega) (f := 513) (F := 130) (was := -1) hg0 (by simp) (by simp) (by decide) (by simp) (RefOk.nil a) h6 with ⟨st, h1, hg, hs, _, hx, _⟩ | ⟨h1, h2⟩
  · have hs' : st.subs.map els = refSubs a := hs
    have hlen : st.subs.length = (refSubs a).length := by rw [← hs', List.length_map]
    intro t ht xs hxs
    obtain ⟨n, hn⟩ := hx t ht xs (by rw [hlen]; exact hxs)
    obtain ⟨p, hp, hk, rfl⟩ := lookM_key hn
    obtain ⟨s', args', hk', hf', h0, hsub⟩ := hg.res p hp
    obtain ⟨hst, ha⟩ := keyM_inj (hk.symm.trans hk')
    subst hst
    obtain ⟨hi1, hi2⟩ := tups_item hxs
    have hargs : xs = args' := ha (by rw [hf'.2.1]; exact hi1) (by have h2 := (hf'.rank haok).1; rw [hf'.2.1] at h2; rw [hi1]; exact h2)
    subst hargs
    have hsu := els_succ haok (subs := st.subs) (hf'.rank haok).2
    rw [hs'] at hsu
    rw [← hsu, ← hs']
    exact List.mem_map_of_mem (List.mem_of_getElem? hsub)
  · have h2' : (512 : Int) < ((refSubs a).length : Int) := h2
    omega
def asD (found : List Int) (q : Int) : Int := if q ∈ found then (found.idxOf q : Int) else 0
def trimD (d : Dt) : Dt := ⟨d.ranks, (foundD d).map fun q => d.acc.getD q.toNat false, (List.range d.ranks.length).map fun s => (tups (foundD d).length (d.ranks.getD s 0).toNat).map fun xs => asD (foundD d) (atM d (s : Int) (pickD (foundD d) xs))⟩
theorem ones_nodup {out : List Int} (h : (ones out).Nodup) : out.Nodup := by
  unfold ones at h
  exact List.Pairwise.imp (fun hne e => hne (by rw [e])) (List.pairwise_map.1 h)
theorem ones_idx {out : List Int} {q : Int} : (ones out).idxOf [q] = out.idxOf q := by
  induction out with
  | nil => rfl
  | cons x r ih =>
    simp only [ones, List.map_cons, List.idxOf_cons]
    by_cases e : x = q
    · subst e; simp
    · have h1 : ([x] == [q]) = false := by simp [e]
      have h2 : (x == q) = false := by simp [e]
      rw [h1, h2]
      simp only [cond_false]
      rw [← ih]; rfl
theorem found_facts {d : Dt} (h : DtOk d) (hn : d.acc.length ≤ 5) (hr : d.ranks.length ≤ 8) : (foundD d).Nodup ∧ (foundD d).length ≤ 64 ∧ States d (foundD d) ∧
    ∀ s, s < d.ranks.length → ∀ xs ∈ tups (foundD d).length (d.ranks.getD s 0).toNat, atM d (s : Int) (pickD (foundD d) xs) ∈ foundD d := by
  have hst6 : (ntaM d).states ≤ 6 := by simp only [ntaM]; omega
  obtain ⟨h1, h2⟩ := subs_found h
  obtain ⟨h3, h4⟩ := refSubs_closed (ntaM_err h hn hr) hst6
  have h5 := h3.len hst6
  rw [h1] at h3 h4 h5
  refine ⟨ones_nodup h3.nd, by rw [ones_len] at h5; exact h5, h2, ?_⟩
  intro s hs xs hxs
  have h6 := h4 s hs xs (by rw [ones_len]; exact hxs)
  rw [(next_one h hs h2 (tups_item hxs).1 (tups_item hxs).2).1] at h6
  exact ones_mem.1 h6
/-- Determinizing a deterministic automaton trims it. -/
theorem from_trim {d : Dt} (h : DtOk d) (hn : d.acc.length ≤ 5) (hr : d.ranks.length ≤ 8) : refFrom (ntaM d) = trimD d := by
  obtain ⟨h1, h2⟩ := subs_found h
  obtain ⟨g1, g2, g3, g4⟩ := found_facts h hn hr
  have hacc : refFinal (ntaM d) (refSubs (ntaM d)) = (foundD d).map fun q => d.acc.getD q.toNat false := by
    rw [h1]
    simp only [refFinal, ones, List.map_map]
    refine List.map_congr_left fun q hq => ?_
    have hq2 := g3 q hq
    obtain ⟨k, rfl⟩ : ∃ k : Nat, q = (k : Int) := ⟨q.toNat, by omega⟩
    have hmem : (k : Int) ∈ (ntaM d).final ↔ d.acc.getD k false = true := by
      show (k : Int) ∈ subL d.acc.length (fun s => d.acc.getD s false) ↔ _
      rw [mem_subL]
      exact ⟨fun h => h.2, fun h => ⟨by omega, h⟩⟩
    rw [Bool.eq_iff_iff]
    simp only [Function.comp, List.any_cons, List.any_nil, Bool.or_false, decide_eq_true_eq, hmem, Int.toNat_natCast]
  have hto : (List.range (ntaM d).ranks.length).map (refTo (ntaM d) (refSubs (ntaM d))) = (List.range d.ranks.length).map fun s => (tups (foundD d).length (d.ranks.getD s 0).toNat).map fun xs => asD (foundD d) (atM d (s : Int) (pickD (foundD d) xs)) := by
    refine List.map_congr_left fun s hs => ?_
    have hs' : s < d.ranks.length := List.mem_range.1 hs
    rw [h1]
    simp only [refTo, ones_len]
    refine List.map_congr_left fun xs hxs => ?_
    have hm := g4 s hs' xs hxs
    rw [(next_one h hs' g3 (tups_item hxs).1 (tups_item hxs).2).1, refFind, if_pos (ones_mem.2 hm), ones_idx, asD, if_pos hm]
  unfold refFrom trimD
  rw [hacc, hto]
  rfl
end Pal

/-
  Publishing what was handed over; a new element and the row published at once. Own work. No statement of the seat is proved here.
-/
namespace Pal
open Go
theorem Ok.pubrowF {c : Cx} {H : View} {hl : HL} {w : World} {v : Value} {e : TypeId} {sz k : Nat} {xs : List Value} (h : Ok c w H (row v e sz k xs :: hl)) :
    ∃ H', VLe H H' ∧ rowAt H' v k xs ∧ (∃ a cap, v = .slice a k cap ∧ k ≤ cap) ∧ Ok c w H' hl := by
  have hh : (row v e sz k xs).holds (heapOf w) := h.own _ List.mem_cons_self
  obtain ⟨hlen, hh⟩ := hh
  rcases hh with ⟨rfl, rfl⟩ | ⟨g, cap, cur, rfl, hg, hk, hcap, hsz, htake⟩
  · exact ⟨H, VLe.refl H, .inl ⟨rfl, rfl, List.eq_nil_of_length_eq_zero (by simpa using hlen)⟩, ⟨none, 0, rfl, Nat.le_refl _⟩, h.sublist (List.sublist_cons_self _ _)⟩
  · have h2 : Ok c w H (blk g (.cells cur e (0, 0)) :: hl) := by
      refine ⟨h.os, h.tape, h.output, h.drawn, h.size, h.old, h.vold, h.le, h.has, ?_, ?_, ?_⟩
      · intro en hen
        rcases List.mem_cons.1 hen with rfl | hen
        · exact hg
        · exact h.own en (List.mem_cons_of_mem _ hen)
      · intro b hb; exact h.foot b (by simpa [feet, row, rowFoot, blk] using hb)
      · simpa [feet, row, rowFoot, blk] using h.nd
    have hH : H g = none := (h.foot g (by simp [feet, row, rowFoot])).1
    refine ⟨vadd H g (.cells cur e (0, 0)), ?_, .inr ⟨g, cap, rfl, ⟨cur, e, (0, 0), by simp [vadd], ?_⟩⟩, ⟨_, cap, rfl, hk⟩, h2.publishF⟩
    · intro b o hb
      have : b ≠ g := fun e => by subst e; rw [hH] at hb; cases hb
      simp [vadd, this, hb]
    · intro j u hj
      rw [← htake, List.getElem?_take] at hj
      split at hj
      · simpa using hj
      · cases hj
section
variable {P : Program} {n : Nat} {c : Cx} {Q : Exit → Act → World → Prop} {l : KL} {hl : HL} {H : View} {ops : Array Oper} {rest : List Oper} {ty : TypeId}
theorem KO_pubrowF {v : Value} {e : TypeId} {sz k : Nat} {xs : List Value} (h : ∀ H', VLe H H' → rowAt H' v k xs → (∃ a cap, v = .slice a k cap ∧ k ≤ cap) → KO P n c ops Q rest l hl H') : KO P n c ops Q rest l (row v e sz k xs :: hl) H := by
  intro ρ w hm ho
  obtain ⟨H', h1, h2, h3, h4⟩ := ho.pubrowF
  exact h H' h1 h2 h3 ρ w hm h4
theorem Ok.publishLe {w : World} {b : Nat} {o : Obj} (h : Ok c w H (blk b o :: hl)) : VLe H (vadd H b o) := by
  have hb : H b = none := (h.foot b (by simp [feet, blk])).1
  intro k o' hk
  have : k ≠ b := fun e => by subst e; rw [hb] at hk; cases hk
  simp [vadd, this, hk]
theorem KQ_pubF {x : Exit} {b : Nat} {o : Obj} (h : ∀ H', VLe H H' → H' b = some o → KQ n c Q x l hl H') : KQ n c Q x l (blk b o :: hl) H :=
  fun ρ w hm ho => h (vadd H b o) ho.publishLe (vadd_self _ _ _) ρ w hm ho.publishF
theorem KC_pubF {code : Code} {b : Nat} {o : Obj} (h : ∀ H', VLe H H' → H' b = some o → KC P n c code Q l hl H') : KC P n c code Q l (blk b o :: hl) H :=
  fun ρ w hm ho => h (vadd H b o) ho.publishLe (vadd_self _ _ _) ρ w hm ho.publishF
/-- append(x, one element): the row is published. -/
theorem E_append1Pub {v : Value} {x y : Operand} {t e : TypeId} {sz bytes k m : Nat} {xs : List Value} {b : Nat} {cs : Array Value} {fz : Nat × Nat} (hA : App P t e sz bytes) (hx : ev l x = some v) (hy : ev l y = some (slc m b))
    (hl' : cs.toList.length = m * sz) (h1 : cs.toList.all Value.oneCell' = true) (hb : (k + m) * bytes ≤ 140737488355328 ∧ k + m ≤ 140737488355328) :
    Eff P l H [row v e sz k xs, blk b (.cells cs e fz)] (.call ⟨.builtin .append, #[x, y], #[t, t]⟩) ty fun v' H' q => q = [] ∧ ∃ a cap, v' = .slice a (k + m) cap ∧ k + m ≤ cap ∧ SlAt H' v' (k + m) (xs ++ cs.toList) := by
  intro ev' w hk ho
  refine (E_append1 (P := P) (ty := ty) hA hx hy hl' h1 hb ev' w hk ho).mono ?_
  rintro v' w' ⟨H', q, hok, a, cap, rfl, rfl, rfl, _⟩
  obtain ⟨H2, g1, g2, g3, g4⟩ := hok.pubrowF
  obtain ⟨a2, cap2, he, hle⟩ := g3
  cases he
  exact ⟨H2, [], g4, rfl, a, cap, rfl, hle, g2.sl⟩
section
variable {keep : HL} {fin : Bool} {ol : List Oper} {R : List Nat} {T : ST} {d : Nat} {pos : String} {aft : Array Edge} {g : Option (Nat × Bool)}
theorem D_append1Pub {v : Value} {x y : Operand} {t e : TypeId} {sz bytes k m i : Nat} {xs : List Value} {b : Nat} {cs : Array Value} {fz : Nat × Nat} {tl : HL} (j : Nat) (hA : App P t e sz bytes)
    (ho : nthO ol i = some ⟨some d, .call ⟨.builtin .append, #[x, y], #[t, t]⟩, ty, pos, aft, g⟩) (hw : wlO ol l g = some true) (hx : ev l x = some v) (hy : ev l y = some (slc m b))
    (hhl : hl = blk b (.cells cs e fz) :: tl) (hi : tl[j]? = some (row v e sz k xs)) (hkp : memAll keep (tl.eraseIdx j)) (hcs : cs.toList.length = m * sz) (h1 : cs.toList.all Value.oneCell' = true) (hb : (k + m) * bytes ≤ 140737488355328 ∧ k + m ≤ 140737488355328)
    (h : ∀ a cap H', VLe H H' → k + m ≤ cap → SlAt H' (.slice a (k + m) cap) (k + m) (xs ++ cs.toList) → KD P n ol.toArray keep fin T R ((d, .slice a (k + m) cap) :: l) (tl.eraseIdx j) H') : KD P n ol.toArray keep fin T (i :: R) l hl H := by
  subst hhl
  refine D_eff _ (tl.eraseIdx j) ho hw rfl (perm_two hi) hkp.mem (E_append1Pub hA hx hy hcs h1 hb) ?_
  rintro v' H' q hle ⟨rfl, a, cap, rfl, hc, hs⟩
  exact h a cap H' hle hc hs
end
end
/-- Tuples of elements of a list, by their places. -/
def VisitL (P : Program) (gf : Nat) (cap : List Value) (H0 : View) (src : List Int) (T : List (List Int)) (E : List (List Int) → View → HL → Prop) : Prop :=
  (∀ pre V V' q, VLe V V' → E pre V q → E pre V' q) ∧ ∀ H pre is a len cp p, is.length = len → VLe H0 H → E pre H p → (pre ++ [is]) <+: T → SI H (.slice a len cp) (pickD src is) →
    SatO P gf ([] ++ [Value.slice a len cp] ++ cap).toArray H p (fun v V' q => v = .tuple #[] ∧ E (pre ++ [is]) V' q)
theorem pickD_snoc (src is : List Int) (j : Nat) (hj : j < src.length) : pickD src (is ++ [(j : Int)]) = pickD src is ++ [src[j]] := by
  simp [pickD, List.getD, hj]
theorem pickD_len (src is : List Int) : (pickD src is).length = is.length := by simp [pickD]
section
variable {P : Program} {n : Nat} {c : Cx} {Q : Exit → Act → World → Prop} {l : KL} {hl : HL} {H : View} {ops : Array Oper} {rest : List Oper} {ty : TypeId}
/-- append(x, y...), y readable by whoever holds p. -/
theorem E_appendRd {x y : Operand} {t t' e : TypeId} {sz bytes k m : Nat} {xs news : List Value} {v u : Value} {p : HL} (hA : App P t e sz bytes) (ht' : slcOk P t' e) (hx : ev l x = some v) (hy : ev l y = some u)
    (hrd : Rd H p u m news) (hl' : news.length = m * sz) (h1 : news.all Value.oneCell' = true) (hb : (k + m) * bytes ≤ 140737488355328 ∧ k + m ≤ 140737488355328) :
    Eff P l H (row v e sz k xs :: p) (.call ⟨.builtin .append, #[x, y], #[t, t']⟩) ty fun v' H' q => ∃ a cap, v' = .slice a (k + m) cap ∧ H' = H ∧ q = row v' e sz (k + m) (xs ++ news) :: p := by
  refine Eff.append_ty hA.s ht' ⟨_, hx⟩ ⟨_, hy⟩ ?_
  intro e2 w hk ho
  obtain ⟨i, z, hi, hz, hs, hzs, hby⟩ := hA.i
  have hown := ho.own _ List.mem_cons_self
  obtain ⟨a', cap', rfl⟩ := row_shape hown
  obtain ⟨a, cap, rfl, h2⟩ := hrd.sh
  have hp : Has w H p := ho.sub (permCons (permSelf p))
  have ho1 : Has w H [row (.slice a' k cap') e sz k xs] := Has.left (r := p) ho
  have hown' := row_owns.1 hown
  by_cases hm : m = 0
  · subst hm
    have hn : news = [] := by simpa using hl'
    subst hn
    have hf : (Builtin.firstCells i.size 0 (.slice a 0 cap)).run P w = .ok #[] w := by
      cases a <;> simp [Builtin.firstCells, loadCells, loadCellsFrom]
    have hcap : k ≤ cap' := by
      rcases hown.2 with ⟨h3, h4⟩ | ⟨g, cp, cur, h3, _, h4, _⟩
      · cases h3; omega
      · cases h3; exact h4
    have hr : (Builtin.append_ #[t, t] ty #[.slice a' k cap', .slice a 0 cap]).run P w = .ok (.slice a' k cap') w := by
      cases a' <;> simp [Builtin.append_, run_underlying hA.s, Go.sizeOf, typeInfo, hi, Builtin.lenOf, hf, storeCells, hcap]
    have hrun : (ex e2 (.call ⟨.builtin .append, #[x, y], #[t, t]⟩) ty).run P w = .ok (.value (.slice a' k cap')) w := by
      simp [ex, execOp, resolve, invoke, builtin, hk x _ hx, hk y _ hy]
      rw [hr]; rfl
    rw [hrun]
    exact ⟨H, row (.slice a' k cap') e sz k xs :: p, Has.ok ho, a', cap', rfl, rfl, by simp⟩
  · obtain ⟨b, off, rfl⟩ := h2.resolve_left hm
    obtain ⟨v', w', hr, hown2, hg, hblk, hnil⟩ := run_append_own2 (P := P) w t ty e i z sz hA.s hi hz hs hzs hA.pos _ k xs hown' _ m news (.inr ⟨_, cap, rfl, hrd.rd _ _ _ rfl w hp⟩) hl' (List.all_eq_true.1 h1) (by simp only [maxLen]; omega) (by rw [hby]; exact hb.1)
    have hrun : (ex e2 (.call ⟨.builtin .append, #[x, y], #[t, t]⟩) ty).run P w = .ok (.value v') w' := by
      simp [ex, execOp, resolve, invoke, builtin, hk x _ hx, hk y _ hy]
      rw [hr]; rfl
    rw [hrun]
    have hf := rowFoot_eq hown'
    have hf' := rowFoot_eq hown2
    have k1 : Ok ⟨w, H, feet [row (.slice a' k cap') e sz k xs]⟩ w' H [row v' e sz (k + m) (xs ++ news)] := by
      refine ok1 ho1 hg.1.os hg.1.tape hg.1.output hg.2 hg.1.size (fun q hq hn => hg.1.block q hq (fun e => hn ((hf.1 q).2 e.symm))) (row_owns.2 hown2) (fun b hb => ?_) hf'.2
      have hb' := (hf'.1 b).1 hb
      rcases hblk with h | h
      · exact .inl ((hf.1 b).2 (h ▸ hb'))
      · rw [h] at hb'; cases hb'; exact .inr (Nat.le_refl _)
    have k2 := Ok.call (c := ⟨w, H, feet (row (.slice a' k cap') e sz k xs :: p)⟩) (p := [row (.slice a' k cap') e sz k xs]) (r := p) (Has.ok (hl := row (.slice a' k cap') e sz k xs :: p) ho) k1
    obtain ⟨a2, c2, rfl⟩ := row_shape (row_owns.2 hown2)
    exact ⟨H, _, k2, a2, c2, rfl, rfl, rfl⟩
theorem K_appendRd0 {x y : Operand} {t t' e : TypeId} {sz bytes m b : Nat} {news : List Value} {u : Value} {p r : HL} {d : Nat} {pos : String} {aft : Array Edge} (hA : App P t e sz bytes) (ht' : slcOk P t' e) (hx : ev l x = some (slc 0 b)) (hy : ev l y = some u)
    (hp : hl.Perm (blk b (.cells #[] e (0, 0)) :: (p ++ r))) (hrd : Rd H p u m news) (hl' : news.length = m * sz) (h1 : news.all Value.oneCell' = true) (hb : m * bytes ≤ 140737488355328 ∧ m ≤ 140737488355328) (hdn : Nat.blt d n = true)
    (h : ∀ a cap, KO P n c ops Q rest ((d, .slice a m cap) :: l) (row (.slice a m cap) e sz m news :: (p ++ r)) H) :
    KO P n c ops Q (⟨some d, .call ⟨.builtin .append, #[x, y], #[t, t']⟩, ty, pos, aft, none⟩ :: rest) l hl H := by
  refine KO_perm _ hp ?_
  refine KO_row0 sz ?_
  refine KE (row (slc 0 b) e sz 0 [] :: p) r (by simp) (E_appendRd hA ht' hx hy hrd hl' h1 (by simpa using hb)) hdn ?_
  rintro v' H' q _ ⟨a, cap, rfl, rfl, rfl⟩
  simp only [Nat.zero_add, List.nil_append, List.cons_append]
  exact h a cap
end
/-! ### Places asx tuples -/
def digs (n : Nat) : Nat → Nat → List Int
  | 0, _ => []
  | k + 1, p => digs n k (p / n) ++ [((p % n : Nat) : Int)]
theorem digs_len (n : Nat) : ∀ k p, (digs n k p).length = k
  | 0, _ => rfl
  | k + 1, p => by simp [digs, digs_len n k]
theorem digs_get {n : Nat} : ∀ {k p j : Nat} (h : j < k), (digs n k p)[k - 1 - j]'(by rw [digs_len]; omega) = ((p / n ^ j % n : Nat) : Int)
  | k + 1, p, 0, _ => by simp [digs, digs_len]
  | k + 1, p, j + 1, h => by
    have h1 : k + 1 - 1 - (j + 1) = k - 1 - j := by omega
    have ih := digs_get (n := n) (k := k) (p := p / n) (j := j) (by omega)
    simp only [digs, h1]
    rw [List.getElem_append_left (by rw [digs_len]; omega), ih, Nat.div_div_eq_div_mul, Nat.pow_succ, Nat.mul_comm n]
theorem digs_mem {n : Nat} (hn : 0 < n) : ∀ k p, ∀ x ∈ digs n k p, 0 ≤ x ∧ x < (n : Int)
  | 0, _, x, hx => by cases hx
  | k + 1, p, x, hx => by
    simp only [digs, List.mem_append, List.mem_singleton] at hx
    rcases hx with hx | rfl
    · exact digs_mem hn k _ x hx
    · have := Nat.mod_lt p hn; omega
theorem digs_place (n : Nat) : ∀ k p, p < n ^ k → placeM n (digs n k p) = (p : Int)
  | 0, p, h => by simp at h; subst h; rfl
  | k + 1, p, h => by
    have hd : p / n < n ^ k := by
      rw [Nat.div_lt_iff_lt_mul (by rcases Nat.eq_zero_or_pos n with e | e; (subst e; simp [Nat.pow_succ] at h); exact e)]
      rw [Nat.pow_succ] at h; exact h
    rw [digs, placeM_snoc, digs_place n k (p / n) hd]
    have := Nat.div_add_mod p n
    rw [Nat.mul_comm] at this
    rw [← Int.natCast_mul, ← Int.natCast_add, this]
theorem digs_tups {n k p : Nat} (hn : 0 < n) (h : p < (tups n k).length) : (tups n k)[p] = digs n k p := by
  have hp : p < n ^ k := by rw [tups_len] at h; exact h
  have hm : digs n k p ∈ tups n k := mem_tups.2 ⟨digs_len n k p, digs_mem hn k p⟩
  obtain ⟨i, hi, he⟩ := List.getElem_of_mem hm
  have h1 := tups_at hi
  rw [he, digs_place n k p hp] at h1
  have : p = i := by omega
  subst this
  exact he
end Pal

/-
  Reachable states asx the program finds them: marks, steps. Own work. No statement of the seat is proved here.
-/
namespace Pal
open Go
theorem putCells_one {cs : Array Value} {off : Nat} {v : Value} (h : off < cs.size) : putCells cs off [v] = cs.setIfInBounds off v := by
  unfold putCells putL
  apply Array.ext'
  rw [Array.toList_setIfInBounds]
  have hl : off < cs.toList.length := by simpa using h
  simp only [List.length_cons, List.length_nil, Nat.zero_add]
  rw [List.set_eq_take_append_cons_drop, if_pos hl, List.append_assoc]
  rfl
def marks (n : Nat) (out : List Int) : Array Value := ((List.range n).map fun (q : Nat) => Value.bool (decide ((q : Int) ∈ out))).toArray
theorem marks_size (n : Nat) (out : List Int) : (marks n out).size = n := by simp [marks]
theorem marks_get {n off : Nat} {out : List Int} {q : Int} (h : 0 ≤ q ∧ q < (n : Int)) (ho : off = q.toNat) : (marks n out)[off]? = some (.bool (decide (q ∈ out))) := by
  subst ho
  have h1 : q.toNat < n := by omega
  simp [marks, h1, show ((q.toNat : Nat) : Int) = q by omega]
theorem marks_nil (n : Nat) : marks n [] = (List.replicate n (Value.bool false)).toArray := by
  unfold marks
  congr 1
  refine List.ext_getElem (by simp) fun i h1 h2 => by simp
theorem marks_put {n off : Nat} {out : List Int} {q : Int} (h : 0 ≤ q ∧ q < (n : Int)) (ho : off = q.toNat) : putCells (marks n out) off (Value.bool true).cells.toList = marks n (out ++ [q]) := by
  subst ho
  have hq : q.toNat < n := by omega
  have e : putCells (marks n out) q.toNat (Value.bool true).cells.toList = (marks n out).setIfInBounds q.toNat (.bool true) := putCells_one (by rw [marks_size]; exact hq)
  rw [e]
  apply Array.ext
  · simp [marks]
  · intro i h1 h2
    have hi : i < n := by rw [marks_size] at h2; exact h2
    have h3 : (marks n out).size = n := marks_size n out
    rw [Array.getElem_setIfInBounds (by rw [h3]; exact hi)]
    by_cases e : q.toNat = i
    · subst e
      simp [marks, show ((q.toNat : Nat) : Int) = q by omega, show max q 0 = q by omega]
    · rw [if_neg e]
      have : ¬ ((i : Int) = q) := by omega
      simp [marks, this]
def findD (d : Dt) (s : Int) (out xs : List Int) : List Int := if atM d s xs ∈ out then out else out ++ [atM d s xs]
/-- Nodup, and states. -/
structure FoundOk (d : Dt) (out : List Int) : Prop where
  nd : out.Nodup
  st : States d out
theorem FoundOk.nil (d : Dt) : FoundOk d [] := ⟨.nil, fun q hq => by cases hq⟩
theorem FoundOk.len {d : Dt} {out : List Int} (h : FoundOk d out) : out.length ≤ d.acc.length := by
  have h1 : (out.map Int.toNat).Nodup := by
    refine List.Pairwise.map _ (fun x y hxy => ?_) (List.Pairwise.and_mem.1 h.nd)
    intro e
    have h1 := h.st x hxy.1
    have h2 := h.st y hxy.2.1
    exact hxy.2.2 (by omega)
  have := nodup_le h1 (fun x hx => by
    obtain ⟨y, hy, rfl⟩ := List.mem_map.1 hx
    have := h.st y hy
    show y.toNat < d.acc.length
    omega)
  simpa using this
theorem FoundOk.step {d : Dt} {out : List Int} {s : Int} {xs : List Int} (h : FoundOk d out) (hat : 0 ≤ atM d s xs ∧ atM d s xs < d.acc.length) : FoundOk d (findD d s out xs) := by
  unfold findD
  split
  · exact h
  · rename_i hm
    refine ⟨?_, ?_⟩
    · rw [List.nodup_append]
      refine ⟨h.nd, by simp, ?_⟩
      intro x hx y hy e
      simp at hy; subst hy; subst e; exact hm hx
    · intro q hq
      rcases List.mem_append.1 hq with hq | hq
      · exact h.st q hq
      · simp at hq; subst hq; exact hat
theorem findD_prefix (d : Dt) (s : Int) (out xs : List Int) : out <+: findD d s out xs := by
  unfold findD
  split
  · exact List.prefix_refl _
  · exact List.prefix_append _ _
/-- All finds over tuples of places in src. -/
def findsD (d : Dt) (s : Int) (src : List Int) (pre : List (List Int)) (out : List Int) : List Int := pre.foldl (fun o is => findD d s o (pickD src is)) out
theorem findsD_snoc (d : Dt) (s : Int) (src : List Int) (pre : List (List Int)) (is : List Int) (out : List Int) : findsD d s src (pre ++ [is]) out = findD d s (findsD d s src pre out) (pickD src is) := by
  simp [findsD, List.foldl_append]
theorem pickD_prefix {src out is : List Int} (hp : src <+: out) (hx : ∀ x ∈ is, 0 ≤ x ∧ x < (src.length : Int)) : pickD out is = pickD src is := by
  unfold pickD
  refine List.map_congr_left fun i hi => ?_
  have h1 := hx i hi
  obtain ⟨t, rfl⟩ := hp
  simp [List.getD, List.getElem?_append_left (show i.toNat < src.length by omega)]
theorem finds_steps {d : Dt} {s : Int} {src : List Int} : ∀ {pre : List (List Int)} {out : List Int}, src <+: out → (∀ is ∈ pre, ∀ x ∈ is, 0 ≤ x ∧ x < (src.length : Int)) → findsD d s src pre out = stepsD d s pre out
  | [], _, _, _ => rfl
  | is :: pre, out, hp, hx => by
    have h1 : findD d s out (pickD src is) = stepD d s out is := by
      unfold findD stepD
      rw [pickD_prefix hp (hx is (by simp))]
    have h2 : src <+: findD d s out (pickD src is) := hp.trans (findD_prefix d s out _)
    show findsD d s src pre (findD d s out (pickD src is)) = stepsD d s pre (stepD d s out is)
    rw [finds_steps h2 (fun is' h => hx is' (by simp [h])), h1]
theorem stepsD_len (d : Dt) (s : Int) : ∀ (xss : List (List Int)) (out : List Int), out <+: stepsD d s xss out
  | [], out => List.prefix_refl _
  | xs :: xss, out => by
    have h1 : out <+: stepD d s out xs := by
      unfold stepD; split
      · exact List.prefix_refl _
      · exact List.prefix_append _ _
    exact h1.trans (stepsD_len d s xss _)
/-- The last place of each state in old: what 'some' keeps. -/
def asArr (n : Nat) (old : List Int) : Array Value := ((List.range n).map fun (q : Nat) => Value.int .i64 (asD old (q : Int))).toArray
theorem asArr_size (n : Nat) (old : List Int) : (asArr n old).size = n := by simp [asArr]
theorem asArr_nil (n : Nat) : asArr n [] = (List.replicate n (Value.int .i64 0)).toArray := by
  unfold asArr
  congr 1
  refine List.ext_getElem (by simp) fun i h1 h2 => by simp [asD]
theorem asD_snoc {old : List Int} {x q : Int} (hn : ¬ x ∈ old) : asD (old ++ [x]) q = if q = x then (old.length : Int) else asD old q := by
  unfold asD
  by_cases e : q = x
  · subst e
    rw [if_pos (by simp), if_pos rfl, List.idxOf_append, if_neg hn]
    simp
  · rw [if_neg e]
    by_cases hm : q ∈ old
    · rw [if_pos (by simp [hm]), if_pos hm, List.idxOf_append, if_pos hm]
    · rw [if_neg (by simp [hm, e]), if_neg hm]
theorem asArr_put {n off : Nat} {old : List Int} {x : Int} (hn : ¬ x ∈ old) (h : 0 ≤ x ∧ x < (n : Int)) (ho : off = x.toNat) : putCells (asArr n old) off (Value.int .i64 (old.length : Int)).cells.toList = asArr n (old ++ [x]) := by
  subst ho
  have hq : x.toNat < n := by omega
  have e : putCells (asArr n old) x.toNat (Value.int .i64 (old.length : Int)).cells.toList = (asArr n old).setIfInBounds x.toNat (.int .i64 (old.length : Int)) := putCells_one (by rw [asArr_size]; exact hq)
  rw [e]
  apply Array.ext
  · simp [asArr]
  · intro i h1 h2
    have hi : i < n := by rw [asArr_size] at h2; exact h2
    rw [Array.getElem_setIfInBounds (by rw [asArr_size]; exact hi)]
    by_cases e : x.toNat = i
    · subst e
      have e2 : ((x.toNat : Nat) : Int) = x := by omega
      simp [asArr, asD_snoc hn, show max x 0 = x by omega]
    · rw [if_neg e]
      have : ¬ ((i : Int) = x) := by omega
      simp [asArr, asD_snoc hn, this]
theorem asArr_get {n off : Nat} {old : List Int} {q : Int} (h : 0 ≤ q ∧ q < (n : Int)) (ho : off = q.toNat) : (asArr n old)[off]? = some (.int .i64 (asD old q)) := by
  subst ho
  have h1 : q.toNat < n := by omega
  simp [asArr, h1, show max q 0 = q by omega]
theorem made_one (v : Value) (n : Nat) : madeCells #[v] (n * 1) = (List.replicate n v).toArray := by
  apply Array.ext
  · simp [madeCells]
  · intro i h1 h2
    simp [madeCells, Nat.mod_one]
theorem made_bools (n : Nat) : madeCells #[.bool false] (n * 1) = marks n [] := by rw [made_one, marks_nil]
theorem made_ints (n : Nat) : madeCells #[.int .i64 0] (n * 1) = asArr n [] := by rw [made_one, asArr_nil]
section
variable {P : Program} {n : Nat} {c : Cx} {Q : Exit → Act → World → Prop} {l : KL} {hl : HL} {H : View} {ops : Array Oper} {rest : List Oper}
theorem KO_rowshape {v : Value} {e : TypeId} {sz k : Nat} {xs : List Value} (i : Nat) (hi : hl[i]? = some (row v e sz k xs)) (h : subsV v k → KO P n c ops Q rest l hl H) : KO P n c ops Q rest l hl H := by
  intro ρ w hm ho
  have hh : (row v e sz k xs).holds (heapOf w) := ho.own _ (List.mem_of_getElem? hi)
  refine h ?_ ρ w hm ho
  rcases hh.2 with ⟨rfl, rfl⟩ | ⟨g, cap, _, rfl, _⟩
  · exact .inl ⟨rfl, rfl⟩
  · exact .inr ⟨g, cap, rfl⟩
end
theorem States.ok {d : Dt} {out : List Int} (h : States d out) (hn : d.acc.length ≤ 1048576) : ∀ x ∈ out, i64ok x := by
  intro x hx
  have := h x hx
  simp only [i64ok]; omega
end Pal
