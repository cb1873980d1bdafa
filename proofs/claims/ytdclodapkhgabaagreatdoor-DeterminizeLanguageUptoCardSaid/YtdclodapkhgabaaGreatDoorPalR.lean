/-
  Lists, slices and trees as they lie in a view. Own work. No statement of the seat is proved here.
-/
import Derived.Test.YtdclodapkhgabaaGreatDoorPalG
import Derived.Test.YtdclodapkhgabaaGreatDoorPalT
namespace Pal
open Go

theorem App.of {P : Program} {t e : TypeId} {sz bytes : Nat} (hs : slcOk P t e)
    (h : (match P.info? e with | some i => (match i.zero with | some z => Nat.beq i.size sz && Nat.beq i.bytes bytes && Nat.beq z.cells.size sz && Nat.blt 0 sz | none => false) | none => false) = true) : App P t e sz bytes := by
  cases hi : P.info? e with
  | none => rw [hi] at h; cases h
  | some i =>
    rw [hi] at h
    simp only [] at h
    cases hz : i.zero with
    | none => rw [hz] at h; cases h
    | some z =>
      rw [hz] at h
      simp only [Bool.and_eq_true] at h
      obtain ⟨⟨⟨h1, h2⟩, h3⟩, h4⟩ := h
      exact ⟨hs, by simpa using h4, i, z, hi, hz, Nat.eq_of_beq_eq_true h1, Nat.eq_of_beq_eq_true h3, Nat.eq_of_beq_eq_true h2⟩

section
variable {P : Program} {n : Nat} {c : Cx} {Q : Exit → Act → World → Prop} {l : KL} {hl : HL} {H : View} {ops : Array Oper} {rest : List Oper}
theorem Ok.nilrow {w : World} (e : TypeId) (sz : Nat) (ho : Ok c w H hl) : Ok c w H (row nilS e sz 0 [] :: hl) := by
  refine ⟨ho.os, ho.tape, ho.output, ho.drawn, ho.size, ho.old, ho.vold, ho.le, ho.has, ?_, ?_, ?_⟩
  · intro en hen
    rcases List.mem_cons.1 hen with rfl | hen
    · exact row_nil e sz w
    · exact ho.own en hen
  · intro b hb
    rw [feet_cons] at hb
    simp [row, nilS, rowFoot] at hb
    exact ho.foot b hb
  · rw [feet_cons]; simpa [row, nilS, rowFoot] using ho.nd
theorem K_nilrow {code : Code} (e : TypeId) (sz : Nat) (h : KC P n c code Q l (row nilS e sz 0 [] :: hl) H) : KC P n c code Q l hl H :=
  fun ρ w hm ho => h ρ w hm (ho.nilrow e sz)
end

theorem At.sub {H : View} {b off p : Nat} {cells cs : List Value} (h : At H b off cells) (hc : ∀ j v, cs[j]? = some v → cells[p + j]? = some v) : At H b (off + p) cs := by
  obtain ⟨a, T, fz, h1, h2⟩ := h
  exact ⟨a, T, fz, h1, fun j v hj => by rw [Nat.add_assoc]; exact h2 _ _ (hc j v hj)⟩

/-- The cells of a list's elements, sz each. -/
inductive RepL {α : Type} (R : α → List Value → Prop) (sz : Nat) : List α → List Value → Prop
  | nil : RepL R sz [] []
  | cons {x : α} {cs : List Value} {xs : List α} {ys : List Value} (h : R x cs) (hl : cs.length = sz) (ht : RepL R sz xs ys) : RepL R sz (x :: xs) (cs ++ ys)
theorem RepL.length {α : Type} {R : α → List Value → Prop} {sz : Nat} {xs : List α} {cells : List Value} (h : RepL R sz xs cells) : cells.length = xs.length * sz := by
  induction h with
  | nil => simp
  | cons _ hl _ ih => rw [List.length_append, hl, ih, List.length_cons, Nat.add_mul]; omega
theorem RepL.imp {α : Type} {R R' : α → List Value → Prop} {sz : Nat} {xs : List α} {cells : List Value} (hR : ∀ x cs, R x cs → R' x cs) (h : RepL R sz xs cells) : RepL R' sz xs cells := by
  induction h with
  | nil => exact .nil
  | cons h hl _ ih => exact .cons (hR _ _ h) hl ih
theorem RepL.append {α : Type} {R : α → List Value → Prop} {sz : Nat} {xs ys : List α} {a b : List Value} (h : RepL R sz xs a) (k : RepL R sz ys b) : RepL R sz (xs ++ ys) (a ++ b) := by
  induction h with
  | nil => exact k
  | cons h hl _ ih => rw [List.append_assoc]; exact .cons h hl ih
theorem RepL.one {α : Type} {R : α → List Value → Prop} {sz : Nat} {x : α} {cs : List Value} (h : R x cs) (hl : cs.length = sz) : RepL R sz [x] cs := by
  have := RepL.cons h hl (RepL.nil (R := R) (sz := sz)); simpa using this
theorem RepL.snoc {α : Type} {R : α → List Value → Prop} {sz : Nat} {xs : List α} {x : α} {a cs : List Value} (h : RepL R sz xs a) (hx : R x cs) (hl : cs.length = sz) : RepL R sz (xs ++ [x]) (a ++ cs) :=
  h.append (.one hx hl)
theorem RepL.get {α : Type} {R : α → List Value → Prop} {sz : Nat} {xs : List α} {cells : List Value} (h : RepL R sz xs cells) : ∀ {i : Nat} (hi : i < xs.length),
    ∃ cs, cs.length = sz ∧ R xs[i] cs ∧ ∀ j v, cs[j]? = some v → cells[i * sz + j]? = some v := by
  induction h with
  | nil => intro i hi; simp at hi
  | @cons x cs xs ys hx hl ht ih =>
    intro i hi
    cases i with
    | zero => exact ⟨cs, hl, hx, fun j v hj => by
        have : j < cs.length := (List.getElem?_eq_some_iff.1 hj).1
        simpa [List.getElem?_append_left this] using hj⟩
    | succ i =>
      obtain ⟨c', h1, h2, h3⟩ := ih (i := i) (by simpa using hi)
      refine ⟨c', h1, by simpa using h2, fun j v hj => ?_⟩
      rw [List.getElem?_append_right (by rw [hl, Nat.add_mul]; omega), hl, show (i + 1) * sz + j - sz = i * sz + j by rw [Nat.add_mul]; omega]
      exact h3 j v hj
theorem RepL.oneCell {α : Type} {R : α → List Value → Prop} {sz : Nat} {xs : List α} {cells : List Value} (hR : ∀ x cs, R x cs → cs.all Value.oneCell' = true) (h : RepL R sz xs cells) : cells.all Value.oneCell' = true := by
  induction h with
  | nil => rfl
  | cons h _ _ ih => rw [List.all_append, hR _ _ h, ih]; rfl

/-- A slice value over a view: k elements, whose cells these are. -/
def SlAt (H : View) (v : Value) (k : Nat) (cells : List Value) : Prop :=
  ∃ a cap, v = .slice a k cap ∧ ((k = 0 ∧ cells = []) ∨ ∃ b off, a = some ⟨b, off, none⟩ ∧ At H b off cells)
theorem SlAt.mono {H H' : View} {v : Value} {k : Nat} {cells : List Value} (h : SlAt H v k cells) (hle : VLe H H') : SlAt H' v k cells := by
  obtain ⟨a, cap, h1, h2⟩ := h
  refine ⟨a, cap, h1, h2.imp id ?_⟩
  rintro ⟨b, off, h3, h4⟩
  exact ⟨b, off, h3, h4.mono hle⟩
theorem rowAt.sl {H : View} {v : Value} {k : Nat} {xs : List Value} (h : rowAt H v k xs) : SlAt H v k xs := by
  rcases h with ⟨rfl, rfl, rfl⟩ | ⟨g, cap, rfl, h⟩
  · exact ⟨none, 0, rfl, .inl ⟨rfl, rfl⟩⟩
  · exact ⟨_, cap, rfl, .inr ⟨g, 0, rfl, h⟩⟩

/-- The element at i of a slice that reads as xs. -/
theorem SlAt.elem {α : Type} {R : α → List Value → Prop} {sz : Nat} {xs : List α} {cells : List Value} {H : View} {a : Option Addr} {k cap : Nat} (h : SlAt H (.slice a k cap) k cells) (hR : RepL R sz xs cells) {i : Nat} (hi : i < xs.length) (hk : k = xs.length) :
    ∃ b off cs, a = some ⟨b, off, none⟩ ∧ cs.length = sz ∧ R xs[i] cs ∧ At H b (off + i * sz) cs := by
  obtain ⟨a', cap', h1, h2⟩ := h
  cases h1
  rcases h2 with ⟨h2, _⟩ | ⟨b, off, rfl, h2⟩
  · omega
  · obtain ⟨cs, h3, h4, h5⟩ := hR.get hi
    exact ⟨b, off, cs, rfl, h3, h4, h2.sub h5⟩

/-! ### Numbers, bools, lists of them -/
def RI (x : Int) (cs : List Value) : Prop := i64ok x ∧ cs = [.int .i64 x]
def RB (x : Bool) (cs : List Value) : Prop := cs = [.bool x]
def ints (xs : List Int) : List Value := xs.map (.int .i64)
theorem RepL.ints {xs : List Int} (h : ∀ x ∈ xs, i64ok x) : RepL RI 1 xs (ints xs) := by
  induction xs with
  | nil => exact .nil
  | cons x r ih => exact .cons (cs := [.int .i64 x]) ⟨h x (by simp), rfl⟩ rfl (ih fun y hy => h y (List.mem_cons_of_mem _ hy))
theorem RepL.eq_ints {xs : List Int} {cells : List Value} (h : RepL RI 1 xs cells) : cells = Pal.ints xs ∧ ∀ x ∈ xs, i64ok x := by
  induction h with
  | nil => exact ⟨rfl, fun _ h => by cases h⟩
  | cons h _ _ ih =>
    obtain ⟨h1, rfl⟩ := h
    exact ⟨by rw [ih.1]; rfl, fun y hy => by
      rcases List.mem_cons.1 hy with rfl | hy
      · exact h1
      · exact ih.2 y hy⟩
theorem ints_one (xs : List Int) : (ints xs).all Value.oneCell' = true := by
  induction xs with
  | nil => rfl
  | cons x r ih => exact ih
/-- A slice of ints. -/
def SI (H : View) (v : Value) (xs : List Int) : Prop := SlAt H v xs.length (ints xs) ∧ ∀ x ∈ xs, i64ok x
theorem SI.mono {H H' : View} {v : Value} {xs : List Int} (h : SI H v xs) (hle : VLe H H') : SI H' v xs := ⟨h.1.mono hle, h.2⟩
theorem SI.get {H : View} {a : Option Addr} {k cap : Nat} {xs : List Int} (h : SI H (.slice a k cap) xs) {i : Nat} (hi : i < xs.length) : ∃ b off, a = some ⟨b, off, none⟩ ∧ At H b (off + i * 1) [.int .i64 xs[i]] := by
  obtain ⟨h1, h2⟩ := h
  have hk : k = xs.length := by obtain ⟨_, _, h, _⟩ := h1; cases h; rfl
  subst hk
  obtain ⟨b, off, cs, h3, h4, h5, h6⟩ := h1.elem (.ints h2) hi rfl
  obtain ⟨_, rfl⟩ := h5
  exact ⟨b, off, h3, h6⟩
theorem SI.shape {H : View} {v : Value} {xs : List Int} (h : SI H v xs) : ∃ a cap, v = .slice a xs.length cap := by
  obtain ⟨⟨a, cap, h, _⟩, _⟩ := h; exact ⟨a, cap, h⟩

/-! ### Trees -/
theorem RepT.two {H : View} {t : Tr} {cs : List Value} (h : RepT H t cs) : cs.length = 2 := by cases h; rfl
theorem RepT.shape {H : View} {t : Tr} {cs : List Value} (h : RepT H t cs) : ∃ s a k c, cs = [.int .i64 s, .slice a k c] := by cases h; exact ⟨_, _, _, _, rfl⟩
theorem RepT.oneCell {H : View} {t : Tr} {cs : List Value} (h : RepT H t cs) : cs.all Value.oneCell' = true := by cases h; rfl
theorem RepT.of {H : View} {s : Int} {ts : List Tr} {v : Value} {cells : List Value} (hs : i64ok s) (hv : SlAt H v ts.length cells) (hR : RepL (RepT H) 2 ts cells) : RepT H (.node s ts) [.int .i64 s, v] := by
  obtain ⟨a, cap, rfl, h2⟩ := hv
  have hget := fun i (hi : i < ts.length) => hR.get hi
  have : ∃ cs : Nat → List Value, ∀ i (hi : i < ts.length), (cs i).length = 2 ∧ RepT H ts[i] (cs i) ∧ ∀ j v, (cs i)[j]? = some v → cells[i * 2 + j]? = some v := by
    classical
    refine ⟨fun i => if hi : i < ts.length then (hget i hi).choose else [], fun i hi => ?_⟩
    simp only [hi, dif_pos]
    exact (hget i hi).choose_spec
  obtain ⟨cs, hcs⟩ := this
  rcases h2 with ⟨h2, h3⟩ | ⟨b, off, rfl, h2⟩
  · refine .mk s ts a cap 0 0 cs hs (fun hne => ?_) (fun i hi => by omega) (fun i hi => (hcs i hi).2.1)
    exact absurd (List.eq_nil_of_length_eq_zero h2) hne
  · exact .mk s ts _ cap b off cs hs (fun _ => rfl) (fun i hi => ⟨(hcs i hi).1, h2.sub (hcs i hi).2.2⟩) (fun i hi => (hcs i hi).2.1)
end Pal
