/-
  Frames asx functions, what is known of the slots asx a list, views of the heap, owned blocks: a layer over the walk's Code.wp. Own work. No statement of the seat is proved here.
-/
import Derived.WalkKit
namespace Pal
open Go

abbrev Env := Nat → Value
abbrev KL := List (Nat × Value)
abbrev View := Nat → Option Obj
/-- Something that is owned: the blocks on which it stands, and what it says of them. -/
structure Own where
  foot : List Nat
  holds : (Nat → Option Obj) → Prop
  loc : ∀ h h', (∀ b, b ∈ foot → h' b = h b) → holds h → holds h'
  ex : ∀ h, holds h → ∀ b, b ∈ foot → ∃ o, h b = some o
abbrev HL := List Own
def feet (hl : HL) : List Nat := hl.flatMap Own.foot
theorem feet_append (a b : HL) : feet (a ++ b) = feet a ++ feet b := by simp [feet]
theorem feet_cons (a : Own) (b : HL) : feet (a :: b) = a.foot ++ feet b := by simp [feet]
theorem mem_feet {hl : HL} {b : Nat} : b ∈ feet hl ↔ ∃ e ∈ hl, b ∈ e.foot := by simp [feet]
def heapOf (w : World) : Nat → Option Obj := fun b => w.heap[b]?
/-- A block, whole. -/
def blk (b : Nat) (o : Obj) : Own := ⟨[b], fun h => h b = some o, fun h h' e hh => by rw [e b (by simp)]; exact hh, fun h hh k hk => by simp at hk; subst hk; exact ⟨o, hh⟩⟩

theorem beq_ne {a b : Nat} (h : a ≠ b) : Nat.beq a b = false := by
  cases e : Nat.beq a b with
  | false => rfl
  | true => exact absurd (Nat.eq_of_beq_eq_true e) h
theorem ne_beq {a b : Nat} (h : Nat.beq a b = false) : a ≠ b := fun e => by
  subst e; rw [Nat.beq_refl] at h; cases h
theorem alloc_new (w : World) (o : Obj) : (w.alloc o).heap[w.heap.size]? = some o := by
  show (w.heap.push o)[w.heap.size]? = some o
  simp
theorem alloc_old (w : World) (o : Obj) (i : Nat) (h : i < w.heap.size) : (w.alloc o).heap[i]? = w.heap[i]? := by
  show (w.heap.push o)[i]? = w.heap[i]?
  rw [Array.getElem?_push, if_neg (Nat.ne_of_lt h)]
def upd (ρ : Env) (d : Nat) (v : Value) : Env := fun t => if t = d then v else ρ t
/-- A frame of n slots. -/
def fr (n : Nat) (ρ : Env) : Act := ⟨Array.ofFn (n := n) (fun i => ρ i), []⟩

theorem fr_getD (n : Nat) (ρ : Env) (t : Nat) (h : t < n) : (fr n ρ).tmps.getD t undef = ρ t := by
  simp [fr, Array.getD, h]
theorem fr_get? (n : Nat) (ρ : Env) (t : Nat) (h : t < n) : (fr n ρ).tmps[t]? = some (ρ t) := by
  simp [fr, h]
theorem fr_put (n : Nat) (ρ : Env) (d : Nat) (v : Value) : (fr n ρ).put (some d) v = fr n (upd ρ d v) := by
  simp only [fr, Act.put, Act.mk.injEq, and_true]
  apply Array.ext
  · simp
  · intro i h1 h2
    have h3 : i < n := by simpa using h2
    have e1 := Array.getElem?_eq_getElem h1
    have e2 := Array.getElem?_eq_getElem h2
    apply Option.some.inj
    rw [← e1, ← e2]
    simp only [Array.getElem?_setIfInBounds, Array.getElem?_ofFn, Array.size_ofFn, upd]
    by_cases h : d = i
    · subst h; simp [h3]
    · simp [h, Ne.symm h, h3]
def look : KL → Nat → Option Value
  | [], _ => none
  | (k, v) :: l, t => cond (Nat.beq k t) (some v) (look l t)
def ev (l : KL) : Operand → Option Value
  | .tmp t => look l t
  | .const v => some v
  | .global g => some (.pointer (some ⟨g, 0, none⟩))
  | .func f => some (.func (.func f) #[] #[])

def Mt (n : Nat) (ρ : Env) (l : KL) : Prop := ∀ t v, look l t = some v → t < n ∧ ρ t = v

theorem Mt.ev {n : Nat} {ρ : Env} {l : KL} (h : Mt n ρ l) {x : Operand} {v : Value} (hx : ev l x = some v) : (fr n ρ).eval x = v := by
  cases x with
  | tmp t => obtain ⟨h1, h2⟩ := h t v hx; simp only [Act.eval]; rw [fr_getD n ρ t h1, h2]
  | const c => simpa [Pal.ev, Act.eval] using hx
  | global g => simpa [Pal.ev, Act.eval] using hx
  | func f => simpa [Pal.ev, Act.eval] using hx

theorem Mt.put {n : Nat} {ρ : Env} {l : KL} (h : Mt n ρ l) {d : Nat} (hd : Nat.blt d n = true) (v : Value) : Mt n (upd ρ d v) ((d, v) :: l) := by
  intro t u hu
  simp only [look] at hu
  by_cases e : d = t
  · subst e
    simp [Nat.beq_refl] at hu
    exact ⟨Nat.blt_eq.mp hd, by simp [upd, hu]⟩
  · have hb := beq_ne e
    rw [hb] at hu
    obtain ⟨h1, h2⟩ := h t u hu
    exact ⟨h1, by simp [upd, Ne.symm e, h2]⟩

def subs : KL → KL → Prop
  | [], _ => True
  | (k, v) :: r, l => look l k = some v ∧ subs r l
theorem Mt.sub {n : Nat} {ρ : Env} {l l' : KL} (h : Mt n ρ l) (hs : subs l' l) : Mt n ρ l' := by
  induction l' with
  | nil => intro t v hv; simp [look] at hv
  | cons p r ih =>
    obtain ⟨k, u⟩ := p
    obtain ⟨h1, h2⟩ := hs
    intro t v hv
    simp only [look] at hv
    by_cases e : k = t
    · subst e
      simp [Nat.beq_refl] at hv
      subst hv
      exact h k u h1
    · have hb := beq_ne e
      rw [hb] at hv
      exact ih h2 t v hv

/-- The world at a function's entry: the world, the view, the blocks that were handed over to be changed. -/
structure Cx where
  w0 : World
  H0 : View
  pass : List Nat

structure Ok (c : Cx) (w : World) (H : View) (hl : HL) : Prop where
  os : w.os = c.w0.os
  tape : w.tape = c.w0.tape
  output : w.output = c.w0.output
  drawn : c.w0.drawn ≤ w.drawn
  size : c.w0.heap.size ≤ w.heap.size
  old : ∀ b, b < c.w0.heap.size → b ∉ c.pass → w.heap[b]? = c.w0.heap[b]?
  vold : ∀ b, b < c.w0.heap.size → b ∉ c.pass → H b = c.H0 b
  le : ∀ b o, c.H0 b = some o → H b = some o
  has : ∀ b o, H b = some o → w.heap[b]? = some o
  own : ∀ e ∈ hl, e.holds (heapOf w)
  foot : ∀ b ∈ feet hl, H b = none ∧ (c.w0.heap.size ≤ b ∨ b ∈ c.pass)
  nd : (feet hl).Nodup

structure Has (w : World) (H : View) (hl : HL) : Prop where
  has : ∀ b o, H b = some o → w.heap[b]? = some o
  own : ∀ e ∈ hl, e.holds (heapOf w)
  foot : ∀ b ∈ feet hl, H b = none
  nd : (feet hl).Nodup

theorem Has.ok {w : World} {H : View} {hl : HL} (h : Has w H hl) : Ok ⟨w, H, feet hl⟩ w H hl :=
  ⟨rfl, rfl, rfl, Nat.le_refl _, Nat.le_refl _, fun _ _ _ => rfl, fun _ _ _ => rfl, fun _ _ h => h, h.has, h.own, fun b hb => ⟨h.foot b hb, .inr hb⟩, h.nd⟩

theorem lt_of_heap {w : World} {b : Nat} {o : Obj} (h : w.heap[b]? = some o) : b < w.heap.size := by
  rcases Nat.lt_or_ge b w.heap.size with h' | h'
  · exact h'
  · simp [Array.getElem?_eq_none h'] at h

theorem Ok.hasL {c : Cx} {w : World} {H : View} {hl : HL} (h : Ok c w H hl) : Has w H hl := ⟨h.has, h.own, fun b hb => (h.foot b hb).1, h.nd⟩
theorem Has.lt {w : World} {H : View} {hl : HL} (h : Has w H hl) {b : Nat} (hb : b ∈ feet hl) : b < w.heap.size := by
  obtain ⟨e, he, hbe⟩ := mem_feet.1 hb
  obtain ⟨o, ho⟩ := e.ex _ (h.own e he) b hbe
  exact lt_of_heap ho
theorem Has.left {w : World} {H : View} {p r : HL} (h : Has w H (p ++ r)) : Has w H p := by
  have hnd := h.nd
  rw [feet_append] at hnd
  exact ⟨h.has, fun e he => h.own e (List.mem_append_left _ he), fun b hb => h.foot b (by rw [feet_append]; exact List.mem_append_left _ hb), (List.nodup_append.1 hnd).1⟩
theorem feet_perm {a b : HL} (h : a.Perm b) : (feet a).Perm (feet b) := h.flatMap_right _
theorem Has.perm {w : World} {H : View} {a b : HL} (h : Has w H a) (hp : a.Perm b) : Has w H b :=
  ⟨h.has, fun e he => h.own e (hp.mem_iff.2 he), fun b hb => h.foot b ((feet_perm hp).mem_iff.2 hb), (feet_perm hp).nodup_iff.1 h.nd⟩

/-- Behind a callee that was handed p. -/
theorem Ok.call {c : Cx} {w w' : World} {H H' : View} {p r q : HL} (h : Ok c w H (p ++ r)) (k : Ok ⟨w, H, feet p⟩ w' H' q) : Ok c w' H' (q ++ r) := by
  have hnd := h.nd
  rw [feet_append, List.nodup_append] at hnd
  obtain ⟨ndp, ndr, npr⟩ := hnd
  have hrl : ∀ b, b ∈ feet r → b < w.heap.size ∧ b ∉ feet p := by
    intro b hb
    exact ⟨h.hasL.lt (by rw [feet_append]; exact List.mem_append_right _ hb), fun hp => npr b hp b hb rfl⟩
  refine ⟨k.os.trans h.os, k.tape.trans h.tape, k.output.trans h.output, Nat.le_trans h.drawn k.drawn, Nat.le_trans h.size k.size, ?_, ?_, ?_, k.has, ?_, ?_, ?_⟩
  · intro b hb hp
    rw [← h.old b hb hp]
    refine k.old b (Nat.lt_of_lt_of_le hb h.size) (fun hm => ?_)
    rcases (h.foot b (by rw [feet_append]; exact List.mem_append_left _ hm)).2 with h1 | h1
    · exact absurd hb (Nat.not_lt.2 h1)
    · exact hp h1
  · intro b hb hp
    refine (k.vold b (Nat.lt_of_lt_of_le hb h.size) (fun hm => ?_)).trans (h.vold b hb hp)
    rcases (h.foot b (by rw [feet_append]; exact List.mem_append_left _ hm)).2 with h1 | h1
    · exact absurd hb (Nat.not_lt.2 h1)
    · exact hp h1
  · intro b o ho
    exact k.le b o (h.le b o ho)
  · intro e he
    rcases List.mem_append.1 he with he | he
    · exact k.own e he
    · refine e.loc _ _ (fun b hb => ?_) (h.own e (List.mem_append_right _ he))
      obtain ⟨h1, h2⟩ := hrl b (mem_feet.2 ⟨e, he, hb⟩)
      exact k.old b h1 h2
  · intro b hb
    rw [feet_append] at hb
    rcases List.mem_append.1 hb with hb | hb
    · obtain ⟨h2, h3⟩ := k.foot b hb
      refine ⟨h2, ?_⟩
      rcases h3 with h3 | h3
      · exact .inl (Nat.le_trans h.size h3)
      · exact (h.foot b (by rw [feet_append]; exact List.mem_append_left _ h3)).2
    · obtain ⟨h1, h2⟩ := hrl b hb
      obtain ⟨h4, h5⟩ := h.foot b (by rw [feet_append]; exact List.mem_append_right _ hb)
      exact ⟨(k.vold b h1 h2).trans h4, h5⟩
  · rw [feet_append, List.nodup_append]
    refine ⟨k.nd, ndr, ?_⟩
    intro b hb b' hb' e
    subst e
    obtain ⟨h1, h2⟩ := hrl b hb'
    rcases (k.foot b hb).2 with h3 | h3
    · exact absurd h1 (Nat.not_lt.2 h3)
    · exact h2 h3

/-- A new block of one's own. -/
theorem Has.alloc {w : World} {H : View} {hl : HL} (h : Has w H hl) (o : Obj) : Has (w.alloc o) H (blk w.heap.size o :: hl) := by
  refine ⟨?_, ?_, ?_, ?_⟩
  · intro b o' hb
    have := h.has b o' hb
    rw [alloc_old w o b (lt_of_heap this)]
    exact this
  · intro e he
    cases List.mem_cons.1 he with
    | inl e1 => subst e1; exact alloc_new w o
    | inr he =>
      refine e.loc _ _ (fun b hb => ?_) (h.own e he)
      exact alloc_old w o b (h.lt (mem_feet.2 ⟨e, he, hb⟩))
  · intro b hb
    rw [feet_cons] at hb
    rcases List.mem_append.1 hb with hb | hb
    · simp [blk] at hb
      subst hb
      cases hH : H w.heap.size with
      | none => rfl
      | some o2 => exact absurd (lt_of_heap (h.has _ _ hH)) (Nat.lt_irrefl _)
    · exact h.foot b hb
  · rw [feet_cons]
    simp only [blk, List.cons_append, List.nil_append, List.nodup_cons]
    exact ⟨fun hm => Nat.lt_irrefl _ (h.lt hm), h.nd⟩
theorem ok_alloc {w : World} {H : View} (o : Obj) (h : ∀ b o, H b = some o → w.heap[b]? = some o) : Ok ⟨w, H, []⟩ (w.alloc o) H [blk w.heap.size o] := by
  have h0 : Has w H [] := ⟨h, fun _ he => (by cases he), fun _ hb => (by simp [feet] at hb), by simp [feet]⟩
  have h1 := h0.alloc o
  refine ⟨rfl, rfl, rfl, Nat.le_refl _, by simp, fun b hb _ => alloc_old w o b hb, fun _ _ _ => rfl, fun _ _ h => h, h1.has, h1.own, ?_, h1.nd⟩
  intro b hb
  refine ⟨h1.foot b hb, .inl ?_⟩
  simp [feet, blk] at hb
  subst hb
  exact Nat.le_refl _
theorem Ok.alloc {c : Cx} {w : World} {H : View} {hl : HL} (h : Ok c w H hl) (o : Obj) : Ok c (w.alloc o) H (blk w.heap.size o :: hl) :=
  Ok.call (p := []) (r := hl) (q := [blk w.heap.size o]) h (by simpa [feet] using ok_alloc o h.has)

theorem Ok.drew {c : Cx} {w : World} {H : View} {hl : HL} (h : Ok c w H hl) : Ok c w.drew H hl :=
  ⟨h.os, h.tape, h.output, Nat.le_trans h.drawn (Nat.le_succ _), h.size, h.old, h.vold, h.le, h.has, h.own, h.foot, h.nd⟩

/-- What is owned may be given in another order, or forgotten in part. -/
theorem Ok.perm {c : Cx} {w : World} {H : View} {hl hl' : HL} (h : Ok c w H hl) (hp : hl.Perm hl') : Ok c w H hl' :=
  ⟨h.os, h.tape, h.output, h.drawn, h.size, h.old, h.vold, h.le, h.has, fun e he => h.own e (hp.mem_iff.2 he), fun b hb => h.foot b ((feet_perm hp).mem_iff.2 hb), (feet_perm hp).nodup_iff.1 h.nd⟩
theorem Ok.right {c : Cx} {w : World} {H : View} {a b : HL} (h : Ok c w H (a ++ b)) : Ok c w H b := by
  have hnd := h.nd
  rw [feet_append, List.nodup_append] at hnd
  exact ⟨h.os, h.tape, h.output, h.drawn, h.size, h.old, h.vold, h.le, h.has, fun e he => h.own e (List.mem_append_right _ he), fun b hb => h.foot b (by rw [feet_append]; exact List.mem_append_right _ hb), hnd.2.1⟩
theorem feet_sublist {a b : HL} (h : List.Sublist a b) : List.Sublist (feet a) (feet b) := by
  induction h with
  | slnil => exact List.Sublist.refl _
  | cons e _ ih => rw [feet_cons]; exact ih.trans (List.sublist_append_right _ _)
  | cons_cons e _ ih => rw [feet_cons, feet_cons]; exact (List.append_sublist_append_left _).2 ih
theorem Ok.sublist {c : Cx} {w : World} {H : View} {hl hl' : HL} (h : Ok c w H hl) (hs : List.Sublist hl' hl) : Ok c w H hl' :=
  ⟨h.os, h.tape, h.output, h.drawn, h.size, h.old, h.vold, h.le, h.has, fun e he => h.own e (hs.subset he), fun b hb => h.foot b ((feet_sublist hs).subset hb), (feet_sublist hs).nodup h.nd⟩
theorem Has.sublist {w : World} {H : View} {hl hl' : HL} (h : Has w H hl) (hs : List.Sublist hl' hl) : Has w H hl' :=
  ⟨h.has, fun e he => h.own e (hs.subset he), fun b hb => h.foot b ((feet_sublist hs).subset hb), (feet_sublist hs).nodup h.nd⟩

def vadd (H : View) (b : Nat) (o : Obj) : View := fun k => if k = b then some o else H k
/-- A new block of one's own becomes part of the view: it is never written again. -/
theorem Ok.publishF {c : Cx} {w : World} {H : View} {hl : HL} {b : Nat} {o : Obj} (h : Ok c w H (blk b o :: hl)) : Ok c w (vadd H b o) hl := by
  have h1 : w.heap[b]? = some o := h.own _ List.mem_cons_self
  obtain ⟨h2, h3⟩ := h.foot b (by simp [feet, blk])
  have hnd := h.nd
  rw [feet_cons] at hnd
  simp only [blk, List.cons_append, List.nil_append, List.nodup_cons] at hnd
  refine ⟨h.os, h.tape, h.output, h.drawn, h.size, h.old, ?_, ?_, ?_, fun e he => h.own e (List.mem_cons_of_mem _ he), ?_, hnd.2⟩
  · intro k hk hkp
    have : k ≠ b := fun e => by
      subst e
      rcases h3 with h3 | h3
      · exact absurd hk (Nat.not_lt.2 h3)
      · exact hkp h3
    simp [vadd, this, h.vold k hk hkp]
  · intro k o' hk
    have := h.le k o' hk
    by_cases e : k = b
    · subst e; rw [h2] at this; cases this
    · simp [vadd, e, this]
  · intro k o' hk
    by_cases e : k = b
    · subst e; simp [vadd] at hk; subst hk; exact h1
    · simp [vadd, e] at hk; exact h.has k o' hk
  · intro k hk
    obtain ⟨g2, g3⟩ := h.foot k (by rw [feet_cons]; exact List.mem_append_right _ hk)
    refine ⟨?_, g3⟩
    have : k ≠ b := fun e => hnd.1 (e ▸ hk)
    simp [vadd, this, g2]
theorem Ok.publish {c : Cx} {w : World} {H : View} {hl : HL} {b : Nat} {o : Obj} (h : Ok c w H (blk b o :: hl)) (_hnew : b ∉ c.pass) : Ok c w (vadd H b o) hl := h.publishF

def VLe (H H' : View) : Prop := ∀ b o, H b = some o → H' b = some o
theorem VLe.refl (H : View) : VLe H H := fun _ _ h => h
theorem VLe.trans {A B C : View} (h : VLe A B) (k : VLe B C) : VLe A C := fun b o ho => k b o (h b o ho)

/-! ### The judgements -/
section
variable (P : Program) (n : Nat) (c : Cx)
def KO (ops : Array Oper) (Q : Exit → Act → World → Prop) (rest : List Oper) (l : KL) (hl : HL) (H : View) : Prop :=
  ∀ ρ w, Mt n ρ l → Ok c w H hl → wpList P ops Q rest (fr n ρ) w
def KC (code : Code) (Q : Exit → Act → World → Prop) (l : KL) (hl : HL) (H : View) : Prop :=
  ∀ ρ w, Mt n ρ l → Ok c w H hl → code.wp P Q (fr n ρ) w
def KQ (Q : Exit → Act → World → Prop) (e : Exit) (l : KL) (hl : HL) (H : View) : Prop :=
  ∀ ρ w, Mt n ρ l → Ok c w H hl → Q e (fr n ρ) w
end

/-- What a call owes: it is handed the blocks hl (it may change them), reads through H, and ends with a value, a greater view, and blocks of its own. -/
def SatO (P : Program) (f : FuncId) (args : Array Value) (H : View) (hl : HL) (post : Value → View → HL → Prop) : Prop :=
  ∀ w, Has w H hl → Calls P f args w fun e w' => ∃ v H' hl', e = .returned v ∧ Ok ⟨w, H, feet hl⟩ w' H' hl' ∧ post v H' hl'
def Sat (P : Program) (f : FuncId) (args : Array Value) (H : View) (post : Value → View → Prop) : Prop :=
  SatO P f args H [] fun v H' _ => post v H'

def RS (c : Cx) (post : Value → View → HL → Prop) : Ending → World → Prop :=
  fun e w' => ∃ v H' hl', e = .returned v ∧ Ok c w' H' hl' ∧ post v H' hl'

section rules
variable {P : Program} {n : Nat} {c : Cx} {Q : Exit → Act → World → Prop} {l : KL} {hl : HL} {H : View}

def args0 : (i : Nat) → List Value → KL
  | _, [] => []
  | i, v :: r => (i, v) :: args0 (i + 1) r
theorem look_args0 : ∀ (vs : List Value) (i t : Nat) (v : Value), look (args0 i vs) t = some v → i ≤ t ∧ vs[t - i]? = some v
  | [], i, t, v, h => by simp [args0, look] at h
  | u :: r, i, t, v, h => by
    simp only [args0, look] at h
    by_cases e : i = t
    · subst e; simp [Nat.beq_refl] at h; simp [h]
    · have hb := beq_ne e
      rw [hb] at h
      obtain ⟨h1, h2⟩ := look_args0 r (i + 1) t v h
      refine ⟨by omega, ?_⟩
      rw [show t - i = (t - (i + 1)) + 1 by omega]
      simpa using h2

theorem enterO {f : FuncId} {fn : Func} {body : Code} {n : Nat} {args : List Value} {post : Value → View → HL → Prop}
    (hf : P.funcs[f]? = some fn) (hb : fn.body = some body) (hnt : fn.ntmps = n) (hn : Nat.ble args.length n = true)
    (h : ∀ w0, KC P n ⟨w0, H, feet hl⟩ body (bodyPost P fn (RS ⟨w0, H, feet hl⟩ post)) (args0 0 args) hl H) :
    SatO P f args.toArray H hl post := by
  subst hnt
  intro w hw
  have hn' := Nat.ble_eq.mp hn
  refine calls_of_wp hf hb ?_
  have key : ({ tmps := args.toArray ++ Array.replicate (fn.ntmps - args.toArray.size) undef, defers := [] } : Act) = fr fn.ntmps fun t => args.getD t undef := by
    simp only [fr, Act.mk.injEq, and_true]
    apply Array.ext
    · simp; omega
    · intro i h1 h2
      simp at h1 h2
      rw [Array.getElem_append]
      by_cases hi : i < args.length
      · simp [hi]
      · simp [hi]
  rw [key]
  refine h w _ w ?_ hw.ok
  intro t v hv
  obtain ⟨_, h2⟩ := look_args0 args 0 t v hv
  simp at h2
  have : t < args.length := (List.getElem?_eq_some_iff.1 h2).1
  exact ⟨by omega, by simp [h2]⟩

theorem K_seq {a b : Code} (h : KC P n c a (Exit.then (b.wp P Q) Q) l hl H) : KC P n c (.seq a b) Q l hl H :=
  fun ρ w hm ho => wp_seq (h ρ w hm ho)
theorem K_skip (h : KQ n c Q .normal l hl H) : KC P n c .skip Q l hl H := fun ρ w hm ho => wp_skip (h ρ w hm ho)
theorem K_exit {id : Nat} (h : KQ n c Q (.exit id) l hl H) : KC P n c (.exit id) Q l hl H := fun ρ w hm ho => wp_exit (h ρ w hm ho)
theorem K_ret (h : KQ n c Q .ret l hl H) : KC P n c .ret Q l hl H := fun ρ w hm ho => wp_ret (h ρ w hm ho)
theorem K_label {i : Nat} (h : KQ n c Q .normal l hl H) : KC P n c (.label i) Q l hl H := fun ρ w hm ho => wp_label (h ρ w hm ho)
theorem K_block {id : Nat} {b : Code} (h : KC P n c b (Exit.inBlock id Q) l hl H) : KC P n c (.block id b) Q l hl H :=
  fun ρ w hm ho => wp_block (h ρ w hm ho)
theorem K_ifB {x : Operand} {a b : Code} {t : Bool} (hx : ev l x = some (.bool t)) (ht : t = true → KC P n c a Q l hl H) (hf : t = false → KC P n c b Q l hl H) :
    KC P n c (.cond x a b) Q l hl H := by
  intro ρ w hm ho
  refine wp_cond_split (hm.ev hx) (fun h => ht h ρ w hm ho) (fun h => hf h ρ w hm ho)
theorem K_if {x : Operand} {a b : Code} {p : Prop} [Decidable p] (hx : ev l x = some (.bool (decide p))) (ht : p → KC P n c a Q l hl H) (hf : ¬ p → KC P n c b Q l hl H) :
    KC P n c (.cond x a b) Q l hl H := K_ifB hx (fun h => ht (of_decide_eq_true h)) (fun h => hf (of_decide_eq_false h))
theorem K_ifT {x : Operand} {a b : Code} (hx : ev l x = some (.bool true)) (h : KC P n c a Q l hl H) : KC P n c (.cond x a b) Q l hl H :=
  K_ifB hx (fun _ => h) (fun e => by cases e)
theorem K_ifF {x : Operand} {a b : Code} (hx : ev l x = some (.bool false)) (h : KC P n c b Q l hl H) : KC P n c (.cond x a b) Q l hl H :=
  K_ifB hx (fun e => by cases e) (fun _ => h)
theorem K_region {id : Nat} {ops : List Oper} (h : KO P n c ops.toArray Q ops l hl H) : KC P n c (.region id ops.toArray false) Q l hl H :=
  fun ρ w hm ho => wp_region_lit (h ρ w hm ho)
theorem K_nil {ops : Array Oper} (h : KQ n c Q .normal l hl H) : KO P n c ops Q [] l hl H := fun ρ w hm ho => wpList_nil (h ρ w hm ho)

theorem Q_then {b : Code} (h : KC P n c b Q l hl H) : KQ n c (Exit.then (b.wp P Q) Q) .normal l hl H := h
theorem Q_then_ret {N : Act → World → Prop} (h : KQ n c Q .ret l hl H) : KQ n c (Exit.then N Q) .ret l hl H := h
theorem Q_then_exit {N : Act → World → Prop} {id : Nat} (h : KQ n c Q (.exit id) l hl H) : KQ n c (Exit.then N Q) (.exit id) l hl H := h
theorem Q_block {id : Nat} (h : KQ n c Q .normal l hl H) : KQ n c (Exit.inBlock id Q) .normal l hl H := h
theorem Q_block_ret {id : Nat} (h : KQ n c Q .ret l hl H) : KQ n c (Exit.inBlock id Q) .ret l hl H := h
theorem Q_block_exit {id : Nat} (h : KQ n c Q .normal l hl H) : KQ n c (Exit.inBlock id Q) (.exit id) l hl H := by
  intro ρ w hm ho; simp only [Exit.inBlock, if_true]; exact h ρ w hm ho
theorem Q_block_other {id id' : Nat} (hne : Nat.beq id' id = false) (h : KQ n c Q (.exit id') l hl H) : KQ n c (Exit.inBlock id Q) (.exit id') l hl H := by
  intro ρ w hm ho
  have := ne_beq hne
  simp only [Exit.inBlock, this, if_false]; exact h ρ w hm ho

theorem KO_perm {ops : Array Oper} {rest : List Oper} (hl' : HL) (hp : hl.Perm hl') (h : KO P n c ops Q rest l hl' H) : KO P n c ops Q rest l hl H := fun ρ w hm ho => h ρ w hm (ho.perm hp)
theorem KO_own {ops : Array Oper} {rest : List Oper} (hl' : HL) (hp : List.Sublist hl' hl) (h : KO P n c ops Q rest l hl' H) : KO P n c ops Q rest l hl H := fun ρ w hm ho => h ρ w hm (ho.sublist hp)
theorem wp_loop_g {G : Type} {code : Code} (I : G → Act → World → Prop) (μ : G → Nat) {g₀ : G} {a : Act} {w : World} (h₀ : I g₀ a w)
    (round : ∀ g a w, I g a w → code.wp P (Exit.then (fun a' w' => ∃ g', I g' a' w' ∧ μ g' < μ g) Q) a w) : (Code.loop code).wp P Q a w := by
  intro b k cs
  have key : ∀ m g a w, μ g = m → I g a w →
      ∃ e a' w', Q e a' w' ∧ Arrives P (lone (b.at a (.code code :: .inLoop code :: k)) cs w) b k cs e a' w' := by
    intro m
    induction m using Nat.strongRecOn with
    | _ m ih =>
      intro g a w hn hI
      obtain ⟨e, a₁, w₁, hq, harr⟩ := round g a w hI b (.inLoop code :: k) cs
      cases e with
      | normal =>
        obtain ⟨g', hI₁, hlt⟩ := hq
        obtain ⟨e₂, a₂, w₂, hq₂, harr₂⟩ := ih (μ g') (hn ▸ hlt) g' a₁ w₁ rfl hI₁
        exact ⟨e₂, a₂, w₂, hq₂, .of_steps (Steps.trans harr (.one step_inLoop)) harr₂⟩
      | exit id => exact ⟨_, a₁, w₁, hq, .pass (x := .inLoop code) rfl (fun _ _ => .inl (by simp)) harr⟩
      | goto l => exact ⟨_, a₁, w₁, hq, .pass (x := .inLoop code) rfl (fun _ _ => .inl (by simp)) harr⟩
      | ret => exact ⟨_, a₁, w₁, hq, .pass (x := .inLoop code) rfl (fun _ _ => .inl (by simp)) harr⟩
      | panic ch => exact ⟨_, a₁, w₁, hq, .pass (x := .inLoop code) rfl (fun _ _ => .inl (by simp)) harr⟩
      | outgrown => exact ⟨_, a₁, w₁, hq, .pass (x := .inLoop code) rfl (fun _ _ => .inl (by simp)) harr⟩
  obtain ⟨e, a', w', hq, harr⟩ := key _ g₀ a w rfl h₀
  exact ⟨e, a', w', hq, .of_steps (.one step_loop) harr⟩

/-- The state of a loop at a round's head: what is known of the slots, what is owned, the view, what holds of the ghost. -/
structure LI (G : Type) where
  L : G → KL
  O : G → HL
  V : G → View
  I : G → Prop
  μ : G → Nat
def LI.at {G : Type} (s : LI G) (n : Nat) (c : Cx) (g : G) (a : Act) (w : World) : Prop :=
  s.I g ∧ ∃ ρ, a = fr n ρ ∧ Mt n ρ (s.L g) ∧ Ok c w (s.V g) (s.O g)
def LI.next {G : Type} (s : LI G) (n : Nat) (c : Cx) (g : G) (a : Act) (w : World) : Prop := ∃ g', s.at n c g' a w ∧ s.μ g' < s.μ g

theorem K_loop {G : Type} (s : LI G) (g : G) {code : Code} (hI : s.I g) (hs : subs (s.L g) l) (ho : hl = s.O g) (hV : H = s.V g)
    (round : ∀ g, s.I g → KC P n c code (Exit.then (s.next n c g) Q) (s.L g) (s.O g) (s.V g)) : KC P n c (.loop code) Q l hl H := by
  intro ρ w hm hok
  refine wp_loop_g (s.at n c) s.μ (g₀ := g) ⟨hI, ρ, rfl, hm.sub hs, hV ▸ ho ▸ hok⟩ ?_
  rintro g a w ⟨hI, ρ, rfl, hm, hok⟩
  exact round g hI ρ w hm hok
theorem Q_next {G : Type} {s : LI G} {g : G} (g' : G) (hI : s.I g') (hμ : s.μ g' < s.μ g) (hs : subs (s.L g') l) (ho : hl = s.O g') (hV : H = s.V g') :
    KQ n c (Exit.then (s.next n c g) Q) .normal l hl H := by
  intro ρ w hm hok
  exact ⟨g', ⟨hI, ρ, rfl, hm.sub hs, hV ▸ ho ▸ hok⟩, hμ⟩
end rules
end Pal
