/-
  A region that draws its order, walked in one order: what only reads first, what acts in its chain, what makes a block asx late asx may be. Own work. No statement of the seat is proved here.
-/
import Derived.Test.YtglmnochbdpmaaaGreatDoorPalD
import Derived.Orders
namespace Pal
open Go

/-- 0: it reads or computes; 1: it makes a block; 2: it acts. -/
def cls : Op → Nat
  | .move _ | .assign _ | .pick .. | .load .. | .binOp .. | .unOp .. | .convert .. | .makeInterface .. | .makeFunc .. | .build .. | .fieldAddr .. | .field .. | .indexAddr .. | .index ..
  | .lookup .. | .extract .. | .slice .. | .nilCheck _ | .typeAssert .. => 0
  | .call c => match c.callee with
    | .builtin .len | .builtin .cap | .builtin .max | .builtin .min => 0
    | _ => 2
  | .alloc _ | .box .. | .buildSlice .. | .makeMap .. | .makeSlice .. => 1
  | _ => 2
def noSel : Op → Bool
  | .select .. => false
  | _ => true

abbrev ST := KL → HL → View → Prop
def LEq (l l' : KL) : Prop := ∀ t, look l t = look l' t
theorem LEq.symm {l l' : KL} (h : LEq l l') : LEq l' l := fun t => (h t).symm
theorem LEq.ev {l l' : KL} (h : LEq l l') (x : Operand) : ev l x = ev l' x := by cases x <;> simp [Pal.ev, h _]
theorem LEq.knows {l l' : KL} (h : LEq l l') {e : Operand → Value} (hk : Knows l e) : Knows l' e := fun x v hx => hk x v (by rw [h.ev]; exact hx)
theorem LEq.cons {l l' : KL} (h : LEq l l') (d : Nat) (v : Value) : LEq ((d, v) :: l) ((d, v) :: l') := by
  intro t; simp only [look]; cases Nat.beq d t <;> simp [h t]
theorem LEq.swap {a b : Nat} (h : a ≠ b) (u v : Value) (l : KL) : LEq ((a, u) :: (b, v) :: l) ((b, v) :: (a, u) :: l) := by
  intro t
  simp only [look]
  by_cases h1 : a = t
  · subst h1; simp [Nat.beq_refl, beq_ne (Ne.symm h)]
  · simp [beq_ne h1]
def insl : Option Nat → Value → KL → KL
  | some d, v, l => (d, v) :: l
  | none, _, l => l
theorem LEq.insl {l l' : KL} (h : LEq l l') (d : Option Nat) (v : Value) : LEq (insl d v l) (insl d v l') := by
  cases d with
  | none => exact h
  | some d => exact h.cons d v
theorem LEq.inslSwap {a b : Option Nat} (h : ∀ d, a = some d → b ≠ some d) (u v : Value) (l : KL) : LEq (Pal.insl a u (Pal.insl b v l)) (Pal.insl b v (Pal.insl a u l)) := by
  cases a with
  | none => intro t; rfl
  | some a => cases b with
    | none => intro t; rfl
    | some b => exact LEq.swap (fun e => h a rfl (by rw [e])) u v l

/-- l and l' agree on what o looks at. -/
def Agree (ops : Array Oper) (o : Oper) (l l' : KL) : Prop := ∀ t ∈ o.looksAt ops, look l t = look l' t
theorem agree_insl {ops : Array Oper} {o : Oper} {d : Option Nat} (h : ∀ k, d = some k → k ∉ o.looksAt ops) (v : Value) (l : KL) : Agree ops o l (insl d v l) := by
  intro t ht
  cases d with
  | none => rfl
  | some d =>
    have : d ≠ t := fun e => h d rfl (e ▸ ht)
    simp [insl, look, beq_ne this]
theorem Agree.symm {ops : Array Oper} {o : Oper} {l l' : KL} (h : Agree ops o l l') : Agree ops o l' l := fun t ht => (h t ht).symm
theorem LEq.agree {ops : Array Oper} {o : Oper} {l l' : KL} (h : LEq l l') : Agree ops o l l' := fun t _ => h t
theorem Agree.op {ops : Array Oper} {o : Oper} {l l' : KL} (h : Agree ops o l l') : ∀ x ∈ o.op.operands, ev l x = ev l' x := by
  intro x hx
  cases x with
  | tmp t =>
    refine h t (List.mem_append_left _ (List.mem_filterMap.2 ⟨.tmp t, by simpa using hx, rfl⟩))
  | const v => rfl
  | global g => rfl
  | func f => rfl
theorem ex_congr {e e' : Operand → Value} {op : Op} {ty : TypeId} (hs : noSel op = true) (h : ∀ x ∈ op.operands, e x = e' x) : ex e op ty = ex e' op ty :=
  execOp_congr ⟨none, op, ty, "", #[], none⟩ (fun cs b he => by simp only at he; subst he; simp [noSel] at hs) h
/-- An evaluation that knows l' may be turned into one that knows l, alike on the operands. -/
theorem retarget {l l' : KL} {op : Op} (h : ∀ x ∈ op.operands, ev l x = ev l' x) {e : Operand → Value} (hk : Knows l' e) : ∃ e', Knows l e' ∧ ∀ x ∈ op.operands, e' x = e x := by
  classical
  refine ⟨fun x => if x ∈ op.operands then e x else (ev l x).getD undef, ?_, ?_⟩
  · intro x v hx
    by_cases hm : x ∈ op.operands
    · simp only [hm, if_true]; exact hk x v (by rw [← h x hm]; exact hx)
    · simp [hm, hx]
  · intro x hx; simp [hx]

section
variable {P : Program} {ops : Array Oper} {H H' : View} {hl : HL} {l l' : KL}
theorem ValOk.agree {o : Oper} {v : Value} (hs : noSel o.op = true) (h : Agree ops o l l') (hv : ValOk P l H hl o.op o.type v) : ValOk P l' H hl o.op o.type v := by
  intro e w hk hh
  obtain ⟨e', h1, h2⟩ := retarget h.op hk
  rw [← ex_congr hs h2]
  exact hv e' w h1 hh
theorem AllocOk.agree {o : Oper} {mk : Nat → Value} {obj : Obj} (hs : noSel o.op = true) (h : Agree ops o l l') (hv : AllocOk P l o.op o.type mk obj) : AllocOk P l' o.op o.type mk obj := by
  intro e w hk
  obtain ⟨e', h1, h2⟩ := retarget h.op hk
  rw [← ex_congr hs h2]
  exact hv e' w h1
theorem Eff.agree {o : Oper} {p : HL} {post : Value → View → HL → Prop} (hs : noSel o.op = true) (h : Agree ops o l l') (hv : Eff P l H p o.op o.type post) : Eff P l' H p o.op o.type post := by
  intro e w hk hh
  obtain ⟨e', h1, h2⟩ := retarget h.op hk
  rw [← ex_congr hs h2]
  exact hv e' w h1 hh
theorem Eff.mono {op : Op} {ty : TypeId} {p : HL} {post post' : Value → View → HL → Prop} (hv : Eff P l H p op ty post) (h : ∀ v H' q, post v H' q → post' v H' q) : Eff P l H p op ty post' :=
  fun e w hk hh => (hv e w hk hh).mono fun v w' ⟨H', q, h1, h2⟩ => ⟨H', q, h1, h v H' q h2⟩
theorem Has.le {w : World} (hle : VLe H H') (h : Has w H' hl) : Has w H hl :=
  ⟨fun b o hb => h.has b o (hle b o hb), h.own, fun b hb => (by
    cases hH : H b with
    | none => rfl
    | some o => have := hle b o hH; rw [h.foot b hb] at this; cases this), h.nd⟩
theorem ValOk.le {op : Op} {ty : TypeId} {v : Value} (hle : VLe H H') (hv : ValOk P l H hl op ty v) : ValOk P l H' hl op ty v :=
  fun e w hk hh => hv e w hk (hh.le hle)

def wl (ops : Array Oper) (l : KL) (o : Oper) : Option Bool :=
  match o.guard with
  | none => some true
  | some (j, b) => match (ops[j]?).bind (·.dst) with
    | none => none
    | some g => match look l g with
      | some (.bool b') => some (b' == b)
      | some (.tuple _) => some false
      | _ => none
theorem wl_agree {o : Oper} (h : Agree ops o l l') : wl ops l o = wl ops l' o := by
  unfold wl
  cases hg : o.guard with
  | none => rfl
  | some q =>
    obtain ⟨j, b⟩ := q
    simp only []
    cases hd : (ops[j]?).bind (·.dst) with
    | none => rfl
    | some g => simp only [h g (by simp [Oper.looksAt, hg, hd])]
theorem wanted_wl {n : Nat} {ρ : Env} {o : Oper} {b : Bool} (hm : Mt n ρ l) (h : wl ops l o = some b) : Region.wanted o (yielded ops (fr n ρ).tmps) = b := by
  unfold wl at h
  unfold Region.wanted
  cases hg : o.guard with
  | none => rw [hg] at h; simp at h; simp [h]
  | some q =>
    obtain ⟨j, b'⟩ := q
    rw [hg] at h
    simp only [] at h ⊢
    cases hd : (ops[j]?).bind (·.dst) with
    | none => rw [hd] at h; cases h
    | some g =>
      rw [hd] at h
      simp only [] at h
      split at h
      · rename_i u hu
        rw [yielded_fr hm hd hu]
        simp at h
        rw [← h]
        cases u <;> cases b' <;> rfl
      · rename_i vs hu
        obtain ⟨h1, h2⟩ := hm g _ hu
        have : yielded ops (fr n ρ).tmps j = none := by simp [yielded, hd, fr_get? n ρ g h1, h2]
        rw [this]
        simp at h
        rw [h]; rfl
      · cases h

/-- One operation, in whatever state. -/
def X (P : Program) (n : Nat) (ops : Array Oper) (keep : HL) (o : Oper) (last : Bool) (F : ST) : ST := fun l hl H =>
  (wl ops l o = some false ∧ F (insl o.dst undef l) hl H) ∨
  (wl ops l o = some true ∧
    ((cls o.op = 0 ∧ ∃ v, ValOk P l H keep o.op o.type v ∧ F (insl o.dst v l) hl H) ∨
     (cls o.op = 1 ∧ ∃ mk obj, AllocOk P l o.op o.type mk obj ∧ ∀ b, F (insl o.dst (mk b) l) (blk b obj :: hl) H) ∨
     (cls o.op = 2 ∧ ∃ p r, hl.Perm (p ++ r) ∧ (last = false → ∀ en ∈ keep, en ∈ r) ∧ Eff P l H p o.op o.type fun v H' q => VLe H H' ∧ F (insl o.dst v l) (q ++ r) H')))
structure Inv (F : ST) : Prop where
  l : ∀ {l l' hl H}, LEq l l' → F l hl H → F l' hl H
  p : ∀ {l hl hl' H}, hl.Perm hl' → F l hl H → F l hl' H
theorem X.mono {n : Nat} {keep : HL} {o : Oper} {last last' : Bool} {F F' : ST} (hF : ∀ l hl H, F l hl H → F' l hl H) (hlast : last' = false → last = false) (h : X P n ops keep o last F l hl H) : X P n ops keep o last' F' l hl H := by
  rcases h with ⟨h1, h2⟩ | ⟨h1, h2 | ⟨h2, mk, obj, h3, h4⟩ | ⟨h2, p, r, h3, h4, h5⟩⟩
  · exact .inl ⟨h1, hF _ _ _ h2⟩
  · obtain ⟨h2, v, h3, h4⟩ := h2
    exact .inr ⟨h1, .inl ⟨h2, v, h3, hF _ _ _ h4⟩⟩
  · exact .inr ⟨h1, .inr (.inl ⟨h2, mk, obj, h3, fun b => hF _ _ _ (h4 b)⟩)⟩
  · exact .inr ⟨h1, .inr (.inr ⟨h2, p, r, h3, fun hh => h4 (hlast hh), h5.mono fun v H' q hp => ⟨hp.1, hF _ _ _ hp.2⟩⟩)⟩
theorem X.inv {n : Nat} {keep : HL} {o : Oper} {last : Bool} {F : ST} (hs : noSel o.op = true) (hF : Inv F) : Inv (X P n ops keep o last F) := by
  constructor
  · intro l l' hl H he h
    rcases h with ⟨h1, h2⟩ | ⟨h1, h2 | ⟨h2, mk, obj, h3, h4⟩ | ⟨h2, p, r, h3, h4, h5⟩⟩
    · exact .inl ⟨by rw [← wl_agree he.agree]; exact h1, hF.l (he.insl _ _) h2⟩
    · obtain ⟨h2, v, h3, h4⟩ := h2
      exact .inr ⟨by rw [← wl_agree he.agree]; exact h1, .inl ⟨h2, v, h3.agree (ops := ops) hs he.agree, hF.l (he.insl _ _) h4⟩⟩
    · exact .inr ⟨by rw [← wl_agree he.agree]; exact h1, .inr (.inl ⟨h2, mk, obj, h3.agree (ops := ops) hs he.agree, fun b => hF.l (he.insl _ _) (h4 b)⟩)⟩
    · exact .inr ⟨by rw [← wl_agree he.agree]; exact h1, .inr (.inr ⟨h2, p, r, h3, h4, (h5.agree (ops := ops) hs he.agree).mono fun v H' q hp => ⟨hp.1, hF.l (he.insl _ _) hp.2⟩⟩)⟩
  · intro l hl hl' H hp h
    rcases h with ⟨h1, h2⟩ | ⟨h1, h2 | ⟨h2, mk, obj, h3, h4⟩ | ⟨h2, p, r, h3, h4, h5⟩⟩
    · exact .inl ⟨h1, hF.p hp h2⟩
    · obtain ⟨h2, v, h3, h4⟩ := h2
      exact .inr ⟨h1, .inl ⟨h2, v, h3, hF.p hp h4⟩⟩
    · exact .inr ⟨h1, .inr (.inl ⟨h2, mk, obj, h3, fun b => hF.p (hp.cons _) (h4 b)⟩)⟩
    · exact .inr ⟨h1, .inr (.inr ⟨h2, p, r, hp.symm.trans h3, h4, h5⟩)⟩

/-- What reads may be done later: y (it reads) stands before x; x may be done first. -/
theorem X.swap {n : Nat} {keep : HL} {y x : Oper} {last : Bool} {F : ST} (hF : Inv F) (hsy : noSel y.op = true) (hsx : noSel x.op = true) (hap : y.apart ops x = true) (hy : cls y.op = 0 ∨ wl ops l y = some false)
    (h : X P n ops keep y false (X P n ops keep x last F) l hl H) : X P n ops keep x last (X P n ops keep y false F) l hl H := by
  obtain ⟨a1, a2, a3⟩ := Oper.apart_spec hap
  have agx : ∀ (v : Value) (l : KL), Agree ops x l (insl y.dst v l) := fun v l => agree_insl (fun k hk => a1 k hk) v l
  have agy : ∀ (v : Value) (l : KL), Agree ops y l (insl x.dst v l) := fun v l => agree_insl (fun k hk => a3 k hk) v l
  have sw : ∀ (u v : Value) (l : KL), LEq (insl x.dst v (insl y.dst u l)) (insl y.dst u (insl x.dst v l)) := fun u v l =>
    LEq.inslSwap (fun d hd he => a2 d he hd) v u l
  -- what y does, at whatever later state
  have body : ∀ (u : Value), (∀ (v : Value) (hl' : HL) (H' : View), VLe H H' → F (insl x.dst v (insl y.dst u l)) hl' H' → X P n ops keep y false F (insl x.dst v l) hl' H') → X P n ops keep x last F (insl y.dst u l) hl H → X P n ops keep x last (X P n ops keep y false F) l hl H := by
    intro u hb hx
    rcases hx with ⟨h1, h2⟩ | ⟨h1, h2 | ⟨h2, mk, obj, h3, h4⟩ | ⟨h2, p, r, h3, h4, h5⟩⟩
    · exact .inl ⟨by rw [wl_agree (agx u l)]; exact h1, hb _ _ _ (VLe.refl H) h2⟩
    · obtain ⟨h2, v, h3, h4⟩ := h2
      exact .inr ⟨by rw [wl_agree (agx u l)]; exact h1, .inl ⟨h2, v, h3.agree (ops := ops) hsx (agx u l).symm, hb _ _ _ (VLe.refl H) h4⟩⟩
    · exact .inr ⟨by rw [wl_agree (agx u l)]; exact h1, .inr (.inl ⟨h2, mk, obj, h3.agree (ops := ops) hsx (agx u l).symm, fun b => hb _ _ _ (VLe.refl H) (h4 b)⟩)⟩
    · exact .inr ⟨by rw [wl_agree (agx u l)]; exact h1, .inr (.inr ⟨h2, p, r, h3, h4, (h5.agree (ops := ops) hsx (agx u l).symm).mono fun v H' q hp => ⟨hp.1, hb _ _ _ hp.1 hp.2⟩⟩)⟩
  rcases h with ⟨h1, h2⟩ | ⟨h1, h2⟩
  · exact body undef (fun v hl' H' _ hf => .inl ⟨by rw [← wl_agree (agy v l)]; exact h1, hF.l (sw undef v l) hf⟩) h2
  · have hy0 : cls y.op = 0 := hy.resolve_right (fun e => by rw [h1] at e; cases e)
    rcases h2 with ⟨_, u, h3, h4⟩ | ⟨h2, _⟩ | ⟨h2, _⟩
    · exact body u (fun v hl' H' hle hf => .inr ⟨by rw [← wl_agree (agy v l)]; exact h1, .inl ⟨hy0, u, (h3.agree (ops := ops) hsy (agy v l)).le hle, hF.l (sw u v l) hf⟩⟩) h4
    · omega
    · omega

theorem Upon.ex {r : Result Next} {K : Value → World → Prop} (h : Upon P r K) : ∃ v w, K v w := by
  unfold Upon at h
  split at h
  · exact ⟨_, _, h⟩
  · exact ⟨_, _, h⟩
  · obtain ⟨e, w', _, ⟨v, _, hk⟩, _⟩ := h []
    exact ⟨v, w', hk⟩
  · exact h.elim
theorem knows_some (l : KL) : Knows l fun x => (ev l x).getD undef := fun x v hx => by simp [hx]
theorem AllocOk.det {op : Op} {ty : TypeId} {mk mk' : Nat → Value} {obj obj' : Obj} (h : AllocOk P l op ty mk obj) (h' : AllocOk P l op ty mk' obj') : mk = mk' ∧ obj = obj' := by
  have key : ∀ k, mk k = mk' k ∧ obj = obj' := by
    intro k
    have h1 := h _ { (default : World) with heap := Array.replicate k default } (knows_some l)
    have h2 := h' _ { (default : World) with heap := Array.replicate k default } (knows_some l)
    rw [h1] at h2
    simp only [Result.ok.injEq, Next.value.injEq, Array.size_replicate, World.alloc, World.mk.injEq, and_true] at h2
    refine ⟨h2.1, ?_⟩
    have := h2.2
    simpa [Array.push_eq_push] using this
  exact ⟨funext fun k => (key k).1, (key 0).2⟩

def KD (P : Program) (n : Nat) (ops : Array Oper) (keep : HL) (fin : Bool) (T : ST) : List Nat → ST
  | [] => T
  | i :: R => fun l hl H => ∃ o, ops[i]? = some o ∧ X P n ops keep o (fin && R.isEmpty) (KD P n ops keep fin T R) l hl H

def selOk (ops : Array Oper) : Prop := ∀ (i : Nat) (o : Oper), ops[i]? = some o → noSel o.op = true
theorem KD.inv {n : Nat} {keep : HL} {fin : Bool} {T : ST} (hs : selOk ops) (hT : Inv T) : ∀ R, Inv (KD P n ops keep fin T R)
  | [] => hT
  | i :: R => ⟨fun he ⟨o, h1, h2⟩ => ⟨o, h1, (X.inv (hs i o h1) (KD.inv hs hT R)).l he h2⟩, fun hp ⟨o, h1, h2⟩ => ⟨o, h1, (X.inv (hs i o h1) (KD.inv hs hT R)).p hp h2⟩⟩

/-- y may stand ahead of x though nothing orders them. -/
def free (y x : Oper) (ops : Array Oper) : Prop := y.apart ops x = true ∧ (cls y.op = 0 ∨ cls x.op = 1)
def freeI (ops : Array Oper) (y x : Nat) : Prop := ∀ (oy ox : Oper), ops[y]? = some oy → ops[x]? = some ox → free oy ox ops

theorem Agree.trans {o : Oper} {a b d : KL} (h : Agree ops o a b) (k : Agree ops o b d) : Agree ops o a d := fun t ht => (h t ht).trans (k t ht)

/-- What x is, known ahead: for an operation that makes a block. -/
theorem KD.ahead {n : Nat} {keep : HL} {fin : Bool} {T : ST} {x : Nat} {ox : Oper} (hs : selOk ops) (hx : ops[x]? = some ox) (hc : cls ox.op = 1) :
    ∀ (pre post : List Nat) (l : KL) (hl : HL) (H : View) (w : World), Has w H hl → (∀ y ∈ pre, freeI ops y x) → KD P n ops keep fin T (pre ++ x :: post) l hl H →
      wl ops l ox = some false ∨ (wl ops l ox = some true ∧ ∃ mk obj, AllocOk P l ox.op ox.type mk obj)
  | [], post, l, hl, H, w, _, _, h => by
    obtain ⟨o, h1, h2⟩ := h
    rw [hx] at h1; cases h1
    rcases h2 with ⟨h1, _⟩ | ⟨h1, ⟨h2, _⟩ | ⟨_, mk, obj, h3, _⟩ | ⟨h2, _⟩⟩
    · exact .inl h1
    · omega
    · exact .inr ⟨h1, mk, obj, h3⟩
    · omega
  | y :: pre, post, l, hl, H, w, hw, hf, h => by
    obtain ⟨oy, h1, h2⟩ := h
    have hap := (hf y (by simp) oy ox h1 hx).1
    obtain ⟨a1, a2, a3⟩ := Oper.apart_spec hap
    have ag : ∀ (v : Value), Agree ops ox l (insl oy.dst v l) := fun v => agree_insl (fun k hk => a1 k hk) v l
    have back : ∀ (v : Value), (wl ops (insl oy.dst v l) ox = some false ∨ (wl ops (insl oy.dst v l) ox = some true ∧ ∃ mk obj, AllocOk P (insl oy.dst v l) ox.op ox.type mk obj)) →
        wl ops l ox = some false ∨ (wl ops l ox = some true ∧ ∃ mk obj, AllocOk P l ox.op ox.type mk obj) := by
      intro v hb
      rw [wl_agree (ag v)]
      rcases hb with hb | ⟨hb, mk, obj, h3⟩
      · exact .inl hb
      · exact .inr ⟨hb, mk, obj, h3.agree (ops := ops) (hs x ox hx) (ag v).symm⟩
    have ih := fun l hl H w hw (hk : KD P n ops keep fin T (pre ++ x :: post) l hl H) => KD.ahead hs hx hc pre post l hl H w hw (fun z hz => hf z (List.mem_cons_of_mem _ hz)) hk
    rcases h2 with ⟨_, h2⟩ | ⟨_, ⟨_, v, _, h4⟩ | ⟨_, mk, obj, _, h4⟩ | ⟨_, p, r, hp, _, h5⟩⟩
    · exact back _ (ih _ _ _ w hw h2)
    · exact back _ (ih _ _ _ w hw h4)
    · exact back _ (ih _ _ _ _ (hw.alloc obj) (h4 w.heap.size))
    · have hw2 := hw.perm hp
      obtain ⟨v, w', H', q, hok, hle, hk⟩ := (h5 _ w (knows_some l) hw2.left).ex
      exact back _ (ih _ _ _ w' (Ok.call hw2.ok hok).hasL hk)

/-- x taken out ahead of all that stands before it: it makes a block, or is passed over. -/
theorem KD.outA {n : Nat} {keep : HL} {fin : Bool} {T : ST} {x : Nat} {ox : Oper} {v : Value} {extra : HL} (hs : selOk ops) (hT : Inv T) (hx : ops[x]? = some ox) :
    ∀ (pre post : List Nat) (l : KL) (hl : HL) (H : View), (∀ y ∈ pre, ∀ oy, ops[y]? = some oy → oy.apart ops ox = true) →
      (∀ (l' : KL) (hl' : HL) (H' : View) (last : Bool) (F : ST), Agree ops ox l l' → X P n ops keep ox last F l' hl' H' → F (insl ox.dst v l') (extra ++ hl') H') →
      KD P n ops keep fin T (pre ++ x :: post) l hl H → KD P n ops keep fin T (pre ++ post) (insl ox.dst v l) (extra ++ hl) H
  | [], post, l, hl, H, _, hX, h => by
    obtain ⟨o, h1, h2⟩ := h
    rw [hx] at h1; cases h1
    exact hX l hl H _ _ (fun _ _ => rfl) h2
  | y :: pre, post, l, hl, H, hf, hX, h => by
    obtain ⟨oy, h1, h2⟩ := h
    obtain ⟨a1, a2, a3⟩ := Oper.apart_spec (hf y (by simp) oy h1)
    have agx : ∀ (u : Value), Agree ops ox l (insl oy.dst u l) := fun u => agree_insl (fun k hk => a1 k hk) u l
    have agy : Agree ops oy l (insl ox.dst v l) := agree_insl (fun k hk => a3 k hk) v l
    have sw : ∀ (u : Value), LEq (insl ox.dst v (insl oy.dst u l)) (insl oy.dst u (insl ox.dst v l)) := fun u => LEq.inslSwap (fun d hd he => a2 d he hd) v u l
    have hinv := KD.inv (P := P) (n := n) (keep := keep) (fin := fin) hs hT (pre ++ post)
    have ih := fun (u : Value) (hl' : HL) (H' : View) (hk : KD P n ops keep fin T (pre ++ x :: post) (insl oy.dst u l) hl' H') =>
      KD.outA hs hT hx pre post (insl oy.dst u l) hl' H' (fun z hz => hf z (List.mem_cons_of_mem _ hz))
        (fun l' hl' H' last F ha => hX l' hl' H' last F ((agx u).trans ha)) hk
    refine ⟨oy, h1, ?_⟩
    have hlast : (fin && (pre ++ x :: post).isEmpty) = false := by cases pre <;> simp
    rcases h2 with ⟨h1', h2⟩ | ⟨h1', ⟨h2, u, h3, h4⟩ | ⟨h2, mk, obj, h3, h4⟩ | ⟨h2, p, r, hp, h4, h5⟩⟩
    · exact .inl ⟨by rw [← wl_agree agy]; exact h1', hinv.l (sw undef) (ih _ _ _ h2)⟩
    · exact .inr ⟨by rw [← wl_agree agy]; exact h1', .inl ⟨h2, u, h3.agree (ops := ops) (hs y oy h1) agy, hinv.l (sw u) (ih _ _ _ h4)⟩⟩
    · refine .inr ⟨by rw [← wl_agree agy]; exact h1', .inr (.inl ⟨h2, mk, obj, h3.agree (ops := ops) (hs y oy h1) agy, fun b => ?_⟩)⟩
      refine hinv.p ?_ (hinv.l (sw (mk b)) (ih _ _ _ (h4 b)))
      exact List.perm_middle
    · refine .inr ⟨by rw [← wl_agree agy]; exact h1', .inr (.inr ⟨h2, p, extra ++ r, ?_, fun _ en hen => List.mem_append_right _ (h4 hlast en hen), ?_⟩)⟩
      · exact (List.Perm.append_left extra hp).trans (by rw [← List.append_assoc, ← List.append_assoc]; exact List.Perm.append_right r List.perm_append_comm)
      · refine (h5.agree (ops := ops) (hs y oy h1) agy).mono fun u H' q hq => ⟨hq.1, ?_⟩
        refine hinv.p ?_ (hinv.l (sw u) (ih _ _ _ hq.2))
        rw [← List.append_assoc, ← List.append_assoc]; exact List.Perm.append_right r List.perm_append_comm

/-- x taken out ahead of what only reads. -/
theorem KD.outC {n : Nat} {keep : HL} {fin : Bool} {T : ST} {x : Nat} {ox : Oper} (hs : selOk ops) (hT : Inv T) (hx : ops[x]? = some ox) :
    ∀ (pre post : List Nat) (l : KL) (hl : HL) (H : View), (∀ y ∈ pre, ∀ oy, ops[y]? = some oy → oy.apart ops ox = true ∧ cls oy.op = 0) → (pre ≠ [] → (fin && post.isEmpty) = false) →
      KD P n ops keep fin T (pre ++ x :: post) l hl H → KD P n ops keep fin T (x :: (pre ++ post)) l hl H
  | [], post, l, hl, H, _, _, h => h
  | y :: pre, post, l, hl, H, hf, hfin, h => by
    obtain ⟨oy, h1, h2⟩ := h
    obtain ⟨hap, hc⟩ := hf y (by simp) oy h1
    have hfin' := hfin (by simp)
    have ih := fun l hl H (hk : KD P n ops keep fin T (pre ++ x :: post) l hl H) => KD.outC hs hT hx pre post l hl H (fun z hz => hf z (List.mem_cons_of_mem _ hz)) (fun _ => hfin') hk
    have h3 : X P n ops keep oy false (X P n ops keep ox false (KD P n ops keep fin T (pre ++ post))) l hl H := by
      refine X.mono (last := (fin && (pre ++ x :: post).isEmpty)) (fun l hl H hk => ?_) (fun _ => by cases pre <;> simp) h2
      obtain ⟨o, h4, h5⟩ := ih l hl H hk
      rw [hx] at h4; cases h4
      refine X.mono (fun _ _ _ h => h) (fun _ => ?_) h5
      cases pre with
      | nil => simpa using hfin'
      | cons a b => simp
    refine ⟨ox, hx, ?_⟩
    have h6 := X.swap (KD.inv hs hT (pre ++ post)) (hs y oy h1) (hs x ox hx) hap (.inl hc) h3
    refine X.mono (fun l hl H hk => ⟨oy, h1, X.mono (fun _ _ _ h => h) (fun _ => rfl) hk⟩) (fun _ => rfl) h6
end
end Pal
