/-
  One rule for each kind of operation, over PalA's judgements. Own work. No statement of the seat is proved here.
-/
import Derived.Test.YtglmnochbdpmaaaGreatDoorPalA
namespace Pal
open Go

section rules
variable {P : Program} {n : Nat} {c : Cx} {Q : Exit → Act → World → Prop} {l : KL} {hl : HL} {H : View}
variable {ops : Array Oper} {rest : List Oper} {d : Nat} {v : Value} {op : Op} {ty : TypeId} {pos : String} {aft : Array Edge}

/-- What an evaluation of operands knows. -/
def Knows (l : KL) (e : Operand → Value) : Prop := ∀ x v, ev l x = some v → e x = v
theorem Mt.knows {n : Nat} {ρ : Env} {l : KL} (h : Mt n ρ l) : Knows l (fr n ρ).eval := fun _ _ hx => h.ev hx
/-- An operation, whatever slot it writes and wherever it stands. -/
def ex (e : Operand → Value) (op : Op) (ty : TypeId) : Sem Next := execOp e ⟨none, op, ty, "", #[], none⟩

/-- It computes v, or reads it, and turns nothing. -/
def ValOk (P : Program) (l : KL) (H : View) (hl : HL) (op : Op) (ty : TypeId) (v : Value) : Prop :=
  ∀ e w, Knows l e → Has w H hl → (ex e op ty).run P w = .ok (.value v) w
/-- It makes a block. -/
def AllocOk (P : Program) (l : KL) (op : Op) (ty : TypeId) (mk : Nat → Value) (o : Obj) : Prop :=
  ∀ e w, Knows l e → (ex e op ty).run P w = .ok (.value (mk w.heap.size)) (w.alloc o)
def Upon (P : Program) (r : Result Next) (K : Value → World → Prop) : Prop :=
  match r with
  | .ok (.value v) w => K v w
  | .ok .skip w => K undef w
  | .ok (.enter f args) w => Calls P f args w fun e w' => ∃ v, e = .returned v ∧ K v w'
  | _ => False
theorem Upon.mono {r : Result Next} {K K' : Value → World → Prop} (h : Upon P r K) (hk : ∀ v w, K v w → K' v w) : Upon P r K' := by
  unfold Upon at h
  split at h
  · exact hk _ _ h
  · exact hk _ _ h
  · exact Calls.mono h fun e w' ⟨v, h1, h2⟩ => ⟨v, h1, hk _ _ h2⟩
  · exact h.elim
/-- It is handed p, and turns it. -/
def Eff (P : Program) (l : KL) (H : View) (p : HL) (op : Op) (ty : TypeId) (post : Value → View → HL → Prop) : Prop :=
  ∀ e w, Knows l e → Has w H p → Upon P ((ex e op ty).run P w) fun v w' => ∃ H' q, Ok ⟨w, H, feet p⟩ w' H' q ∧ post v H' q

theorem upon_wp {o : Oper} {a : Act} {w : World} {K : Act → World → Prop} {Q : Exit → Act → World → Prop} {R : Value → World → Prop}
    (h : Upon P ((ex a.eval o.op o.type).run P w) R) (hk : ∀ v w', R v w' → K (a.put o.dst v) w') : o.wp P a w K Q := by
  have e : execOp a.eval o = ex a.eval o.op o.type := rfl
  rw [Oper.wp, e]
  unfold Upon at h
  split at h
  · rename_i v w' hr; rw [hr]; exact hk _ _ h
  · rename_i w' hr; rw [hr]; exact hk _ _ h
  · rename_i f args w' hr
    rw [hr]
    refine h.mono ?_
    rintro e w' ⟨v, rfl, hR⟩
    exact hk _ _ hR
  · exact h.elim

theorem KV (hv : ValOk P l H hl op ty v) (hdn : Nat.blt d n = true)
    (h : KO P n c ops Q rest ((d, v) :: l) hl H) : KO P n c ops Q (⟨some d, op, ty, pos, aft, none⟩ :: rest) l hl H := by
  intro ρ w hm ho
  refine wpList_plain rfl fun K hK => upon_wp (R := fun u w' => u = v ∧ w' = w) ?_ ?_
  · simp only [hv _ w hm.knows ho.hasL, Upon, and_self]
  · rintro u w' ⟨rfl, rfl⟩
    simp only [fr_put]
    exact hK _ _ (h _ w' (hm.put hdn u) ho)
theorem KA {mk : Nat → Value} {o : Obj} (hv : AllocOk P l op ty mk o) (hdn : Nat.blt d n = true)
    (h : ∀ b, KO P n c ops Q rest ((d, mk b) :: l) (blk b o :: hl) H) : KO P n c ops Q (⟨some d, op, ty, pos, aft, none⟩ :: rest) l hl H := by
  intro ρ w hm ho
  refine wpList_plain rfl fun K hK => upon_wp (R := fun u w' => u = mk w.heap.size ∧ w' = w.alloc o) ?_ ?_
  · simp only [hv _ w hm.knows, Upon, and_self]
  · rintro u w' ⟨rfl, rfl⟩
    simp only [fr_put]
    exact hK _ _ (h _ _ _ (hm.put hdn _) (ho.alloc o))
theorem KE {post : Value → View → HL → Prop} (p r : HL) (hp : hl.Perm (p ++ r)) (hE : Eff P l H p op ty post) (hdn : Nat.blt d n = true)
    (h : ∀ v H' q, VLe H H' → post v H' q → KO P n c ops Q rest ((d, v) :: l) (q ++ r) H') : KO P n c ops Q (⟨some d, op, ty, pos, aft, none⟩ :: rest) l hl H := by
  intro ρ w hm ho
  have ho := ho.perm hp
  refine wpList_plain rfl fun K hK => upon_wp (hE _ w hm.knows ho.hasL.left) ?_
  rintro u w' ⟨H', q, hok, hpost⟩
  simp only [fr_put]
  exact hK _ _ (h u H' q hok.le hpost _ _ (hm.put hdn _) (ho.call hok))
theorem KE_ {post : Value → View → HL → Prop} (p r : HL) (hp : hl.Perm (p ++ r)) (hE : Eff P l H p op ty post)
    (h : ∀ v H' q, VLe H H' → post v H' q → KO P n c ops Q rest l (q ++ r) H') : KO P n c ops Q (⟨none, op, ty, pos, aft, none⟩ :: rest) l hl H := by
  intro ρ w hm ho
  have ho := ho.perm hp
  refine wpList_plain rfl fun K hK => upon_wp (hE _ w hm.knows ho.hasL.left) ?_
  rintro u w' ⟨H', q, hok, hpost⟩
  exact hK _ _ (h u H' q hok.le hpost _ _ hm (ho.call hok))

theorem perm_erase {hl : HL} {i : Nat} {en : Own} (hi : hl[i]? = some en) : hl.Perm ([en] ++ hl.eraseIdx i) := by
  induction hl generalizing i with
  | nil => simp at hi
  | cons a r ih =>
    cases i with
    | zero => simp at hi; subst hi; simp
    | succ i =>
      simp at hi
      simp only [List.eraseIdx_cons_succ]
      exact ((ih hi).cons a).trans (List.Perm.swap en a _)
theorem perm_set {hl : HL} {i : Nat} {en en' : Own} (hi : hl[i]? = some en) : ([en'] ++ hl.eraseIdx i).Perm (hl.set i en') := by
  induction hl generalizing i with
  | nil => simp at hi
  | cons a r ih =>
    cases i with
    | zero => simp
    | succ i =>
      simp at hi
      simp only [List.eraseIdx_cons_succ, List.set_cons_succ]
      exact (List.Perm.swap a en' _).trans ((ih hi).cons a)
theorem KE1_ {en : Own} {post : Value → View → Own → Prop} (i : Nat) (hi : hl[i]? = some en) (hE : Eff P l H [en] op ty fun v H' q => ∃ en', q = [en'] ∧ post v H' en')
    (h : ∀ v H' en', VLe H H' → post v H' en' → KO P n c ops Q rest l (hl.set i en') H') : KO P n c ops Q (⟨none, op, ty, pos, aft, none⟩ :: rest) l hl H :=
  KE_ [en] (hl.eraseIdx i) (perm_erase hi) hE (by
    rintro v H' q hle ⟨en', rfl, hp⟩
    exact fun ρ w hm ho => h v H' en' hle hp ρ w hm (ho.perm (perm_set hi)))

/-- An operation by its place, for a reckoning by 'rfl'. -/
def nthO : List Oper → Nat → Option Oper
  | [], _ => none
  | o :: _, 0 => some o
  | _ :: r, n + 1 => nthO r n
theorem nthO_eq : ∀ (l : List Oper) (i : Nat), nthO l i = l[i]?
  | [], i => by simp [nthO]
  | o :: r, 0 => rfl
  | o :: r, i + 1 => by simp [nthO, nthO_eq r i]
def dstO (l : List Oper) (i : Nat) : Option Nat :=
  match nthO l i with
  | some o => o.dst
  | none => none
theorem dstO_eq {l : List Oper} {i g : Nat} (h : dstO l i = some g) : (l.toArray[i]?).bind (·.dst) = some g := by
  unfold dstO at h
  rw [nthO_eq] at h
  cases hi : l[i]? with
  | none => rw [hi] at h; cases h
  | some o => rw [hi] at h; simpa [hi] using h
theorem yielded_fr {ρ : Env} (hm : Mt n ρ l) {j g : Nat} {b : Bool} (hj : (ops[j]?).bind (·.dst) = some g) (hg : look l g = some (.bool b)) : yielded ops (fr n ρ).tmps j = some b := by
  obtain ⟨h1, h2⟩ := hm g _ hg
  simp [yielded, hj, fr_get? n ρ g h1, h2]
theorem yielded_undef {ρ : Env} (hm : Mt n ρ l) {j g : Nat} (hj : (ops[j]?).bind (·.dst) = some g) (hg : look l g = some undef) : yielded ops (fr n ρ).tmps j = none := by
  obtain ⟨h1, h2⟩ := hm g _ hg
  simp [yielded, hj, fr_get? n ρ g h1, h2, undef]

theorem K_gyes {ol : List Oper} {dst : Option Nat} {j g : Nat} {b : Bool} (hj : dstO ol j = some g) (hg : look l g = some (.bool b))
    (h : KO P n c ol.toArray Q (⟨dst, op, ty, pos, aft, none⟩ :: rest) l hl H) : KO P n c ol.toArray Q (⟨dst, op, ty, pos, aft, some (j, b)⟩ :: rest) l hl H := by
  intro ρ w hm ho
  have h' := h ρ w hm ho
  simp only [wpList, Region.wanted, if_true] at h'
  simp only [wpList, Region.wanted, yielded_fr hm (dstO_eq hj) hg, beq_self_eq_true, if_true]
  exact h'
theorem K_gno {ol : List Oper} {j g : Nat} {b b' : Bool} (hdn : Nat.blt d n = true) (hj : dstO ol j = some g) (hg : look l g = some (.bool b')) (hb : b' = !b)
    (h : KO P n c ol.toArray Q rest ((d, undef) :: l) hl H) : KO P n c ol.toArray Q (⟨some d, op, ty, pos, aft, some (j, b)⟩ :: rest) l hl H := by
  intro ρ w hm ho
  subst hb
  have : (some (!b) == some b) = false := by cases b <;> rfl
  simp only [wpList, Region.wanted, yielded_fr hm (dstO_eq hj) hg, this, Bool.false_eq_true, if_false, fr_put]
  exact h _ w (hm.put hdn _) ho
theorem K_gun {ol : List Oper} {j g : Nat} {b : Bool} (hdn : Nat.blt d n = true) (hj : dstO ol j = some g) (hg : look l g = some undef)
    (h : KO P n c ol.toArray Q rest ((d, undef) :: l) hl H) : KO P n c ol.toArray Q (⟨some d, op, ty, pos, aft, some (j, b)⟩ :: rest) l hl H := by
  intro ρ w hm ho
  have : (none == some b) = false := rfl
  simp only [wpList, Region.wanted, yielded_undef hm (dstO_eq hj) hg, this, Bool.false_eq_true, if_false, fr_put]
  exact h _ w (hm.put hdn _) ho

/-- Part on a test that stands in the slot that was written last. -/
theorem K_split {p : Prop} [Decidable p] (ht : p → KO P n c ops Q rest ((d, .bool true) :: l) hl H) (hf : ¬ p → KO P n c ops Q rest ((d, .bool false) :: l) hl H) :
    KO P n c ops Q rest ((d, .bool (decide p)) :: l) hl H := by
  by_cases h : p
  · simpa [h] using ht h
  · simpa [h] using hf h
theorem K_splitB {t : Bool} (ht : t = true → KO P n c ops Q rest ((d, .bool true) :: l) hl H) (hf : t = false → KO P n c ops Q rest ((d, .bool false) :: l) hl H) :
    KO P n c ops Q rest ((d, .bool t) :: l) hl H := by
  cases t
  · exact hf rfl
  · exact ht rfl

theorem R_move {x : Operand} (hx : ev l x = some v) : ValOk P l H hl (.move x) ty (v) :=
  (fun e w hk _ => by simp [ex, execOp, hk x v hx])
theorem R_assign {x : Operand} (hx : ev l x = some v) : ValOk P l H hl (.assign x) ty (v) :=
  (fun e w hk _ => by simp [ex, execOp, hk x v hx])
theorem R_pickT {x a b : Operand} (hx : ev l x = some (.bool true)) (ha : ev l a = some v) : ValOk P l H hl (.pick x a b) ty (v) :=
  (fun e w hk _ => by simp [ex, execOp, hk x _ hx, hk a _ ha, asBool])
theorem R_pickF {x a b : Operand} (hx : ev l x = some (.bool false)) (hb : ev l b = some v) : ValOk P l H hl (.pick x a b) ty (v) :=
  (fun e w hk _ => by simp [ex, execOp, hk x _ hx, hk b _ hb, asBool])
theorem R_extract {x : Operand} {i : Nat} {vs : Array Value} (hx : ev l x = some (.tuple vs)) (hi : vs[i]? = some v) : ValOk P l H hl (.extract x i) ty (v) :=
  (fun e w hk _ => by simp [ex, execOp, hk x _ hx, Instr.extract, hi])
theorem R_makeFunc {fn : Fn} {first captured : Array Operand} {fs cs : List Value} (hf : first.toList.mapM (ev l) = some fs) (hc : captured.toList.mapM (ev l) = some cs) : ValOk P l H hl (.makeFunc fn first captured) ty (.func fn fs.toArray cs.toArray) := by
  refine (fun e w hk _ => ?_)
  have key : ∀ (xs : Array Operand) (vs : List Value), xs.toList.mapM (ev l) = some vs → xs.map e = vs.toArray := by
    intro xs vs hx
    apply Array.ext'
    rw [Array.toList_map]
    generalize xs.toList = zs at hx
    induction zs generalizing vs with
    | nil => simp at hx; simp [← hx]
    | cons z zs ih =>
      simp only [List.mapM_cons, Option.bind_eq_bind, Option.bind_eq_some_iff, Option.pure_def, Option.some.injEq] at hx
      obtain ⟨u, hu, us, hus, rfl⟩ := hx
      simp [hk z u hu, ih us hus]
  simp [ex, execOp, Instr.makeFunc, key _ _ hf, key _ _ hc]

/-! ### Numbers and bools -/
theorem run_eqGuard_int (op : BinOp) (t : TypeId) (x y : Operand) (k k' : IntKind) (a b : Int) (w : World) : (eqGuard op t x y (.int k a) (.int k' b)).run P w = .ok () w := by
  unfold eqGuard; cases op <;> simp
theorem run_eqGuard_bool (op : BinOp) (t : TypeId) (x y : Operand) (a b : Bool) (w : World) : (eqGuard op t x y (.bool a) (.bool b)).run P w = .ok () w := by
  unfold eqGuard; cases op <;> simp

def cmpZ : BinOp → Int → Int → Option Bool
  | .eql, a, b => some (decide (a = b))
  | .neq, a, b => some (decide (a ≠ b))
  | .lss, a, b => some (decide (a < b))
  | .leq, a, b => some (decide (a ≤ b))
  | .gtr, a, b => some (decide (b < a))
  | .geq, a, b => some (decide (b ≤ a))
  | _, _, _ => none
theorem R_cmp {o : BinOp} {xt yt : TypeId} {x y : Operand} {k : IntKind} {a b : Int} {t : Bool} (hx : ev l x = some (.int k a)) (hy : ev l y = some (.int k b)) (ht : cmpZ o a b = some t) : ValOk P l H hl (.binOp o xt x y yt) ty (.bool t) := by
  refine (fun e w hk _ => ?_)
  have key : (binOp o xt (.int k a) (.int k b)).run P w = .ok (.bool t) w := by
    cases o <;> simp only [cmpZ, Option.some.injEq, reduceCtorEq] at ht <;> subst ht <;> simp only [binOp, ne_eq, not_true_eq_false, if_false, Op.intCmp, Sem.run_pure]
    congr 2; by_cases e : a = b <;> simp [e]
  simp only [ex, execOp, hk x _ hx, hk y _ hy, Sem.run_bind, run_eqGuard_int, Result.andThen_ok, key, Sem.run_pure]

theorem R_arith {o : BinOp} {xt yt : TypeId} {x y : Operand} {k : IntKind} {a b r : Int} (hx : ev l x = some (.int k a)) (hy : ev l y = some (.int k b))
    (ht : (o = .add ∧ k.wrap (a + b) = r) ∨ (o = .sub ∧ k.wrap (a - b) = r) ∨ (o = .mul ∧ k.wrap (a * b) = r)) : ValOk P l H hl (.binOp o xt x y yt) ty (.int k r) := by
  refine (fun e w hk _ => ?_)
  simp only [ex, execOp, hk x _ hx, hk y _ hy, Sem.run_bind, run_eqGuard_int, Result.andThen_ok]
  rcases ht with ⟨rfl, rfl⟩ | ⟨rfl, rfl⟩ | ⟨rfl, rfl⟩ <;> simp [binOp, Op.intArith]

theorem wrap64 {x : Int} (h : -9223372036854775808 ≤ x ∧ x ≤ 9223372036854775807) : IntKind.i64.wrap x = x := IntWalk.i64_in x h
theorem R_add {xt yt : TypeId} {x y : Operand} {a b : Int} (hx : ev l x = some (.int .i64 a)) (hy : ev l y = some (.int .i64 b))
    (ht : -9223372036854775808 ≤ a + b ∧ a + b ≤ 9223372036854775807) : ValOk P l H hl (.binOp .add xt x y yt) ty (.int .i64 (a + b)) := R_arith hx hy (.inl ⟨rfl, wrap64 ht⟩)
theorem R_sub {xt yt : TypeId} {x y : Operand} {a b : Int} (hx : ev l x = some (.int .i64 a)) (hy : ev l y = some (.int .i64 b))
    (ht : -9223372036854775808 ≤ a - b ∧ a - b ≤ 9223372036854775807) : ValOk P l H hl (.binOp .sub xt x y yt) ty (.int .i64 (a - b)) := R_arith hx hy (.inr (.inl ⟨rfl, wrap64 ht⟩))
theorem R_mul {xt yt : TypeId} {x y : Operand} {a b : Int} (hx : ev l x = some (.int .i64 a)) (hy : ev l y = some (.int .i64 b))
    (ht : -9223372036854775808 ≤ a * b ∧ a * b ≤ 9223372036854775807) : ValOk P l H hl (.binOp .mul xt x y yt) ty (.int .i64 (a * b)) := R_arith hx hy (.inr (.inr ⟨rfl, wrap64 ht⟩))
theorem R_quo {xt yt : TypeId} {x y : Operand} {k : IntKind} {a b r : Int} (hx : ev l x = some (.int k a)) (hy : ev l y = some (.int k b)) (hb : b ≠ 0) (hr : k.wrap (a.tdiv b) = r) : ValOk P l H hl (.binOp .quo xt x y yt) ty (.int k r) := by
  refine (fun e w hk _ => ?_)
  simp only [ex, execOp, hk x _ hx, hk y _ hy, Sem.run_bind, run_eqGuard_int, Result.andThen_ok]
  simp [binOp, Op.intDiv, hb, hr]
theorem R_rem {xt yt : TypeId} {x y : Operand} {k : IntKind} {a b : Int} (hx : ev l x = some (.int k a)) (hy : ev l y = some (.int k b)) (hb : b ≠ 0) : ValOk P l H hl (.binOp .rem xt x y yt) ty (.int k (a.tmod b)) := by
  refine (fun e w hk _ => ?_)
  simp only [ex, execOp, hk x _ hx, hk y _ hy, Sem.run_bind, run_eqGuard_int, Result.andThen_ok]
  simp [binOp, Op.intDiv, hb]
theorem run_equal_bool {t : TypeId} (hT : P.underlying t = some .bool) (a b : Bool) (w : World) : (Op.equal t (.bool a) (.bool b)).run P w = .ok (a == b) w := by
  show (Op.equalIn (9999 + 1) t (.bool a) (.bool b)).run P w = _
  rw [Op.equalIn, Sem.run_bind, run_underlying hT]
  rfl
theorem R_boolEq {xt yt : TypeId} {x y : Operand} {a b : Bool} (hT : P.underlying xt = some .bool) (hx : ev l x = some (.bool a)) (hy : ev l y = some (.bool b)) : ValOk P l H hl (.binOp .eql xt x y yt) ty (.bool (a == b)) := by
  refine (fun e w hk _ => ?_)
  have key : (binOp .eql xt (.bool a) (.bool b)).run P w = .ok (.bool (a == b)) w := by
    show (Op.equal xt (.bool a) (.bool b) >>= fun r => pure (Value.bool r)).run P w = _
    rw [Sem.run_bind, run_equal_bool hT]; rfl
  simp only [ex, execOp, hk x _ hx, hk y _ hy, Sem.run_bind, run_eqGuard_bool, Result.andThen_ok, key, Sem.run_pure]
theorem R_not {xt : TypeId} {x : Operand} {a : Bool} (hx : ev l x = some (.bool a)) : ValOk P l H hl (.unOp .not xt x) ty (.bool (!a)) :=
  (fun e w hk _ => by simp [ex, execOp, hk x _ hx, Op.unary])
theorem R_notP {xt : TypeId} {x : Operand} {p : Prop} [Decidable p] (hx : ev l x = some (.bool (decide p))) : ValOk P l H hl (.unOp .not xt x) ty (.bool (decide (¬ p))) :=
  (fun e w hk _ => by simp [ex, execOp, hk x _ hx, Op.unary])
theorem R_convII {s t : TypeId} {x : Operand} {k : IntKind} {a : Int} (hT : P.underlying t = some (.int k)) (hS : ∃ q, P.underlying s = some q) {k' : IntKind} (hx : ev l x = some (.int k' a)) {r : Int} (hr : k.wrap a = r) : ValOk P l H hl (.convert s t x) ty (.int k r) := by
  obtain ⟨q, hq⟩ := hS
  exact (fun e w hk _ => by simp [ex, execOp, hk x _ hx, convert, run_underlying hT, run_underlying hq, Conv.intToInt, hr])

/-! ### Types: facts of the program, by the kernel -/
theorem addr_add (b off j : Nat) : (⟨b, off, none⟩ : Addr).add j = ⟨b, off + j, none⟩ := by
  unfold Addr.add; split <;> simp_all
def aggD : TypeDesc → Bool
  | .struct _ | .array _ _ => true
  | _ => false
structure Ty (P : Program) (t : TypeId) (agg : Bool) (sz : Nat) : Prop where
  u : ∃ q, P.underlying t = some q ∧ aggD q = agg
  i : ∃ i, P.info? t = some i ∧ i.size = sz
def tyOk (P : Program) (t : TypeId) (agg : Bool) (sz : Nat) : Bool :=
  (match P.underlying t with | some q => aggD q == agg | none => false) && (match P.info? t with | some i => Nat.beq i.size sz | none => false)
theorem Ty.of {t : TypeId} {agg : Bool} {sz : Nat} (h : tyOk P t agg sz = true) : Ty P t agg sz := by
  simp only [tyOk, Bool.and_eq_true] at h
  obtain ⟨h1, h2⟩ := h
  constructor
  · split at h1
    · rename_i q hq; exact ⟨q, hq, by simpa using h1⟩
    · cases h1
  · split at h2
    · rename_i i hi; exact ⟨i, hi, Nat.eq_of_beq_eq_true h2⟩
    · cases h2
theorem Ty.run_isAgg {t : TypeId} {agg : Bool} {sz : Nat} (h : Ty P t agg sz) (w : World) : (isAgg t).run P w = .ok agg w := by
  obtain ⟨q, hq, ha⟩ := h.u
  unfold isAgg
  rw [Sem.run_bind, run_underlying hq w]
  cases q <;> simp [aggD] at ha <;> subst ha <;> simp
theorem Ty.run_sizeOf {t : TypeId} {agg : Bool} {sz : Nat} (h : Ty P t agg sz) (w : World) : (Go.sizeOf t).run P w = .ok sz w := by
  obtain ⟨i, hi, hs⟩ := h.i
  simp [Go.sizeOf, typeInfo, hi, hs]

/-- The zero value's cells, the field's offset, the element's type. -/
def zeroOk (P : Program) (t : TypeId) (z : Value) : Prop := ∃ i, P.info? t = some i ∧ i.zero = some z
theorem zeroOk.of {t : TypeId} {z : Value} (h : (P.info? t).bind (·.zero) = some z) : zeroOk P t z := by
  cases hi : P.info? t with
  | none => rw [hi] at h; cases h
  | some i => rw [hi] at h; exact ⟨i, hi, h⟩
theorem zeroOk.run {t : TypeId} {z : Value} (h : zeroOk P t z) (w : World) : (zeroValue t).run P w = .ok z w := by
  obtain ⟨i, hi, hz⟩ := h
  simp [zeroValue, typeInfo, hi, hz]
def fldOk (P : Program) (t : TypeId) (i o : Nat) : Bool :=
  match P.underlying t with
  | some (.struct fs) => match fs[i]? with
    | some f => Nat.beq f.offset o && (match P.info? f.type with | some inf => !(Nat.beq inf.size 0) | none => false)
    | none => false
  | _ => false
theorem fldOk.run {t : TypeId} {i o : Nat} (h : fldOk P t i o = true) (b off : Nat) (w : World) :
    (Instr.fieldAt t (.pointer (some ⟨b, off, none⟩)) i).run P w = .ok (.pointer (some ⟨b, off + o, none⟩)) w := by
  unfold fldOk at h
  split at h
  · rename_i fs hfs
    split at h
    · rename_i f hf
      simp only [Bool.and_eq_true] at h
      obtain ⟨h1, h2⟩ := h
      split at h2
      · rename_i inf hinf
        have h1' := Nat.eq_of_beq_eq_true h1
        have hsz : inf.size ≠ 0 := by
          intro e; rw [e] at h2; simp at h2
        simp only [Instr.fieldAt, Sem.run_bind, run_underlying hfs, Result.andThen_ok, hf, Instr.sureAddr, Sem.run_pure, fieldPlace, Go.sizeOf, typeInfo, run_program, hinf, Sem.run_ite, hsz, if_false]
        rw [addr_add, h1']
      · cases h2
    · cases h
  · cases h

theorem R_fieldAddr {t : TypeId} {x : Operand} {i b off : Nat} (o : Nat) (hF : fldOk P t i o = true) (hx : ev l x = some (.pointer (some ⟨b, off, none⟩))) : ValOk P l H hl (.fieldAddr t x i) ty (.pointer (some ⟨b, off + o, none⟩)) :=
  (fun e w hk _ => by simp [ex, execOp, hk x _ hx, fldOk.run hF])

end rules
end Pal
