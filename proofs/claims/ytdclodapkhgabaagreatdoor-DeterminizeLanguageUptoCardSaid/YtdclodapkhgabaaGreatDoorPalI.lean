/-
  Range over a function: the rounds, the iterator's side, the loop's side, over PalG. Own work. No statement of the seat is proved here.
-/
import Derived.Test.YtdclodapkhgabaaGreatDoorPalR
import Derived.RangeFuncRecord
import Derived.RangeFuncIn
import Derived.AtR
namespace Pal
open Go

def onlyN (K : Act → World → Prop) : Exit → Act → World → Prop
  | .normal, a, w => K a w
  | _, _, _ => False
def noDefer (ops : List Oper) : Bool := ops.all fun o => match o.op with | .defer _ => false | _ => true
theorem noDefer.get {ops : List Oper} (h : noDefer ops = true) {i : Nat} {o : Oper} (ho : ops.toArray[i]? = some o) (c : Call) : o.op ≠ .defer c := by
  intro e
  have hm : o ∈ ops := by
    have : ops[i]? = some o := by simpa using ho
    exact List.mem_of_getElem? this
  have := List.all_eq_true.1 h o hm
  rw [e] at this
  cases this

/-- Operations, in whatever frame. -/
theorem ops_steps {P : Program} {ol : List Oper} {K : Act → World → Prop} (hnd : noDefer ol = true) :
    ∀ (is : List Nat) (a : Act) (w : World), wpOps P ol.toArray (onlyN K) is a w → ∀ (b : Frame) (ds : List Deferred) (k : List Item) (cs : List Frame),
      ∃ a' w', K a' w' ∧ Steps P (lone (b.atR ⟨a.tmps, a.defers ++ ds⟩ (.inRegion ol.toArray is :: k)) cs w) (lone (b.atR ⟨a'.tmps, a'.defers ++ ds⟩ k) cs w')
  | [], a, w, h, b, ds, k, cs => ⟨a, w, h, .one stepR_region_end⟩
  | i :: rest, a, w, h, b, ds, k, cs => by
    have ih := fun a w (h : wpOps P ol.toArray (onlyN K) rest a w) => ops_steps hnd rest a w h b ds k cs
    simp only [wpOps] at h
    cases ho : ol.toArray[i]? with
    | none =>
      simp only [ho] at h
      obtain ⟨a', w', hq, hs⟩ := ih a w h
      have h1 := stepR_op_skip (P := P) (b := b) (a := ⟨a.tmps, a.defers ++ ds⟩) (k := k) (cs := cs) (w := w) (ops := ol.toArray) (i := i) (rest := rest) (by simp [ho])
      simp only [ho, Option.bind_none, Act.put] at h1
      exact ⟨a', w', hq, .head h1 hs⟩
    | some o =>
      simp only [ho] at h
      have hput : ∀ v, (Act.put ⟨a.tmps, a.defers ++ ds⟩ o.dst v) = ⟨(a.put o.dst v).tmps, (a.put o.dst v).defers ++ ds⟩ := by
        intro v; cases hd : o.dst <;> simp [Act.put]
      by_cases hw : Region.wanted o (yielded ol.toArray a.tmps) = true
      · simp only [hw, if_true] at h
        rcases h with h | ⟨_, _, _, hq⟩
        case inr => exact hq.elim
        simp only [Oper.wp, Oper.upon] at h
        have hev : (Act.eval ⟨a.tmps, a.defers ++ ds⟩) = a.eval := by funext x; cases x <;> rfl
        have hg := stepGR_op (P := P) (b := b) (a := ⟨a.tmps, a.defers ++ ds⟩) (k := k) (cs := cs) (w := w) (rest := rest) ho hw
        rw [Oper.semAt_eq _ _ _ (noDefer.get hnd ho), hev] at hg
        have hfin : ∀ v, (b.atR ⟨a.tmps, a.defers ++ ds⟩ (.inRegion ol.toArray (i :: rest) :: k)).finish v = b.atR ⟨(a.put o.dst v).tmps, (a.put o.dst v).defers ++ ds⟩ (.inRegion ol.toArray rest :: k) := by
          intro v; rw [Frame.finish_atR, ho, ← hput]; rfl
        split at h
        · rename_i v w' hr
          obtain ⟨a', w'', hq, hs⟩ := ih _ _ h
          refine ⟨a', w'', hq, .head (step_lone_go ?_) hs⟩
          rw [hg, ← hfin]; simp [stepG.apply, hr]
        · rename_i w' hr
          obtain ⟨a', w'', hq, hs⟩ := ih _ _ h
          refine ⟨a', w'', hq, .head (step_lone_go ?_) hs⟩
          rw [hg, ← hfin]; simp [stepG.apply, hr]
        · rename_i d w' hr
          obtain ⟨a', w'', hq, hs⟩ := ih _ _ h
          refine ⟨a', w'', hq, .head (step_lone_go ?_) hs⟩
          have : ({ b.atR ⟨a.tmps, a.defers ++ ds⟩ (.inRegion ol.toArray (i :: rest) :: k) with defers := d :: (a.defers ++ ds) } : Frame).finish undef =
              b.atR ⟨(Act.put { a with defers := d :: a.defers } o.dst undef).tmps, (Act.put { a with defers := d :: a.defers } o.dst undef).defers ++ ds⟩ (.inRegion ol.toArray rest :: k) := by
            have := Frame.finish_atR b ⟨a.tmps, d :: (a.defers ++ ds)⟩ ol.toArray i rest k undef
            rw [ho] at this
            refine Eq.trans this ?_
            cases hd : o.dst <;> simp [Act.put, hd]
          rw [hg]; simp only [stepG.apply, Sem.runT_eq, hr, GStep.bare_after]
          exact congrArg (fun fr => GStep.go { frame := fr, callers := cs, status := .running, dying := none } w') this
        · rename_i f args w' hr
          obtain ⟨e, w'', fr, hR, hsteps, _, hleave⟩ := h (b.atR ⟨a.tmps, a.defers ++ ds⟩ (.inRegion ol.toArray (i :: rest) :: k) :: cs)
          have henter : step P (lone (b.atR ⟨a.tmps, a.defers ++ ds⟩ (.inRegion ol.toArray (i :: rest) :: k)) cs w) =
              .next (lone (Frame.enter P f args .normal) (b.atR ⟨a.tmps, a.defers ++ ds⟩ (.inRegion ol.toArray (i :: rest) :: k) :: cs) w') :=
            step_lone_go (by rw [hg]; simp [stepG.apply, hr, Frame.atR])
          cases e with
          | returned v =>
            obtain ⟨a', w₃, hq, hs⟩ := ih _ _ hR
            refine ⟨a', w₃, hq, .head henter (hsteps.trans (.head ?_ hs))⟩
            rw [← hfin]; exact step_leave_returned hleave
          | panicked chain => exact hR.elim
          | outgrown =>
            obtain ⟨_, _, hq⟩ := hR
            exact hq.elim
        · rename_i row args w' hr
          obtain ⟨v, w'', hR, hsteps⟩ := h (b.atR ⟨a.tmps, a.defers ++ ds⟩ (.inRegion ol.toArray (i :: rest) :: k)) cs
          have henter : step P (lone (b.atR ⟨a.tmps, a.defers ++ ds⟩ (.inRegion ol.toArray (i :: rest) :: k)) cs w) =
              .next (lone (Frame.ofRow P row args .normal) (b.atR ⟨a.tmps, a.defers ++ ds⟩ (.inRegion ol.toArray (i :: rest) :: k) :: cs) w') :=
            step_lone_go (by rw [hg]; simp [stepG.apply, hr, Frame.atR])
          obtain ⟨a', w₃, hq, hs⟩ := ih _ _ hR
          refine ⟨a', w₃, hq, .head henter (hsteps.trans ?_)⟩
          rw [hfin]; exact hs
        · exact h.elim
        · exact h.elim
      · simp only [hw, if_false, Bool.false_eq_true] at h
        obtain ⟨a', w', hq, hs⟩ := ih _ _ h
        have h1 := stepR_op_skip (P := P) (b := b) (a := ⟨a.tmps, a.defers ++ ds⟩) (k := k) (cs := cs) (w := w) (ops := ol.toArray) (i := i) (rest := rest)
          (by simp [ho]; simpa using hw)
        rw [ho] at h1
        exact ⟨a', w', hq, .head h1 (by have := hput undef; simp only [Option.bind_some]; rw [this]; exact hs)⟩

section rules
variable {P : Program} {n : Nat} {c : Cx} {Q : Exit → Act → World → Prop} {l : KL} {hl : HL} {H : View}

def Out (n : Nat) (c : Cx) (S : KL → HL → View → Prop) (a : Act) (w : World) : Prop := ∃ ρ l hl H, a = fr n ρ ∧ Mt n ρ l ∧ Ok c w H hl ∧ S l hl H
theorem Q_out {S : KL → HL → View → Prop} (h : S l hl H) : KQ n c (onlyN (Out n c S)) .normal l hl H := fun ρ _ hm ho => ⟨ρ, l, hl, H, rfl, hm, ho, h⟩

/-- A region's walk, in whatever frame. -/
theorem KO.run {ol : List Oper} {S : KL → HL → View → Prop} (hnd : noDefer ol = true) (h : KO P n c ol.toArray (onlyN (Out n c S)) ol l hl H) {ρ : Env} {w : World} (hm : Mt n ρ l) (ho : Ok c w H hl)
    (id : Nat) (b : Frame) (ds : List Deferred) (k : List Item) (cs : List Frame) :
    ∃ ρ' l' hl' H' w', S l' hl' H' ∧ Mt n ρ' l' ∧ Ok c w' H' hl' ∧ Steps P (lone (b.atR ⟨(fr n ρ).tmps, ds⟩ (.code (.region id ol.toArray false) :: k)) cs w) (lone (b.atR ⟨(fr n ρ').tmps, ds⟩ k) cs w') := by
  have h1 := h ρ w hm ho
  have h2 : wpOps P ol.toArray (onlyN (Out n c S)) (List.range ol.toArray.size) (fr n ρ) w := by
    rw [List.range_eq_range', show ol.toArray.size = ol.length by simp, wpOps_eq_wpList ol 0 (by simp)]; exact h1
  obtain ⟨a', w', ⟨ρ', l', hl', H', rfl, hm', ho', hS⟩, hs⟩ := ops_steps hnd _ _ _ h2 b ds k cs
  exact ⟨ρ', l', hl', H', w', hS, hm', ho', .head stepR_region hs⟩

theorem Ok.put {w : World} {b : Nat} {o : Obj} (o' : Obj) (h : Ok c w H (blk b o :: hl)) : Ok c (w.putObj b o') H (blk b o' :: hl) := by
  have hb : w.heap[b]? = some o := h.own _ List.mem_cons_self
  have h' : Has w H [blk b o] := Has.left (p := [blk b o]) (r := hl) h.hasL
  refine Ok.call (p := [blk b o]) (r := hl) (q := [blk b o']) h ?_
  exact ok1 h' rfl rfl rfl (Nat.le_refl _) (by simp) (fun k _ hk => World.putObj_heap_other (by simpa [blk] using hk)) (World.putObj_heap_same (lt_of_heap hb)) (fun k hk => .inl hk) (by simp [blk])

/-- A call of yield: a round, from p to q. -/
def YOk (P : Program) (L : Nat) (x : Value) (p : HL) (Z : HL → Prop) : Prop := ∀ H w, Has w H p → ∃ f tmps as bd, (Instr.yield L #[x]).run P w = .ok (.round L f tmps as bd) w ∧
  ∀ c cs, ∃ w' H' q, Steps P (lone (Frame.round L f tmps as bd .normal) (c :: cs) w) (lone (c.finish (.bool true)) cs w') ∧ Ok ⟨w, H, feet p⟩ w' H' q ∧ Z q
def Yields (P : Program) (L : Nat) (xs : List Value) (E : List Value → HL → Prop) : Prop := ∀ pre x p, E pre p → (pre ++ [x]) <+: xs → YOk P L x p (E (pre ++ [x]))

def busy (r : Loop) : Loop := { r with state := .busy }
/-- A round whose body is one region. -/
theorem yok {L pt ia ib ic : Nat} {r : Loop} {x : Value} {aol bol : List Oper} {ρ0 : Env} {l0 L1 : KL} {p : HL} {Z : HL → Prop}
    (hst : r.state = .ready) (hpe : r.pending = none) (hps : r.params = #[pt]) (hpn : Nat.blt pt n = true) (htm : r.tmps = (fr n ρ0).tmps) (hm0 : Mt n ρ0 l0)
    (has : r.assign = .region ia aol.toArray false) (hbd : r.body = .block ib (.region ic bol.toArray false)) (hna : noDefer aol = true) (hnb : noDefer bol = true)
    (hA : ∀ c H, KO P n c aol.toArray (onlyN (Out n c fun l1 hl1 H1 => hl1 = blk L (.loop r) :: p ∧ H1 = H ∧ subs L1 l1)) aol ((pt, x) :: l0) (blk L (.loop r) :: p) H)
    (hB : ∀ c H, KO P n c bol.toArray (onlyN (Out n c fun _ hl1 _ => ∃ q, hl1 = blk L (.loop (busy r)) :: q ∧ Z (blk L (.loop r) :: q))) bol L1 (blk L (.loop (busy r)) :: p) H) :
    YOk P L x (blk L (.loop r) :: p) Z := by
  intro H w hw
  have hL : w.heap[L]? = some (.loop r) := hw.own _ List.mem_cons_self
  refine ⟨_, _, _, _, run_yield hL (by simp [hps]), ?_⟩
  intro c cs
  let b : Frame := { (default : Frame) with fn := r.fn, kind := .normal, roundOf := some L }
  have htm' : ((r.params.zip #[x]).foldl (fun tmps (t, a) => tmps.setIfInBounds t a) r.tmps) = (fr n (upd ρ0 pt x)).tmps := by
    rw [hps, htm, ← fr_put]; simp [Act.put]
  rw [htm', has, hbd]
  have hstart : Frame.round L r.fn (fr n (upd ρ0 pt x)).tmps (.region ia aol.toArray false) (.block ib (.region ic bol.toArray false)) .normal =
      b.atR ⟨(fr n (upd ρ0 pt x)).tmps, []⟩ [.code (.region ia aol.toArray false), .beginRound, .code (.block ib (.region ic bol.toArray false))] := rfl
  rw [hstart]
  obtain ⟨ρ1, l1, hl1, H1, w1, ⟨rfl, rfl, hs1⟩, hm1, ho1, st1⟩ := (hA ⟨w, H, feet (blk L (.loop r) :: p)⟩ H).run hna (hm0.put hpn x) hw.ok ia b [] [.beginRound, .code (.block ib (.region ic bol.toArray false))] (c :: cs)
  have hL1 : w1.heap[L]? = some (.loop r) := ho1.own _ List.mem_cons_self
  have st2 := stepR_beginRound (P := P) (b := b) (a := ⟨(fr n ρ1).tmps, []⟩) (k := [.code (.block ib (.region ic bol.toArray false))]) (cs := c :: cs) rfl (run_beginRound hL1 hst)
  have ho2 := ho1.put (.loop (busy r))
  obtain ⟨ρ3, l3, hl3, H3, w3, ⟨q, rfl, hZ⟩, hm3, ho3, st3⟩ := (hB ⟨w, H1, feet (blk L (.loop r) :: p)⟩ H1).run hnb (hm1.sub hs1) ho2 ic b [] [.inBlock ib] (c :: cs)
  have hL3 : w3.heap[L]? = some (.loop (busy r)) := ho3.own _ List.mem_cons_self
  have ho4 := ho3.put (.loop r)
  have st4 := stepR_round_end (P := P) (b := b) (a := ⟨(fr n ρ3).tmps, []⟩) (c := c) (cs := cs) rfl rfl (run_endRound none hL3)
  have hrr : ({ (busy r) with state := .ready, pending := none } : Loop) = r := by
    cases r; simp only at hst hpe; subst hst; subst hpe; rfl
  simp only [Option.isNone_none, if_true] at st4
  rw [show ({ state := .ready, pending := none, fn := (busy r).fn, tmps := (busy r).tmps, params := (busy r).params, assign := (busy r).assign, body := (busy r).body, defers := (busy r).defers } : Loop) = r from hrr] at st4
  exact ⟨_, H3, _, st1.trans (.head st2 (.head stepR_block (st3.trans (.head stepR_inBlock (.one st4))))), ho4, hZ⟩

/-! ### The iterator's side: a region that calls yield -/
def wpX (P : Program) (ops : Array Oper) (Q : Exit → Act → World → Prop) (rest : List Oper) (a : Act) (w : World) : Prop :=
  ∀ (is : List Nat), is.map (fun i => ops[i]?) = rest.map some → ∀ (b : Frame) (k : List Item) (cs : List Frame), ∃ e a' w', Q e a' w' ∧ Arrives P (lone (b.at a (.inRegion ops is :: k)) cs w) b k cs e a' w'
def KX (P : Program) (n : Nat) (c : Cx) (ops : Array Oper) (Q : Exit → Act → World → Prop) (rest : List Oper) (l : KL) (hl : HL) (H : View) : Prop :=
  ∀ ρ w, Mt n ρ l → Ok c w H hl → wpX P ops Q rest (fr n ρ) w
theorem K_regionX {id : Nat} {ops : List Oper} (h : KX P n c ops.toArray Q ops l hl H) : KC P n c (.region id ops.toArray false) Q l hl H := by
  intro ρ w hm ho b k cs
  obtain ⟨e, a', w', hq, harr⟩ := h ρ w hm ho (List.range ops.toArray.size) (by
    apply List.ext_getElem?
    intro i
    by_cases hi : i < ops.length
    · simp [hi]
    · simp [hi]) b k cs
  exact ⟨e, a', w', hq, .of_steps (.one step_region) harr⟩
theorem X_nil {ops : Array Oper} (h : KQ n c Q .normal l hl H) : KX P n c ops Q [] l hl H := by
  intro ρ w hm ho is his b k cs
  have : is = [] := by simpa using his
  subst this
  exact ⟨.normal, _, w, h ρ w hm ho, .one step_region_end⟩
variable {ops : Array Oper} {rest : List Oper} {d : Nat} {v : Value} {op : Op} {ty : TypeId} {pos : String} {aft : Array Edge}
theorem X_perm (hl' : HL) (hp : hl.Perm hl') (h : KX P n c ops Q rest l hl' H) : KX P n c ops Q rest l hl H := fun ρ w hm ho => h ρ w hm (ho.perm hp)
theorem X_val (hv : ValOk P l H hl op ty v) (hdn : Nat.blt d n = true) (h : KX P n c ops Q rest ((d, v) :: l) hl H) :
    KX P n c ops Q (⟨some d, op, ty, pos, aft, none⟩ :: rest) l hl H := by
  intro ρ w hm ho is his b k cs
  cases is with
  | nil => simp at his
  | cons i is =>
    simp only [List.map_cons, List.cons.injEq] at his
    obtain ⟨hi, his⟩ := his
    obtain ⟨e, a', w', hq, harr⟩ := h _ w (hm.put hdn v) ho is his b k cs
    refine ⟨e, a', w', hq, .of_steps (.one (step_lone_go ?_)) harr⟩
    rw [stepG_op hi (by simp [Region.wanted])]
    have hr : (execOp (fr n ρ).eval ⟨some d, op, ty, pos, aft, none⟩).run P w = .ok (.value v) w := hv _ w hm.knows ho.hasL
    have hf : (b.at (fr n ρ) (.inRegion ops (i :: is) :: k)).finish v = b.at (fr n (upd ρ d v)) (.inRegion ops is :: k) := by
      rw [Frame.finish_at, hi]; simp [fr_put]
    simp [stepG.apply, hr, hf]
theorem X_yield {g x : Operand} {ats : Array TypeId} {L : Nat} {p r : HL} {Z : HL → Prop} (hg : ev l g = some (.func (.yield L) #[] #[])) (hx : ev l x = some v) (hp : hl.Perm (p ++ r)) (hY : YOk P L v p Z) (hdn : Nat.blt d n = true)
    (h : ∀ H' q, VLe H H' → Z q → KX P n c ops Q rest ((d, .bool true) :: l) (q ++ r) H') :
    KX P n c ops Q (⟨some d, .call ⟨.value g, #[x], ats⟩, ty, pos, aft, none⟩ :: rest) l hl H := by
  intro ρ w hm ho is his b k cs
  cases is with
  | nil => simp at his
  | cons i is =>
    simp only [List.map_cons, List.cons.injEq] at his
    obtain ⟨hi, his⟩ := his
    have ho' := ho.perm hp
    obtain ⟨f, tmps, as, bd, hy, hround⟩ := hY H w ho'.hasL.left
    obtain ⟨w1, H1, q, st, hok, hZ⟩ := hround (b.at (fr n ρ) (.inRegion ops (i :: is) :: k)) cs
    obtain ⟨e, a', w', hq, harr⟩ := h H1 q hok.le hZ _ w1 (hm.put hdn _) (ho'.call hok) is his b k cs
    have hf : (b.at (fr n ρ) (.inRegion ops (i :: is) :: k)).finish (.bool true) = b.at (fr n (upd ρ d (.bool true))) (.inRegion ops is :: k) := by
      rw [Frame.finish_at, hi]; simp [fr_put]
    rw [hf] at st
    refine ⟨e, a', w', hq, .of_steps (.head (step_lone_go ?_) st) harr⟩
    rw [stepG_op hi (by simp [Region.wanted])]
    have hr : (execOp (fr n ρ).eval ⟨some d, .call ⟨.value g, #[x], ats⟩, ty, pos, aft, none⟩).run P w = .ok (.round L f tmps as bd) w := by
      simp [execOp, resolve, hm.ev hg, hm.ev hx, Deferred.ofValue, invoke, hy, callFunc]
    simp [stepG.apply, hr, Frame.at]

/-! ### The loop's side -/
def bodyPostM (P : Program) (fn : Func) (R : Ending → World → Prop) : Exit → Act → World → Prop
  | .ret, a, w => ∃ D w', a.defers = [⟨.collected D, #[]⟩] ∧ (Instr.takeDeferred D).run P w = .ok [] w' ∧ ∃ v, (results fn a.tmps).run P w' = .ok v w' ∧ R (.returned v) w'
  | _, _, _ => False
theorem calls_marks {f : FuncId} {fn : Func} {cd : Code} {args : Array Value} {w : World} {R : Ending → World → Prop} (hf : P.funcs[f]? = some fn) (hb : fn.body = some cd)
    (h : cd.wp P (bodyPostM P fn R) { tmps := args ++ Array.replicate (fn.ntmps - args.size) undef, defers := [] } w) : Calls P f args w R := by
  intro cs
  let b : Frame := { (default : Frame) with fn := f, kind := .normal }
  have henter : Frame.enter P f args .normal = b.at { tmps := args ++ Array.replicate (fn.ntmps - args.size) undef, defers := [] } [.code cd] := by
    simp [Frame.enter, Frame.at, hf, hb, b]
  obtain ⟨e, a', w', hq, harr⟩ := h b [] cs
  rw [← henter] at harr
  cases e with
  | ret =>
    obtain ⟨D, w'', hd, htk, v, hr, hR⟩ := hq
    obtain ⟨todo, hs⟩ := harr
    have h1 := step_collected (P := P) (fr := { b.at a' todo with mode := .returning }) (cs := cs) (w := w') (w' := w'') (calls := []) (by simp) hd rfl htk
    exact ⟨.returned v, w'', _, hR, Steps.trans hs (.one h1), rfl, rfl, rfl, rfl, fn, hf, hr⟩
  | _ => exact hq.elim
theorem enterM {f : FuncId} {fn : Func} {body : Code} {n : Nat} {args : List Value} {post : Value → View → HL → Prop}
    (hf : P.funcs[f]? = some fn) (hb : fn.body = some body) (hnt : fn.ntmps = n) (hn : Nat.ble args.length n = true)
    (h : ∀ w0, KC P n ⟨w0, H, feet hl⟩ body (bodyPostM P fn (RS ⟨w0, H, feet hl⟩ post)) (args0 0 args) hl H) :
    SatO P f args.toArray H hl post := by
  subst hnt
  intro w hw
  have hn' := Nat.ble_eq.mp hn
  refine calls_marks hf hb ?_
  have key : ({ tmps := args.toArray ++ Array.replicate (fn.ntmps - args.toArray.size) undef, defers := [] } : Act) = fr fn.ntmps fun t => args.getD t undef := by
    simp only [fr, Act.mk.injEq, and_true]
    apply Array.ext
    · simp; omega
    · intro i h1 h2
      simp at h1 h2
      rw [Array.getElem_append]
      by_cases hi : i < args.length
      · simp [hi]
      · simp [hi]
  rw [key]
  refine h w _ w ?_ hw.ok
  intro t v hv
  obtain ⟨_, h2⟩ := look_args0 args 0 t v hv
  simp at h2
  have : t < args.length := (List.getElem?_eq_some_iff.1 h2).1
  exact ⟨by omega, by simp [h2]⟩

def rec0 (fn : FuncId) (tmps : Array Value) (ps : Array Tmp) (assign body : Code) (D : Nat) : Loop :=
  { state := .ready, pending := none, fn, tmps, params := ps, assign, body, defers := D }
/-- The loop: what the rounds turn is E; what else is owned stands behind. -/
theorem K_rangeFunc {id gf : Nat} {g : Operand} {ps : Array Tmp} {assign body C : Code} {first cap : List Value} {p r : HL} {R : View → HL → Prop}
    (hcal : callable P gf = true) (hg : ev l g = some (.func (.func gf) first.toArray cap.toArray)) (hp : hl.Perm (p ++ r))
    (hiter : ∀ fn D L ρ, Mt n ρ l → SatO P gf (first ++ [Value.func (.yield L) #[] #[]] ++ cap).toArray H (blk L (.loop (rec0 fn (fr n ρ).tmps ps assign body D)) :: p)
      (fun _ H' q => ∃ q', q = blk L (.loop (rec0 fn (fr n ρ).tmps ps assign body D)) :: q' ∧ R H' q'))
    (hrest : ∀ D H' q', VLe H H' → R H' q' → ∀ ρ w, Mt n ρ l → Ok c w H' (blk D (.deferred (some [])) :: (q' ++ r)) → C.wp P Q ⟨(fr n ρ).tmps, [⟨.collected D, #[]⟩]⟩ w) :
    KC P n c (.block id (.rangeFunc g ps assign body)) (Exit.then (C.wp P Q) Q) l hl H := by
  intro ρ w hm ho b k cs
  let w1 := w.alloc (.deferred (some []))
  let L := w.heap.size + 1
  let rc := rec0 b.fn (fr n ρ).tmps ps assign body w.heap.size
  let w2 := w1.alloc (.loop rc)
  have h1 : Ok c w1 H (blk w.heap.size (.deferred (some [])) :: hl) := ho.alloc _
  have h2 : Ok c w2 H (blk L (.loop rc) :: blk w.heap.size (.deferred (some [])) :: hl) := by
    have := h1.alloc (.loop rc)
    rwa [show w1.heap.size = L from World.size_alloc w _] at this
  have h3 : Ok c w2 H ((blk L (.loop rc) :: p) ++ (blk w.heap.size (.deferred (some [])) :: r)) := by
    refine h2.perm ?_
    refine List.Perm.cons _ ?_
    exact ((hp.cons _).trans List.perm_middle.symm)
  have hS := hiter b.fn w.heap.size L ρ hm w2 h3.hasL.left
  obtain ⟨e, w3, frx, ⟨v, H3, q, rfl, ok3, q', rfl, hR⟩, hcomes, _, hleave⟩ := hS (b.at ⟨(fr n ρ).tmps, [⟨.collected w.heap.size, #[]⟩]⟩ (.inRangeFunc L :: .inBlock id :: k) :: cs)
  have h4 := h3.call ok3
  have h5 : Ok c (w3.putObj L (.loop { rc with state := .exhausted })) H3 (blk w.heap.size (.deferred (some [])) :: (q' ++ r)) := by
    have hpm : (q' ++ blk w.heap.size (.deferred (some [])) :: r).Perm (blk w.heap.size (.deferred (some [])) :: (q' ++ r)) := List.perm_middle
    have h6 : Ok c (w3.putObj L (.loop { rc with state := .exhausted })) H3 (blk L (.loop { rc with state := .exhausted }) :: (q' ++ blk w.heap.size (.deferred (some [])) :: r)) := h4.put _
    exact Ok.right (a := [blk L (.loop { rc with state := .exhausted })]) (h6.perm (hpm.cons _))
  have hL3 : w3.heap[L]? = some (.loop rc) := h4.own (blk L (.loop rc)) List.mem_cons_self
  let b0 : Frame := { b with roundOf := none }
  have hb0 : ∀ a todo, b.at a todo = b0.atR a todo := fun _ _ => rfl
  have hres : (resolve (fr n ρ).eval (rangeCall g L) 0).run P w2 = .ok ⟨.fn (.func gf) cap.toArray, (first ++ [Value.func (.yield L) #[] #[]]).toArray⟩ w2 := by
    have hc : (fr n ρ).eval (.const (.func (.yield L) #[] #[])) = .func (.yield L) #[] #[] := rfl
    simp [resolve, rangeCall, hm.ev hg, Deferred.ofValue, hc]
  have st1 : step P (lone (b.at (fr n ρ) (.code (.rangeFunc g ps assign body) :: .inBlock id :: k)) cs w) =
      .next (lone (Frame.enter P gf (first ++ [Value.func (.yield L) #[] #[]] ++ cap).toArray .normal) (b.at ⟨(fr n ρ).tmps, [⟨.collected w.heap.size, #[]⟩]⟩ (.inRangeFunc L :: .inBlock id :: k) :: cs) w2) := by
    have := stepR_rangeFunc (P := P) (b := b0) (a := fr n ρ) (k := .inBlock id :: k) (cs := cs) (w := w) (g := g) (ps := ps) (assign := assign) (body := body) (l := L) (mark := [⟨.collected w.heap.size, #[]⟩])
      (d := ⟨.fn (.func gf) cap.toArray, (first ++ [Value.func (.yield L) #[] #[]]).toArray⟩) (f := gf) (args := (first ++ [Value.func (.yield L) #[] #[]] ++ cap).toArray) (w₁ := w2) (w₁' := w2) (w₂ := w2)
      (run_enterLoop_outer _ _ _ _ _) hres (by simp only [invoke]; rw [callable.run hcal]; simp)
    exact this
  have st2 := step_leave_returned (P := P) (c := b.at ⟨(fr n ρ).tmps, [⟨.collected w.heap.size, #[]⟩]⟩ (.inRangeFunc L :: .inBlock id :: k)) (cs := cs) hleave
  rw [hb0, finish_atR_inRangeFunc] at st2
  have st3 := stepR_endRangeFunc (P := P) (b := b0) (a := ⟨(fr n ρ).tmps, [⟨.collected w.heap.size, #[]⟩]⟩) (k := .inBlock id :: k) (cs := cs) (run_endLoop hL3 (by simp [rc, rec0]))
  refine ⟨.normal, ⟨(fr n ρ).tmps, [⟨.collected w.heap.size, #[]⟩]⟩, _, hrest w.heap.size H3 q' ok3.le hR ρ _ hm h5, ?_⟩
  exact .head step_block (.head st1 (hcomes.trans (.head st2 (.head st3 (.one stepR_inBlock)))))
theorem resOk.results {fn : Func} {rs : List ResultVar} {vs : List Value} {ρ : Env} {w : World} (hfn : fn.results = rs.toArray) (hm : Mt n ρ l) (ho : Has w H hl) (h : resOk P l hl rs vs) :
    (results fn (fr n ρ).tmps).run P w = .ok (tupV vs) w := by
  have h1 := resOk.run hm ho h
  have h2 : (fn.results.mapM (rv (fr n ρ).tmps)).run P w = .ok vs.toArray w := by
    rw [hfn, Array.mapM_eq_mapM_toList, Sem.run_map, h1]
    rfl
  have h3 : Go.results fn (fr n ρ).tmps = (do
      let vs ← fn.results.mapM (rv (fr n ρ).tmps)
      pure (if h : vs.size = 1 then vs[0] else .tuple vs)) := by
    unfold Go.results
    congr 1
  rw [h3, Sem.run_bind, h2]
  simp only [Result.andThen_ok, Sem.run_pure]
  congr 1
  match vs with
  | [] => rfl
  | [v] => rfl
  | _ :: _ :: _ => rfl
/-- The function's end, behind the loop. -/
theorem wp_endM {ol : List Oper} {id D : Nat} {S : KL → HL → View → Prop} {fn : Func} {rs : List ResultVar} {vs : List Value} {post : Value → View → HL → Prop} {w : World} {ρ : Env} (hnd : noDefer ol = true) (hm : Mt n ρ l) (ho : Ok c w H (blk D (.deferred (some [])) :: hl))
    (h : KO P n c ol.toArray (onlyN (Out n c S)) ol l (blk D (.deferred (some [])) :: hl) H)
    (hS : ∀ l' hl' H', S l' hl' H' → ∃ hl2 vs, hl' = blk D (.deferred (some [])) :: hl2 ∧ fn.results = rs.toArray ∧ resOk P l' hl2 rs vs ∧ ∀ w', Ok c w' H' hl2 → ∃ H2 hl3, Ok c w' H2 hl3 ∧ post (tupV vs) H2 hl3) :
    (Code.seq (.region id ol.toArray false) .ret).wp P (bodyPostM P fn (RS c post)) ⟨(fr n ρ).tmps, [⟨.collected D, #[]⟩]⟩ w := by
  intro b k cs
  obtain ⟨ρ', l', hl', H', w', hs, hm', ho', st⟩ := h.run hnd hm ho id { b with roundOf := none } [⟨.collected D, #[]⟩] (.code .ret :: k) cs
  obtain ⟨hl2, vs, rfl, hfn, hres, hfin⟩ := hS _ _ _ hs
  have hD : w'.heap[D]? = some (.deferred (some [])) := ho'.own (blk D (.deferred (some []))) List.mem_cons_self
  have ho2 : Ok c (w'.putObj D (.deferred none)) H' hl2 := Ok.right (a := [_]) (ho'.put (.deferred none))
  obtain ⟨H2, hl3, ho3, hp⟩ := hfin _ ho2
  refine ⟨.ret, ⟨(fr n ρ').tmps, [⟨.collected D, #[]⟩]⟩, w', ⟨D, _, rfl, run_takeDeferred hD, tupV vs, ?_, tupV vs, H2, hl3, rfl, ho3, hp⟩, _, Steps.trans (.one step_seq) (Steps.trans st (.one step_ret))⟩
  exact resOk.results hfn hm' ho2.hasL hres
end rules
end Pal
