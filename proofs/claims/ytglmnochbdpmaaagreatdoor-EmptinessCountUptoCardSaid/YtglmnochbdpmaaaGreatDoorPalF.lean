/-
  The region that draws: from the one walk to every order; and the walk's rules. Own work. No statement of the seat is proved here.
-/
import Derived.Test.YtglmnochbdpmaaaGreatDoorPalE
namespace Pal
open Go

/-! ### Who must be done ahead of whom -/
def dmask (acc : List Nat) : List Edge → Nat
  | [] => 0
  | e :: r => (cond (Region.binds .any e) (2 ^ e.on ||| acc.getD e.on 0) 0) ||| dmask acc r
def masks : List Nat → List Oper → List Nat
  | acc, [] => acc
  | acc, o :: r => masks (acc ++ [dmask acc o.after.toList]) r

theorem dmask_bit {acc : List Nat} {y : Nat} : ∀ {es : List Edge}, (dmask acc es).testBit y = true → ∃ e ∈ es, Region.binds .any e = true ∧ (e.on = y ∨ (acc.getD e.on 0).testBit y = true)
  | [], h => by simp [dmask] at h
  | e :: r, h => by
    simp only [dmask, Nat.testBit_or, Bool.or_eq_true] at h
    rcases h with h | h
    · cases hb : Region.binds .any e with
      | false => rw [hb] at h; simp at h
      | true =>
        rw [hb] at h
        simp only [cond_true, Nat.testBit_or, Bool.or_eq_true, Nat.testBit_two_pow, decide_eq_true_eq] at h
        exact ⟨e, by simp, hb, h⟩
    · obtain ⟨e', h1, h2⟩ := dmask_bit h
      exact ⟨e', List.mem_cons_of_mem _ h1, h2⟩
theorem masks_get {ops : List Oper} : ∀ {acc : List Nat} (i : Nat), i < acc.length → (masks acc ops).getD i 0 = acc.getD i 0 := by
  induction ops with
  | nil => intro acc i _; rfl
  | cons o r ih =>
    intro acc i hi
    simp only [masks]
    rw [ih i (by simp; omega)]
    simp [List.getD, List.getElem?_append_left hi]
/-- What stands in a mask: an edge's own end, or what stands in the mask of such an end, which lies earlier. -/
theorem masks_bit {ops : List Oper} : ∀ {acc : List Nat} (k : Nat) (o : Oper), ops[k]? = some o → ∀ y, ((masks acc ops).getD (acc.length + k) 0).testBit y = true →
    ∃ e ∈ o.after.toList, Region.binds .any e = true ∧ (e.on = y ∨ (e.on < acc.length + k ∧ ((masks acc ops).getD e.on 0).testBit y = true)) := by
  induction ops with
  | nil => intro acc k o h; simp at h
  | cons o' r ih =>
    intro acc k o hk y hy
    cases k with
    | zero =>
      simp at hk; subst hk
      simp only [masks, Nat.add_zero] at hy
      rw [masks_get acc.length (by simp)] at hy
      simp only [List.getD, List.getElem?_concat_length, Option.getD_some] at hy
      obtain ⟨e, h1, h2, h3⟩ := dmask_bit hy
      refine ⟨e, h1, h2, h3.imp id fun h => ?_⟩
      have hlt : e.on < acc.length := by
        rcases Nat.lt_or_ge e.on acc.length with h' | h'
        · exact h'
        · simp [List.getD, List.getElem?_eq_none h'] at h
      refine ⟨by omega, ?_⟩
      simp only [masks]
      rw [masks_get e.on (by simp; omega)]
      simpa [List.getD, List.getElem?_append_left hlt] using h
    | succ k =>
      simp at hk
      simp only [masks] at hy ⊢
      have := ih (acc := acc ++ [dmask acc o'.after.toList]) k o hk y (by rw [show (acc ++ [dmask acc o'.after.toList]).length + k = acc.length + (k + 1) by simp; omega]; exact hy)
      obtain ⟨e, h1, h2, h3⟩ := this
      refine ⟨e, h1, h2, h3.imp id fun h => ⟨by have := h.1; simp at this; omega, h.2⟩⟩

/-- A set that holds, with each operation, what must be done ahead of it, holds all that its mask names. -/
theorem masks_closed {ops : List Oper} (S : Nat → Prop) (hS : ∀ (i : Nat) (o : Oper), S i → ops[i]? = some o → ∀ e ∈ o.after.toList, Region.binds .any e = true → S e.on) :
    ∀ (x : Nat) (o : Oper), ops[x]? = some o → (∀ e ∈ o.after.toList, Region.binds .any e = true → S e.on) → ∀ y, ((masks [] ops).getD x 0).testBit y = true → S y := by
  intro x
  induction x using Nat.strongRecOn with
  | _ x ih =>
    intro o ho hd y hy
    have h0 := masks_bit (acc := []) x o ho y (by simpa using hy)
    obtain ⟨e, h1, h2, h3⟩ := h0
    have hse := hd e h1 h2
    rcases h3 with rfl | ⟨h3, h4⟩
    · exact hse
    · simp only [List.length_nil, Nat.zero_add] at h3
      have hlt : e.on < ops.length := Nat.lt_trans h3 (List.getElem?_eq_some_iff.1 ho).1
      exact ih e.on h3 ops[e.on] (List.getElem?_eq_getElem hlt) (hS e.on _ hse (List.getElem?_eq_getElem hlt)) y h4

/-! ### What is asked of a region, by the kernel -/
def pairOk (ops : List Oper) (ms : List Nat) (y x : Nat) : Bool :=
  (ms.getD x 0).testBit y ||
  match ops[y]?, ops[x]? with
  | some oy, some ox => Oper.apart ops.toArray oy ox && (Nat.beq (cls oy.op) 0 || Nat.beq (cls ox.op) 1)
  | _, _ => false
def pairsOk (ops : List Oper) (ms : List Nat) : List Nat → Bool
  | [] => true
  | y :: r => r.all (pairOk ops ms y) && pairsOk ops ms r
def lastOk (ms : List Nat) : List Nat → Bool
  | [] => true
  | [_] => true
  | y :: r => (match r.getLast? with | some z => (ms.getD z 0).testBit y | none => false) && lastOk ms r
def nodupB : List Nat → Bool
  | [] => true
  | a :: r => !r.contains a && nodupB r
theorem nodup_of : ∀ {R : List Nat}, nodupB R = true → R.Nodup
  | [], _ => .nil
  | a :: r, h => by
    simp only [nodupB, Bool.and_eq_true, Bool.not_eq_true'] at h
    rw [List.nodup_cons]
    exact ⟨by simpa using h.1, nodup_of h.2⟩
def drawOk (n : Nat) (ops : List Oper) (fin : Bool) (R : List Nat) : Bool :=
  let ms := masks [] ops
  (nodupB R && R.all fun i => Nat.blt i ops.length) && (List.range ops.length).all R.contains &&
  ops.zipIdx.all (fun q => q.1.after.toList.all (fun e => !Region.binds .any e || Nat.blt e.on q.2) && noSel q.1.op && (match q.1.dst with | some d => Nat.blt d n | none => true)) &&
  pairsOk ops ms R && (!fin || lastOk ms R)

structure DOk (n : Nat) (ops : List Oper) (fin : Bool) (R : List Nat) : Prop where
  nd : R.Nodup
  lt : ∀ i ∈ R, i < ops.length
  all : ∀ i, i < ops.length → i ∈ R
  edge : ∀ (i : Nat) (o : Oper), ops[i]? = some o → ∀ e ∈ o.after.toList, Region.binds .any e = true → e.on < i
  sel : ∀ (i : Nat) (o : Oper), ops[i]? = some o → noSel o.op = true
  dst : ∀ (i : Nat) (o : Oper), ops[i]? = some o → ∀ d, o.dst = some d → Nat.blt d n = true
  pair : R.Pairwise fun y x => pairOk ops (masks [] ops) y x = true
  last : fin = true → ∀ R1 z, R = R1 ++ [z] → ∀ y ∈ R1, ((masks [] ops).getD z 0).testBit y = true
theorem pairs_of {ops : List Oper} {ms : List Nat} : ∀ {R : List Nat}, pairsOk ops ms R = true → R.Pairwise fun y x => pairOk ops ms y x = true
  | [], _ => .nil
  | y :: r, h => by
    simp only [pairsOk, Bool.and_eq_true, List.all_eq_true] at h
    exact .cons h.1 (pairs_of h.2)
theorem last_of {ms : List Nat} : ∀ {R : List Nat}, lastOk ms R = true → ∀ R1 z, R = R1 ++ [z] → ∀ y ∈ R1, (ms.getD z 0).testBit y = true
  | [], _, R1, z, he, y, hy => by cases R1 <;> simp at he
  | [a], _, R1, z, he, y, hy => by
    cases R1 with
    | nil => cases hy
    | cons b r => simp at he
  | a :: b :: r, h, R1, z, he, y, hy => by
    simp only [lastOk, Bool.and_eq_true] at h
    cases R1 with
    | nil => cases hy
    | cons c R1 =>
      simp only [List.cons_append, List.cons.injEq] at he
      obtain ⟨rfl, he⟩ := he
      rcases List.mem_cons.1 hy with rfl | hy
      · have h1 := h.1
        rw [he] at h1
        simpa using h1
      · exact last_of h.2 R1 z he y hy
theorem DOk.of {n : Nat} {ops : List Oper} {fin : Bool} {R : List Nat} (h : drawOk n ops fin R = true) : DOk n ops fin R := by
  simp only [drawOk, Bool.and_eq_true] at h
  obtain ⟨⟨⟨⟨h1, h2⟩, h3⟩, h4⟩, h5⟩ := h
  have h3' : ∀ (i : Nat) (o : Oper), ops[i]? = some o → (o.after.toList.all (fun e => !Region.binds .any e || Nat.blt e.on i) && noSel o.op && (match o.dst with | some d => Nat.blt d n | none => true)) = true := by
    intro i o ho
    have := List.all_eq_true.1 h3 (o, i) (by rw [List.mem_zipIdx_iff_getElem?]; exact ho)
    exact this
  refine ⟨nodup_of h1.1, fun i hi => by have := List.all_eq_true.1 h1.2 i hi; simpa using this, ?_, ?_, ?_, ?_, pairs_of h4, ?_⟩
  · intro i hi
    have := List.all_eq_true.1 h2 i (List.mem_range.2 hi)
    simpa using this
  · intro i o ho e he hb
    have := h3' i o ho
    simp only [Bool.and_eq_true] at this
    have := List.all_eq_true.1 this.1.1 e he
    rw [hb] at this
    simpa using this
  · intro i o ho
    have := h3' i o ho
    simp only [Bool.and_eq_true] at this
    exact this.1.2
  · intro i o ho d hd
    have := h3' i o ho
    simp only [Bool.and_eq_true, hd] at this
    exact this.2
  · intro hf
    rw [hf] at h5
    exact last_of (by simpa using h5)

section
variable {P : Program} {n : Nat} {c : Cx} {Q : Exit → Act → World → Prop} {l : KL} {hl : HL} {H : View} {ops : List Oper} {keep : HL} {fin : Bool}

theorem upon_op {o : Oper} {ρ : Env} {w : World} {K : Act → World → Prop} {R : Value → World → Prop}
    (h : Upon P ((ex (fr n ρ).eval o.op o.type).run P w) R) (hk : ∀ v w', R v w' → K ((fr n ρ).put o.dst v) w') : o.wp P (fr n ρ) w K Q := upon_wp h hk

theorem fr_insl {ρ : Env} (hm : Mt n ρ l) {dst : Option Nat} (hd : ∀ d, dst = some d → Nat.blt d n = true) (v : Value) : ∃ ρ', (fr n ρ).put dst v = fr n ρ' ∧ Mt n ρ' (insl dst v l) := by
  cases dst with
  | none => exact ⟨ρ, rfl, hm⟩
  | some d => exact ⟨_, fr_put n ρ d v, hm.put (hd d rfl) v⟩

theorem mem_ready {md : Region.Mode} {os : Array Oper} {listed : Array Bool} {i : Nat} (h : i ∈ Region.ready md os listed) :
    i < os.size ∧ listed.getD i true = false ∧ ∃ o, os[i]? = some o ∧ ∀ e ∈ o.after.toList, Region.binds md e = true → listed.getD e.on false = true := by
  simp only [Region.ready, List.mem_filter, List.mem_range, Bool.and_eq_true, Bool.not_eq_true'] at h
  obtain ⟨h1, h2, h3⟩ := h
  refine ⟨h1, h2, ?_⟩
  cases ho : os[i]? with
  | none => rw [ho] at h3; simp at h3
  | some o =>
    rw [ho] at h3
    simp only [Option.map_some, Option.getD_some, Array.all_eq_true_iff_forall_mem] at h3
    refine ⟨o, rfl, fun e he hb => ?_⟩
    have := h3 e (by simpa using he)
    simpa [hb] using this
theorem ready_of {md : Region.Mode} {os : Array Oper} {listed : Array Bool} {i : Nat} {o : Oper} (h1 : i < os.size) (h2 : listed.getD i true = false) (ho : os[i]? = some o)
    (h3 : ∀ e ∈ o.after.toList, Region.binds md e = true → listed.getD e.on false = true) : i ∈ Region.ready md os listed := by
  simp only [Region.ready, List.mem_filter, List.mem_range, Bool.and_eq_true, Bool.not_eq_true']
  refine ⟨h1, h2, ?_⟩
  rw [ho]
  simp only [Option.map_some, Option.getD_some, Array.all_eq_true_iff_forall_mem]
  intro e he
  cases hb : Region.binds md e with
  | false => rfl
  | true => simpa [hb] using h3 e (by simpa using he) hb

def TQ (n : Nat) (c : Cx) (Q : Exit → Act → World → Prop) : ST := fun l hl H => KQ n c Q .normal l hl H
theorem TQ.inv : Inv (TQ n c Q) :=
  ⟨fun he h => fun ρ w hm ho => h ρ w (fun t v hv => hm t v (by rw [← he t]; exact hv)) ho, fun hp h => fun ρ w hm ho => h ρ w hm (ho.perm hp.symm)⟩

/-- One operation of the walk, done. -/
theorem X.run {o : Oper} {last : Bool} {F : ST} {ρ : Env} {w : World} {i : Nat} {K : Act → World → Prop} (hi : ops.toArray[i]? = some o) (hd : ∀ d, o.dst = some d → Nat.blt d n = true)
    (hkeep : ∀ en ∈ keep, en ∈ hl) (hkn : (feet keep).Nodup) (hm : Mt n ρ l) (ho : Ok c w H hl) (h : X P n ops.toArray keep o last F l hl H)
    (hK : ∀ l' hl' H' ρ' w', Mt n ρ' l' → Ok c w' H' hl' → (last = false → ∀ en ∈ keep, en ∈ hl') → F l' hl' H' → K (fr n ρ') w') : wpOp P ops.toArray Q i K (fr n ρ) w := by
  unfold wpOp
  simp only [hi]
  rcases h with ⟨h1, h2⟩ | ⟨h1, h2⟩
  · rw [wanted_wl hm h1]
    simp only [Bool.false_eq_true, if_false]
    obtain ⟨ρ', e, hm'⟩ := fr_insl hm hd undef
    rw [e]
    exact hK _ _ _ _ _ hm' ho (fun _ => hkeep) h2
  · rw [wanted_wl hm h1]
    simp only [if_true]
    refine .inl ?_
    rcases h2 with ⟨_, v, h3, h4⟩ | ⟨_, mk, obj, h3, h4⟩ | ⟨_, p, r, hp, h4, h5⟩
    · refine upon_op (R := fun u w' => u = v ∧ w' = w) ?_ ?_
      · have hkp : Has w H keep := ⟨ho.has, fun e he => ho.own e (hkeep e he), fun b hb => by
          obtain ⟨e, he, hbe⟩ := mem_feet.1 hb
          exact (ho.foot b (mem_feet.2 ⟨e, hkeep e he, hbe⟩)).1, hkn⟩
        rw [h3 _ w hm.knows hkp]
        exact ⟨rfl, rfl⟩
      · rintro u w' ⟨rfl, rfl⟩
        obtain ⟨ρ', e, hm'⟩ := fr_insl hm hd u
        rw [e]
        exact hK _ _ _ _ _ hm' ho (fun _ => hkeep) h4
    · refine upon_op (R := fun u w' => u = mk w.heap.size ∧ w' = w.alloc obj) ?_ ?_
      · rw [h3 _ w hm.knows]
        exact ⟨rfl, rfl⟩
      · rintro u w' ⟨rfl, rfl⟩
        obtain ⟨ρ', e, hm'⟩ := fr_insl hm hd (mk w.heap.size)
        rw [e]
        exact hK _ _ _ _ _ hm' (ho.alloc obj) (fun _ en hen => List.mem_cons_of_mem _ (hkeep en hen)) (h4 _)
    · have ho' := ho.perm hp
      refine upon_op (h5 _ w hm.knows ho'.hasL.left) ?_
      rintro u w' ⟨H', q, hok, hle, hf⟩
      obtain ⟨ρ', e, hm'⟩ := fr_insl hm hd u
      rw [e]
      exact hK _ _ _ _ _ hm' (ho'.call hok) (fun hl0 en hen => List.mem_append_right _ (h4 hl0 en hen)) hf

theorem KD.run (hsel : selOk ops.toArray) (hedge : ∀ (i : Nat) (o : Oper), ops[i]? = some o → ∀ e ∈ o.after.toList, Region.binds .any e = true → e.on < i) (hdst : ∀ (i : Nat) (o : Oper), ops[i]? = some o → ∀ d, o.dst = some d → Nat.blt d n = true) (hkn : (feet keep).Nodup) :
    ∀ (fuel : Nat) (R : List Nat) (listed : Array Bool) (l : KL) (hl : HL) (H : View) (ρ : Env) (w : World), R.length = fuel → R.Nodup → (∀ i ∈ R, i < ops.length) → listed.size = ops.length →
      (∀ i, i < ops.length → (listed.getD i true = false ↔ i ∈ R)) → (∀ i o, i ∉ R → ops[i]? = some o → ∀ e ∈ o.after.toList, Region.binds .any e = true → e.on ∉ R) →
      (R.Pairwise fun y x => pairOk ops (masks [] ops) y x = true) → (fin = true → ∀ R1 z, R = R1 ++ [z] → ∀ y ∈ R1, ((masks [] ops).getD z 0).testBit y = true) →
      (R ≠ [] → ∀ en ∈ keep, en ∈ hl) → Mt n ρ l → Ok c w H hl → KD P n ops.toArray keep fin (TQ n c Q) R l hl H → wpAny P .any ops.toArray Q fuel listed (fr n ρ) w := by
  intro fuel
  induction fuel with
  | zero =>
    intro R listed l hl H ρ w hlen _ _ hsz hmem _ _ _ _ hm ho h
    have hR : R = [] := List.eq_nil_of_length_eq_zero hlen
    subst hR
    refine ⟨?_, h ρ w hm ho⟩
    cases hr : Region.ready .any ops.toArray listed with
    | nil => rfl
    | cons x xs =>
      obtain ⟨h1, h2, _⟩ := mem_ready (show x ∈ Region.ready .any ops.toArray listed by rw [hr]; simp)
      have := (hmem x (by simpa using h1)).1 h2
      cases this
  | succ fuel ih =>
    intro R listed l hl H ρ w hlen hnd hlt hsz hmem hclo hpair hlast hkeep hm ho h
    have hRne : R ≠ [] := by intro e; subst e; simp at hlen
    refine ⟨?_, ?_⟩
    · -- something is ready: the least that is left
      intro hr
      exfalso
      have hex : ∃ i, i ∈ R := by cases R with | nil => exact absurd rfl hRne | cons a _ => exact ⟨a, by simp⟩
      have hmin : ∀ k i, i ≤ k → i ∈ R → False := by
        intro k
        induction k with
        | zero =>
          intro i hi hiR
          have hi0 : i = 0 := by omega
          subst hi0
          have hlt0 := hlt 0 hiR
          have := ready_of (md := .any) (os := ops.toArray) (listed := listed) (i := 0) (o := ops[0]) (by simpa using hlt0) ((hmem 0 hlt0).2 hiR) (by simp [hlt0])
            (fun e he hb => absurd (hedge 0 ops[0] (List.getElem?_eq_getElem hlt0) e he hb) (Nat.not_lt_zero _))
          rw [hr] at this; cases this
        | succ k ihk =>
          intro i hi hiR
          have hlti := hlt i hiR
          have := ready_of (md := .any) (os := ops.toArray) (listed := listed) (i := i) (o := ops[i]) (by simpa using hlti) ((hmem i hlti).2 hiR) (by simp [hlti])
            (fun e he hb => by
              have he' := hedge i ops[i] (List.getElem?_eq_getElem hlti) e he hb
              have hlte : e.on < ops.length := Nat.lt_trans he' hlti
              have hn : e.on ∉ R := fun hin => ihk e.on (by omega) hin
              have h2 : listed.getD e.on true = true := by
                cases hb2 : listed.getD e.on true with
                | true => rfl
                | false => exact absurd ((hmem e.on hlte).1 hb2) hn
              simpa [Array.getD, hsz, hlte] using h2)
          rw [hr] at this; cases this
      obtain ⟨i, hi⟩ := hex
      exact hmin i i (Nat.le_refl _) hi
    · intro x hx
      obtain ⟨h1, h2, o, ho', hdeps⟩ := mem_ready hx
      have hxl : x < ops.length := by simpa using h1
      have hoL : ops[x]? = some o := by simpa using ho'
      have hxR : x ∈ R := (hmem x hxl).1 h2
      obtain ⟨pre, post, rfl⟩ := List.append_of_mem hxR
      have hdeps' : ∀ e ∈ o.after.toList, Region.binds .any e = true → e.on ∉ pre ++ x :: post := by
        intro e he hb hin
        have hlte := hlt e.on hin
        have h3 := hdeps e he hb
        have h4 := (hmem e.on hlte).2 hin
        simp [Array.getD, hsz, hlte] at h3 h4
        rw [h3] at h4; cases h4
      have hbef : ∀ y ∈ pre ++ x :: post, ((masks [] ops).getD x 0).testBit y = false := by
        intro y hy
        cases hb : ((masks [] ops).getD x 0).testBit y with
        | false => rfl
        | true =>
          exact absurd hy (masks_closed (fun i => i ∉ pre ++ x :: post) (fun i o hi ho e he hb => hclo i o hi ho e he hb) x o hoL hdeps' y hb)
      have hpp := hpair
      rw [List.pairwise_append] at hpair
      obtain ⟨hp1, hp2, hp3⟩ := hpair
      rw [List.pairwise_cons] at hp2
      have hfree : ∀ y ∈ pre, ∀ oy, ops.toArray[y]? = some oy → oy.apart ops.toArray o = true ∧ (cls oy.op = 0 ∨ cls o.op = 1) := by
        intro y hy oy hoy
        have h5 := hp3 y hy x (by simp)
        simp only [pairOk, hbef y (List.mem_append_left _ hy), Bool.false_or] at h5
        have hoyL : ops[y]? = some oy := by simpa using hoy
        rw [hoyL, hoL] at h5
        simp only [Bool.and_eq_true, Bool.or_eq_true] at h5
        exact ⟨h5.1, h5.2.imp Nat.eq_of_beq_eq_true Nat.eq_of_beq_eq_true⟩
      have hfin : pre ≠ [] → (fin && post.isEmpty) = false := by
        intro hne
        cases hf : fin with
        | false => rfl
        | true =>
          cases post with
          | cons a b => rfl
          | nil =>
            obtain ⟨y, hy⟩ : ∃ y, y ∈ pre := by cases pre with | nil => exact absurd rfl hne | cons a _ => exact ⟨a, by simp⟩
            have h6 := hlast hf pre x rfl y hy
            rw [hbef y (List.mem_append_left _ hy)] at h6
            cases h6
      have hnd2 := hnd
      rw [List.nodup_append, List.nodup_cons] at hnd2
      obtain ⟨nd1, ⟨nd2, nd3⟩, nd4⟩ := hnd2
      have hxpre : x ∉ pre := fun hin => nd4 x hin x (by simp) rfl
      -- the rest, whoever is done
      have rest : ∀ l' hl' H' ρ' w', Mt n ρ' l' → Ok c w' H' hl' → (pre ++ post ≠ [] → ∀ en ∈ keep, en ∈ hl') → KD P n ops.toArray keep fin (TQ n c Q) (pre ++ post) l' hl' H' →
          wpAny P .any ops.toArray Q fuel (listed.setIfInBounds x true) (fr n ρ') w' := by
        intro l' hl' H' ρ' w' hm' ho'' hk' hkd
        refine ih (pre ++ post) _ l' hl' H' ρ' w' ?_ ?_ ?_ (by simpa using hsz) ?_ ?_ ?_ ?_ hk' hm' ho'' hkd
        · simp at hlen ⊢; omega
        · rw [List.nodup_append]; exact ⟨nd1, nd3, fun a ha b hb => nd4 a ha b (List.mem_cons_of_mem _ hb)⟩
        · intro i hi
          refine hlt i ?_
          rcases List.mem_append.1 hi with hi | hi
          · exact List.mem_append_left _ hi
          · exact List.mem_append_right _ (List.mem_cons_of_mem _ hi)
        · intro i hi
          by_cases hix : x = i
          · subst hix
            constructor
            · intro h7; simp [Array.getD, hsz, hi] at h7
            · intro h7; rcases List.mem_append.1 h7 with h7 | h7
              · exact absurd h7 hxpre
              · exact absurd h7 nd2
          · have h8 : (listed.setIfInBounds x true).getD i true = listed.getD i true := by
              simp [Array.getD, hsz, hi, hix]
            rw [h8, hmem i hi]
            simp [Ne.symm hix]
        · intro i oi hi hoi e he hb hin
          have hin' : e.on ∈ pre ++ x :: post := by
            rcases List.mem_append.1 hin with h9 | h9
            · exact List.mem_append_left _ h9
            · exact List.mem_append_right _ (List.mem_cons_of_mem _ h9)
          by_cases hix : i = x
          · subst hix
            rw [hoL] at hoi; cases hoi
            exact hdeps' e he hb hin'
          · refine hclo i oi ?_ hoi e he hb hin'
            intro h9
            rcases List.mem_append.1 h9 with h9 | h9
            · exact hi (List.mem_append_left _ h9)
            · rcases List.mem_cons.1 h9 with h9 | h9
              · exact hix h9
              · exact hi (List.mem_append_right _ h9)
        · rw [List.pairwise_append]
          exact ⟨hp1, hp2.2, fun a ha b hb => hp3 a ha b (List.mem_cons_of_mem _ hb)⟩
        · intro hf R1 z hRz y hy
          cases post with
          | nil =>
            have hpn : pre = [] := by
              cases hpre : pre with
              | nil => rfl
              | cons a b => exact absurd (hfin (by rw [hpre]; simp)) (by simp [hf])
            subst hpn
            simp at hRz
          | cons a b =>
            have hz : ∃ R2, a :: b = R2 ++ [z] := by
              have hl1 : (pre ++ a :: b).getLast? = some z := by rw [hRz]; simp
              rw [List.getLast?_append] at hl1
              have hl2 : (a :: b).getLast? = some z := by
                cases hq : (a :: b).getLast? with
                | none => simp at hq
                | some u => rw [hq] at hl1; simpa using hl1
              exact List.getLast?_eq_some_iff.1 hl2
            obtain ⟨R2, hR2⟩ := hz
            have hsplit : pre ++ x :: (a :: b) = (pre ++ x :: R2) ++ [z] := by rw [hR2]; simp
            have hR1 : R1 = pre ++ R2 := by
              have : R1 ++ [z] = (pre ++ R2) ++ [z] := by rw [← hRz, hR2]; simp
              exact List.append_cancel_right this
            refine hlast hf (pre ++ x :: R2) z hsplit y ?_
            rw [hR1] at hy
            rcases List.mem_append.1 hy with h9 | h9
            · exact List.mem_append_left _ h9
            · exact List.mem_append_right _ (List.mem_cons_of_mem _ h9)
      have hd := hdst x o hoL
      by_cases hc1 : cls o.op = 1
      · -- it makes a block, or is passed over
        have hah := KD.ahead hsel ho' hc1 pre post l hl H w ho.hasL (fun y hy oy ox h3 h4 => by rw [ho'] at h4; cases h4; exact hfree y hy oy h3) h
        have hap : ∀ y ∈ pre, ∀ oy, ops.toArray[y]? = some oy → oy.apart ops.toArray o = true := fun y hy oy hoy => (hfree y hy oy hoy).1
        rcases hah with hw | ⟨hw, mk, obj, hal⟩
        · have hk := KD.outA (v := undef) (extra := []) hsel TQ.inv ho' pre post l hl H hap
            (fun l' hl' H' last F ha hx => by
              rcases hx with ⟨_, h3⟩ | ⟨h3, _⟩
              · exact h3
              · rw [← wl_agree ha, hw] at h3; cases h3) h
          refine X.run (last := false) (F := KD P n ops.toArray keep fin (TQ n c Q) (pre ++ post)) ho' hd (hkeep hRne) hkn hm ho (.inl ⟨hw, by simpa using hk⟩) ?_
          intro l' hl' H' ρ' w' hm' ho'' hk' hf
          exact rest l' hl' H' ρ' w' hm' ho'' (fun _ => hk' rfl) hf
        · have hk := fun b => KD.outA (v := mk b) (extra := [blk b obj]) hsel TQ.inv ho' pre post l hl H hap
            (fun l' hl' H' last F ha hx => by
              rcases hx with ⟨h3, _⟩ | ⟨h3, h4⟩
              · rw [← wl_agree ha, hw] at h3; cases h3
              · rcases h4 with ⟨h4, _⟩ | ⟨_, mk', obj', h5, h6⟩ | ⟨h4, _⟩
                · omega
                · have hal' := hal.agree (ops := ops.toArray) (hsel x o ho') ha
                  obtain ⟨rfl, rfl⟩ := hal'.det h5
                  exact h6 b
                · omega) h
          refine X.run (last := false) (F := KD P n ops.toArray keep fin (TQ n c Q) (pre ++ post)) ho' hd (hkeep hRne) hkn hm ho (.inr ⟨hw, .inr (.inl ⟨hc1, mk, obj, hal, fun b => by simpa using hk b⟩)⟩) ?_
          intro l' hl' H' ρ' w' hm' ho'' hk' hf
          exact rest l' hl' H' ρ' w' hm' ho'' (fun _ => hk' rfl) hf
      · have hk := KD.outC hsel TQ.inv ho' pre post l hl H (fun y hy oy hoy => ⟨(hfree y hy oy hoy).1, (hfree y hy oy hoy).2.resolve_right hc1⟩) hfin h
        obtain ⟨o2, h3, h4⟩ := hk
        rw [ho'] at h3; cases h3
        refine X.run ho' hd (hkeep hRne) hkn hm ho h4 ?_
        intro l' hl' H' ρ' w' hm' ho'' hk' hf
        refine rest l' hl' H' ρ' w' hm' ho'' (fun hne => hk' ?_) hf
        cases hpp2 : (pre ++ post) with
        | nil => exact absurd hpp2 hne
        | cons a b => simp

theorem K_regionD {id : Nat} {R : List Nat} (hok : drawOk n ops fin R = true) (hmix : P.follows .mixedOrders = true) (hkeep : List.Sublist keep hl)
    (h : KD P n ops.toArray keep fin (TQ n c Q) R l hl H) : KC P n c (.region id ops.toArray true) Q l hl H := by
  intro ρ w hm ho
  have hd := DOk.of hok
  refine wp_region_any hmix ?_
  have hlen : R.length = ops.length := by
    have h1 : R.Perm (List.range ops.length) := by
      rw [List.perm_ext_iff_of_nodup hd.nd List.nodup_range]
      intro a
      rw [List.mem_range]
      exact ⟨hd.lt a, hd.all a⟩
    simpa using h1.length_eq
  refine KD.run (fin := fin) (fun i o ho => hd.sel i o (by simpa using ho)) hd.edge hd.dst ((feet_sublist hkeep).nodup ho.nd) ops.toArray.size R _ l hl H ρ w.drew (by simpa using hlen) hd.nd hd.lt (by simp) ?_ ?_ hd.pair hd.last
    (fun _ en hen => hkeep.subset hen) hm ho.drew h
  · intro i hi
    constructor
    · intro _; exact hd.all i hi
    · intro _; simp [Array.getD, hi]
  · intro i o hi hoi
    exact absurd (hd.all i (List.getElem?_eq_some_iff.1 hoi).1) hi

def wlO (ol : List Oper) (l : KL) : Option (Nat × Bool) → Option Bool
  | none => some true
  | some (j, b) => match dstO ol j with
    | none => none
    | some g => match look l g with
      | some (.bool b') => some (cond b' b (!b))
      | some (.tuple _) => some false
      | _ => none
theorem wlO_eq {ol : List Oper} {l : KL} {o : Oper} {b : Bool} (h : wlO ol l o.guard = some b) : wl ol.toArray l o = some b := by
  unfold wl
  cases hg : o.guard with
  | none => rw [hg] at h; exact h
  | some q =>
    obtain ⟨j, b'⟩ := q
    rw [hg] at h
    simp only [wlO] at h ⊢
    cases hd : dstO ol j with
    | none => rw [hd] at h; cases h
    | some g =>
      rw [hd] at h
      rw [dstO_eq hd]
      simp only [] at h ⊢
      split at h
      · rename_i u hu
        rw [hu]
        rw [← h]
        cases u <;> cases b' <;> rfl
      · rename_i vs hu
        rw [hu]
        exact h
      · cases h
theorem toA {ol : List Oper} {i : Nat} {o : Oper} (h : nthO ol i = some o) : ol.toArray[i]? = some o := by rw [nthO_eq] at h; simpa using h
variable {ol : List Oper} {R : List Nat} {T : ST} {i d : Nat} {dst : Option Nat} {op : Op} {ty : TypeId} {pos : String} {aft : Array Edge} {g : Option (Nat × Bool)} {v : Value}
def memAll : HL → HL → Prop
  | [], _ => True
  | e :: r, L => (∃ i : Nat, L[i]? = some e) ∧ memAll r L
theorem memAll.mem : ∀ {k L : HL}, memAll k L → ∀ en ∈ k, en ∈ L
  | [], _, _, en, h => by cases h
  | e :: r, L, h, en, hen => by
    rcases List.mem_cons.1 hen with rfl | hen
    · obtain ⟨⟨i, hi⟩, _⟩ := h; exact List.mem_of_getElem? hi
    · exact memAll.mem h.2 en hen
theorem D_done (h : KQ n c Q .normal l hl H) : KD P n ol.toArray keep fin (TQ n c Q) [] l hl H := h
theorem D_val (hi : nthO ol i = some ⟨some d, op, ty, pos, aft, g⟩) (hw : wlO ol l g = some true) (hc : Nat.beq (cls op) 0 = true) (hv : ValOk P l H keep op ty v)
    (h : KD P n ol.toArray keep fin T R ((d, v) :: l) hl H) : KD P n ol.toArray keep fin T (i :: R) l hl H :=
  ⟨_, toA hi, .inr ⟨wlO_eq hw, .inl ⟨Nat.eq_of_beq_eq_true hc, v, hv, h⟩⟩⟩
theorem D_skip (hi : nthO ol i = some ⟨some d, op, ty, pos, aft, g⟩) (hw : wlO ol l g = some false)
    (h : KD P n ol.toArray keep fin T R ((d, undef) :: l) hl H) : KD P n ol.toArray keep fin T (i :: R) l hl H := ⟨_, toA hi, .inl ⟨wlO_eq hw, h⟩⟩
theorem D_alloc {mk : Nat → Value} {o : Obj} (hi : nthO ol i = some ⟨some d, op, ty, pos, aft, g⟩) (hw : wlO ol l g = some true) (hc : Nat.beq (cls op) 1 = true) (hv : AllocOk P l op ty mk o)
    (h : ∀ b, KD P n ol.toArray keep fin T R ((d, mk b) :: l) (blk b o :: hl) H) : KD P n ol.toArray keep fin T (i :: R) l hl H :=
  ⟨_, toA hi, .inr ⟨wlO_eq hw, .inr (.inl ⟨Nat.eq_of_beq_eq_true hc, mk, o, hv, h⟩)⟩⟩
/-- It acts on p; what is kept lies in r. -/
theorem D_eff {post : Value → View → HL → Prop} (p r : HL) (hi : nthO ol i = some ⟨some d, op, ty, pos, aft, g⟩) (hw : wlO ol l g = some true) (hc : Nat.beq (cls op) 2 = true)
    (hp : hl.Perm (p ++ r)) (hkp : ∀ en ∈ keep, en ∈ r) (hE : Eff P l H p op ty post)
    (h : ∀ v H' q, VLe H H' → post v H' q → KD P n ol.toArray keep fin T R ((d, v) :: l) (q ++ r) H') : KD P n ol.toArray keep fin T (i :: R) l hl H :=
  ⟨_, toA hi, .inr ⟨wlO_eq hw, .inr (.inr ⟨Nat.eq_of_beq_eq_true hc, p, r, hp, fun _ => hkp, fun e w hk hh => (hE e w hk hh).mono fun v w' ⟨H', q, h1, h2⟩ => ⟨H', q, h1, h1.le, h v H' q h1.le h2⟩⟩)⟩⟩
/-- A call of a named function that changes nothing. -/
theorem D_call {xs : List Operand} {ats : Array TypeId} {f : FuncId} {vs : List Value} {post : Value → View → Prop} (hi : nthO ol i = some ⟨some d, .call ⟨.value (.func f), xs.toArray, ats⟩, ty, pos, aft, g⟩)
    (hw : wlO ol l g = some true) (hcal : callable P f = true) (hxs : evs l xs = some vs) (hkp : memAll keep hl) (hS : Sat P f vs.toArray H post)
    (h : ∀ u H', VLe H H' → post u H' → KD P n ol.toArray keep fin T R ((d, u) :: l) hl H') : KD P n ol.toArray keep fin T (i :: R) l hl H :=
  D_eff [] hl hi hw rfl (List.Perm.refl _) hkp.mem (E_callN hcal hxs hS) (by rintro v H' q hle ⟨rfl, hp⟩; exact h v H' hle hp)
/-- The last one acts on something kept. -/
theorem D_last {post : Value → View → HL → Prop} (p r : HL) (hi : nthO ol i = some ⟨none, op, ty, pos, aft, g⟩) (hw : wlO ol l g = some true) (hc : Nat.beq (cls op) 2 = true)
    (hp : hl.Perm (p ++ r)) (hE : Eff P l H p op ty post) (h : ∀ v H' q, VLe H H' → post v H' q → T l (q ++ r) H') : KD P n ol.toArray keep true T [i] l hl H :=
  ⟨_, toA hi, .inr ⟨wlO_eq hw, .inr (.inr ⟨Nat.eq_of_beq_eq_true hc, p, r, hp, fun e => (by cases e), fun e w hk hh => (hE e w hk hh).mono fun v w' ⟨H', q, h1, h2⟩ => ⟨H', q, h1, h1.le, h v H' q h1.le h2⟩⟩)⟩⟩
theorem D_lastStore {t : TypeId} {x y : Operand} {agg : Bool} {sz b off : Nat} {cs : Array Value} {E : TypeId} (hT : Ty P t agg sz) (j : Nat) (hi : nthO ol i = some ⟨none, .store t x y, ty, pos, aft, g⟩) (hw : wlO ol l g = some true)
    (hx : ev l x = some (.pointer (some ⟨b, off, none⟩))) (hy : ev l y = some v) (hj : hl[j]? = some (blk b (.cells cs E (0, 0)))) (hsz : v.cells.toList.length = sz) (hfit : Nat.ble (off + v.cells.toList.length) cs.size = true) (h1 : v.cells.toList.all Value.oneCell' = true)
    (h : KQ n c Q .normal l (hl.set j (blk b (.cells (putCells cs off v.cells.toList) E (0, 0)))) H) : KD P n ol.toArray keep true (TQ n c Q) [i] l hl H :=
  D_last [_] (hl.eraseIdx j) hi hw rfl (perm_erase hj) (E_store hT hx hy hsz hfit h1) (by
    rintro _ H' q _ ⟨en', rfl, rfl, rfl⟩
    exact fun ρ w hm ho => h ρ w hm (ho.perm (perm_set hj)))
/-- A store in the chain, into a block that is not kept: it comes to the front. -/
theorem D_store {t : TypeId} {x y : Operand} {agg : Bool} {sz b off : Nat} {cs : Array Value} {E : TypeId} (hT : Ty P t agg sz) (j : Nat) (hi : nthO ol i = some ⟨none, .store t x y, ty, pos, aft, g⟩) (hw : wlO ol l g = some true)
    (hx : ev l x = some (.pointer (some ⟨b, off, none⟩))) (hy : ev l y = some v) (hj : hl[j]? = some (blk b (.cells cs E (0, 0)))) (hkp : memAll keep (hl.eraseIdx j)) (hsz : v.cells.toList.length = sz) (hfit : Nat.ble (off + v.cells.toList.length) cs.size = true) (h1 : v.cells.toList.all Value.oneCell' = true)
    (h : KD P n ol.toArray keep fin T R l (blk b (.cells (putCells cs off v.cells.toList) E (0, 0)) :: hl.eraseIdx j) H) : KD P n ol.toArray keep fin T (i :: R) l hl H :=
  ⟨_, toA hi, .inr ⟨wlO_eq hw, .inr (.inr ⟨rfl, [_], hl.eraseIdx j, perm_erase hj, fun _ => hkp.mem, fun e w hk hh => (E_store hT hx hy hsz hfit h1 e w hk hh).mono fun v w' ⟨H', q, h1, h2⟩ => by
    obtain ⟨en', rfl, rfl, rfl⟩ := h2
    exact ⟨H', _, h1, h1.le, h⟩⟩)⟩⟩
theorem D_split {p : Prop} [Decidable p] (ht : p → KD P n ol.toArray keep fin T R ((d, .bool true) :: l) hl H) (hf : ¬ p → KD P n ol.toArray keep fin T R ((d, .bool false) :: l) hl H) :
    KD P n ol.toArray keep fin T R ((d, .bool (decide p)) :: l) hl H := by
  by_cases h : p
  · simpa [h] using ht h
  · simpa [h] using hf h
theorem D_splitB {t : Bool} (ht : t = true → KD P n ol.toArray keep fin T R ((d, .bool true) :: l) hl H) (hf : t = false → KD P n ol.toArray keep fin T R ((d, .bool false) :: l) hl H) :
    KD P n ol.toArray keep fin T R ((d, .bool t) :: l) hl H := by
  cases t
  · exact hf rfl
  · exact ht rfl
end
end Pal
