/-
  Maps with ints as keys, told by their entries in the order in which they were laid: one block. Lookups, stores, ranges. Own work. No statement of the seat is proved here.
-/
import Derived.Test.YtdclodapkhgabaaGreatDoorPalSr
import Derived.Maps.RangeRun
namespace Pal
open Go
abbrev KVs := List (Int × Value)
def entO (p : (Int × Value) × Nat) : MapEntry := ⟨.int .i64 p.1.1, p.1.2, p.2⟩
def mkEs (kvs : KVs) : Array MapEntry := (kvs.zipIdx.map entO).toArray
def mapOb (kvs : KVs) : Obj := .map (mkEs kvs) kvs.length
def findI (q : Int) : KVs → Nat → Option (Nat × Value)
  | [], _ => none
  | p :: r, j => if q = p.1 then some (j, p.2) else findI q r (j + 1)
def lookI (kvs : KVs) (q : Int) : Option Value := (findI q kvs 0).map (·.2)
theorem mkEs_nil : mkEs [] = #[] := rfl
theorem mkEs_size (kvs : KVs) : (mkEs kvs).size = kvs.length := by simp [mkEs]
theorem mkEs_get (kvs : KVs) (i : Nat) : (mkEs kvs)[i]? = (kvs[i]?).map fun p => entO (p, i) := by
  simp [mkEs, List.getElem?_zipIdx]
  cases kvs[i]? <;> simp
theorem mkEs_snoc (kvs : KVs) (p : Int × Value) : mkEs (kvs ++ [p]) = (mkEs kvs).push (entO (p, kvs.length)) := by
  simp [mkEs, List.zipIdx_append]
theorem findNow_mk (q : Int) : ∀ (kvs : KVs) (s j : Nat), Instr.findNow (.int .i64) (.int .i64 q) ((kvs.zipIdx s).map entO) j = some (findI q kvs j)
  | [], _, _ => rfl
  | p :: r, s, j => by
    rw [List.zipIdx_cons, List.map_cons]
    simp only [Instr.findNow, entO, Instr.sameNow, if_true, findI]
    by_cases h : q = p.1
    · simp [h]
    · have : (q == p.1) = false := by simpa using h
      rw [this, if_neg h]
      exact findNow_mk q r (s + 1) (j + 1)
theorem findI_some {q : Int} : ∀ {kvs : KVs} {j i : Nat} {v : Value}, findI q kvs j = some (i, v) → j ≤ i ∧ kvs[i - j]? = some (q, v) ∧ ∀ k, k < i - j → ∀ p, kvs[k]? = some p → p.1 ≠ q
  | [], _, _, _, h => by simp [findI] at h
  | p :: r, j, i, v, h => by
    simp only [findI] at h
    by_cases e : q = p.1
    · rw [if_pos e] at h
      cases h
      refine ⟨Nat.le_refl _, ?_, fun k hk => by omega⟩
      rw [Nat.sub_self]
      simp [e]
    · rw [if_neg e] at h
      obtain ⟨h1, h2, h3⟩ := findI_some h
      refine ⟨by omega, ?_, fun k hk p' hp' => ?_⟩
      · rw [show i - j = (i - (j + 1)) + 1 by omega]; simpa using h2
      · cases k with
        | zero => simp at hp'; subst hp'; exact fun e' => e e'.symm
        | succ k => exact h3 k (by omega) p' (by simpa using hp')
theorem findI_none {q : Int} : ∀ {kvs : KVs} {j : Nat}, findI q kvs j = none → ∀ p ∈ kvs, p.1 ≠ q
  | [], _, _, p, hp => by cases hp
  | a :: r, j, h, p, hp => by
    simp only [findI] at h
    by_cases e : q = a.1
    · rw [if_pos e] at h; cases h
    · rw [if_neg e] at h
      rcases List.mem_cons.1 hp with h' | h'
      · subst h'; exact fun e' => e e'.symm
      · exact findI_none h p h'
theorem lookI_none {kvs : KVs} {q : Int} (h : lookI kvs q = none) : ∀ p ∈ kvs, p.1 ≠ q := by
  unfold lookI at h
  cases hf : findI q kvs 0 with
  | none => exact findI_none hf
  | some p => rw [hf] at h; cases h
theorem lookI_some {kvs : KVs} {q : Int} {v : Value} (h : lookI kvs q = some v) : (q, v) ∈ kvs := by
  unfold lookI at h
  cases hf : findI q kvs 0 with
  | none => rw [hf] at h; cases h
  | some p =>
    obtain ⟨i, u⟩ := p
    rw [hf] at h
    cases h
    obtain ⟨_, h2, _⟩ := findI_some hf
    exact List.mem_of_getElem? h2
theorem lookI_isSome {kvs : KVs} {q : Int} : (lookI kvs q).isSome = true ↔ q ∈ kvs.map (·.1) := by
  cases h : lookI kvs q with
  | none =>
    simp only [Option.isSome_none, Bool.false_eq_true, false_iff]
    intro hm
    obtain ⟨p, hp, e⟩ := List.mem_map.1 hm
    exact lookI_none h p hp e
  | some v =>
    simp only [Option.isSome_some, true_iff]
    exact List.mem_map.2 ⟨_, lookI_some h, rfl⟩
theorem lookI_mem {kvs : KVs} {q : Int} {v : Value} (hn : (kvs.map (·.1)).Nodup) (h : (q, v) ∈ kvs) : lookI kvs q = some v := by
  cases hl : lookI kvs q with
  | none => exact absurd rfl (lookI_none hl _ h)
  | some u =>
    have := lookI_some hl
    have e := nodup_map_inj hn h this rfl
    cases e; rfl
/-- A store. -/
def setI (kvs : KVs) (q : Int) (v : Value) : KVs := match findI q kvs 0 with
  | some (i, _) => kvs.set i (q, v)
  | none => kvs ++ [(q, v)]
theorem setI_keys {kvs : KVs} (q : Int) (v : Value) (hn : (kvs.map (·.1)).Nodup) : ((setI kvs q v).map (·.1)).Nodup := by
  unfold setI
  cases h : findI q kvs 0 with
  | none =>
    simp only
    rw [List.map_append, List.nodup_append]
    refine ⟨hn, by simp, ?_⟩
    intro a ha b hb e
    simp at hb
    obtain ⟨p, hp, e2⟩ := List.mem_map.1 ha
    exact findI_none h p hp (by rw [e2, e, hb])
  | some p =>
    obtain ⟨i, u⟩ := p
    obtain ⟨_, h2, _⟩ := findI_some h
    simp only
    have : (kvs.set i (q, v)).map (·.1) = kvs.map (·.1) := by
      rw [List.map_set]
      apply List.ext_getElem?
      intro k
      rw [List.getElem?_set]
      split
      · rename_i e
        subst e
        simp only [Nat.sub_zero] at h2
        rw [List.getElem?_map, h2]
        have : i < kvs.length := (List.getElem?_eq_some_iff.1 h2).1
        simp [this]
      · rfl
    rw [this]; exact hn
theorem setI_mem {kvs : KVs} {q : Int} {v : Value} (hn : (kvs.map (·.1)).Nodup) {p : Int × Value} : p ∈ setI kvs q v ↔ p = (q, v) ∨ (p.1 ≠ q ∧ p ∈ kvs) := by
  unfold setI
  cases h : findI q kvs 0 with
  | none =>
    simp only [List.mem_append, List.mem_singleton]
    constructor
    · rintro (h1 | h1)
      · exact .inr ⟨findI_none h p h1, h1⟩
      · exact .inl h1
    · rintro (h1 | h1)
      · exact .inr h1
      · exact .inl h1.2
  | some r =>
    obtain ⟨i, u⟩ := r
    obtain ⟨_, h2, h3⟩ := findI_some h
    simp only [Nat.sub_zero] at h2
    have hi : i < kvs.length := (List.getElem?_eq_some_iff.1 h2).1
    have hge : kvs[i] = (q, u) := by simpa [hi] using h2
    simp only
    constructor
    · intro hm
      obtain ⟨k, hk, e⟩ := List.getElem_of_mem hm
      rw [List.getElem_set] at e
      split at e
      · exact .inl e.symm
      · rename_i hne
        have hk' : k < kvs.length := by simpa using hk
        refine .inr ⟨fun e2 => hne ?_, e ▸ List.getElem_mem _⟩
        have a1 : (kvs.map (·.1))[k]'(by simpa using hk') = (kvs.map (·.1))[i]'(by simpa using hi) := by
          simp only [List.getElem_map]
          rw [e, e2, hge]
        have hpw := List.pairwise_iff_getElem.1 hn
        rcases Nat.lt_trichotomy i k with h | h | h
        · exact absurd a1.symm (hpw i k (by simpa using hi) (by simpa using hk') h)
        · exact h
        · exact absurd a1 (hpw k i (by simpa using hk') (by simpa using hi) h)
    · rintro (h1 | ⟨h1, h2'⟩)
      · subst h1
        exact List.mem_iff_getElem.2 ⟨i, by simpa using hi, by simp⟩
      · obtain ⟨k, hk, e⟩ := List.getElem_of_mem h2'
        refine List.mem_iff_getElem.2 ⟨k, by simpa using hk, ?_⟩
        rw [List.getElem_set_ne]
        · exact e
        · intro e2
          subst e2
          rw [hge] at e
          rw [← e] at h1
          exact h1 rfl
theorem lookI_setI {kvs : KVs} {q q' : Int} {v : Value} (hn : (kvs.map (·.1)).Nodup) : lookI (setI kvs q v) q' = if q' = q then some v else lookI kvs q' := by
  by_cases e : q' = q
  · rw [if_pos e, e]
    exact lookI_mem (setI_keys q v hn) ((setI_mem hn).2 (.inl rfl))
  · rw [if_neg e]
    cases h : lookI kvs q' with
    | none =>
      cases h2 : lookI (setI kvs q v) q' with
      | none => rfl
      | some u =>
        rcases (setI_mem hn).1 (lookI_some h2) with h3 | ⟨_, h3⟩
        · cases h3; exact absurd rfl e
        · exact absurd rfl (lookI_none h _ h3)
    | some u => exact lookI_mem (setI_keys q v hn) ((setI_mem hn).2 (.inr ⟨e, lookI_some h⟩))
section
variable {P : Program} {n : Nat} {c : Cx} {Q : Exit → Act → World → Prop} {l : KL} {hl : HL} {H : View} {keep : HL} {fin : Bool}
variable {ol : List Oper} {ops : Array Oper} {rest : List Oper} {R : List Nat} {T : ST} {d i : Nat} {ty : TypeId} {pos : String} {aft : Array Edge} {g : Option (Nat × Bool)}
theorem run_checkKey_int {kt : TypeId} (hk : P.underlying kt = some (.int .i64)) (emp : Bool) (q : Int) (w : World) : (Instr.checkKey emp 10000 kt (.int .i64 q)).run P w = .ok () w := by
  show (Instr.checkKey emp (9999 + 1) kt (.int .i64 q)).run P w = _
  rw [Instr.checkKey, Sem.run_bind, run_underlying hk]
  rfl
theorem run_findKey_int {kt : TypeId} (hk : P.underlying kt = some (.int .i64)) (q : Int) (kvs : KVs) (w : World) : (Instr.findKey kt (.int .i64 q) (mkEs kvs).toList).run P w = .ok (findI q kvs 0) w := by
  have : (mkEs kvs).toList = (kvs.zipIdx 0).map entO := by simp [mkEs]
  rw [this]
  simp [Instr.findKey, run_underlying hk, findNow_mk]
/-- In the view, or owned. -/
def MapAt (H : View) (hl : HL) (b : Nat) (kvs : KVs) : Prop := H b = some (mapOb kvs) ∨ blk b (mapOb kvs) ∈ hl
theorem MapAt.heap {b : Nat} {kvs : KVs} (h : MapAt H hl b kvs) {w : World} (hw : Has w H hl) : w.heap[b]? = some (mapOb kvs) := by
  rcases h with h | h
  · exact hw.has _ _ h
  · exact hw.own _ h
theorem R_lookI {t kt et : TypeId} {x y : Operand} {b : Nat} {kvs : KVs} {q : Int} {ok : Bool} {z : Value} (ht : P.underlying t = some (.map kt et)) (hk : P.underlying kt = some (.int .i64)) (hz : zeroOk P et z)
    (hx : ev l x = some (mp b)) (hy : ev l y = some (.int .i64 q)) (hm : MapAt H hl b kvs) :
    ValOk P l H hl (.lookup t x y ok) ty (if ok then .tuple #[(lookI kvs q).getD z, .bool (lookI kvs q).isSome] else (lookI kvs q).getD z) := by
  intro e w hkn hw
  have hb' := hm.heap hw
  simp only [ex, execOp, hkn x _ hx, hkn y _ hy, Sem.run_bind, Instr.lookup, run_underlying ht, Result.andThen_ok, mp, MapKept.run_getObj_map hb', Sem.run_pure, run_checkKey_int hk, run_findKey_int hk, lookI]
  cases findI q kvs 0 with
  | none => cases ok <;> simp [hz.run w]
  | some p => cases ok <;> simp
theorem R_lookT {t kt et : TypeId} {x y : Operand} {b : Nat} {kvs : KVs} {q : Int} {z v : Value} (ht : P.underlying t = some (.map kt et)) (hk : P.underlying kt = some (.int .i64)) (hz : zeroOk P et z)
    (hx : ev l x = some (mp b)) (hy : ev l y = some (.int .i64 q)) (hm : MapAt H hl b kvs) (hv : .tuple #[(lookI kvs q).getD z, .bool (lookI kvs q).isSome] = v) : ValOk P l H hl (.lookup t x y true) ty v :=
  hv ▸ R_lookI (ok := true) ht hk hz hx hy hm
theorem R_lookV {t kt et : TypeId} {x y : Operand} {b : Nat} {kvs : KVs} {q : Int} {z v : Value} (ht : P.underlying t = some (.map kt et)) (hk : P.underlying kt = some (.int .i64)) (hz : zeroOk P et z)
    (hx : ev l x = some (mp b)) (hy : ev l y = some (.int .i64 q)) (hm : MapAt H hl b kvs) (hv : (lookI kvs q).getD z = v) : ValOk P l H hl (.lookup t x y false) ty v :=
  hv ▸ R_lookI (ok := false) ht hk hz hx hy hm
theorem run_setMap {w : World} {b : Nat} {es : Array MapEntry} {clk : Nat} (hb : w.heap[b]? = some (.map es clk)) (o' : Obj) : (setObj b o').run P w = .ok () (w.putObj b o') := by simp [setObj, Sem.run, hb, World.putObj]
theorem ok_put {w : World} {b : Nat} {o : Obj} (o' : Obj) (hw : Has w H [blk b o]) : Ok ⟨w, H, feet [blk b o]⟩ (w.putObj b o') H [blk b o'] := Ok.put o' hw.ok
theorem sameBits_int (q : Int) : Instr.sameBits 10000 (.int .i64 q) (.int .i64 q) = true := by
  show Instr.sameBits (9999 + 1) _ _ = _
  simp [Instr.sameBits]
theorem mkEs_set {kvs : KVs} {i : Nat} {q : Int} {v : Value} (hi : i < kvs.length) : mkEs (kvs.set i (q, v)) = (mkEs kvs).modify i fun e => { e with key := .int .i64 q, val := v } := by
  apply Array.ext_getElem?
  intro k
  rw [mkEs_get, Array.getElem?_modify, mkEs_get, List.getElem?_set]
  by_cases e : i = k
  · subst e
    simp [hi, entO]
  · simp [e]
theorem E_mapSet {t kt et : TypeId} {x y z : Operand} {b : Nat} {kvs : KVs} {q : Int} {val : Value} (ht : P.underlying t = some (.map kt et)) (hk : P.underlying kt = some (.int .i64))
    (hx : ev l x = some (mp b)) (hy : ev l y = some (.int .i64 q)) (hz : ev l z = some val) :
    Eff P l H [blk b (mapOb kvs)] (.mapUpdate t x y z) ty fun _ H' r => ∃ en', r = [en'] ∧ (H' = H ∧ en' = blk b (mapOb (setI kvs q val))) := by
  intro e w hkn hw
  have hb : w.heap[b]? = some (.map (mkEs kvs) kvs.length) := hw.own (blk b (mapOb kvs)) (by simp)
  have hrun : (ex e (.mapUpdate t x y z) ty).run P w = .ok .skip (w.putObj b (mapOb (setI kvs q val))) := by
    simp only [ex, execOp, hkn x _ hx, hkn y _ hy, hkn z _ hz, Sem.run_bind, Instr.mapUpdate, run_underlying ht, Result.andThen_ok, mp, MapKept.run_getObj_map hb, Sem.run_pure, run_checkKey_int hk, run_findKey_int hk]
    unfold setI
    cases hf : findI q kvs 0 with
    | none =>
      simp only [run_setMap hb, Result.andThen_ok, mapOb, mkEs_snoc, entO, List.length_append, List.length_singleton]
    | some p =>
      obtain ⟨i, u⟩ := p
      obtain ⟨_, h2, _⟩ := findI_some hf
      simp only [Nat.sub_zero] at h2
      have hi : i < kvs.length := (List.getElem?_eq_some_iff.1 h2).1
      have hkey : (((mkEs kvs)[i]?).map (·.key)).getD (.int .i64 q) = .int .i64 q := by rw [mkEs_get, h2]; rfl
      simp only [hkey, Instr.keyThatStays, sameBits_int, if_true, Sem.run_bind, Sem.run_pure, Result.andThen_ok, run_setMap hb, mapOb, mkEs_set hi, List.length_set]
  rw [hrun]
  exact ⟨H, _, ok_put _ hw, _, rfl, rfl, rfl⟩
theorem K_mapSet {t kt et : TypeId} {x y z : Operand} {b : Nat} {kvs : KVs} {q : Int} {val : Value} (ht : P.underlying t = some (.map kt et)) (hk : P.underlying kt = some (.int .i64)) (j : Nat)
    (hx : ev l x = some (mp b)) (hy : ev l y = some (.int .i64 q)) (hz : ev l z = some val) (hj : hl[j]? = some (blk b (mapOb kvs)))
    (h : KO P n c ops Q rest l (hl.set j (blk b (mapOb (setI kvs q val)))) H) : KO P n c ops Q (⟨none, .mapUpdate t x y z, ty, pos, aft, none⟩ :: rest) l hl H :=
  KE1_ j hj (E_mapSet ht hk hx hy hz) (by rintro v H' en' _ ⟨rfl, rfl⟩; exact h)
theorem D_lastSet {t kt et : TypeId} {x y z : Operand} {b : Nat} {kvs : KVs} {q : Int} {val : Value} (ht : P.underlying t = some (.map kt et)) (hk : P.underlying kt = some (.int .i64)) (j : Nat)
    (hi : nthO ol i = some ⟨none, .mapUpdate t x y z, ty, pos, aft, g⟩) (hw : wlO ol l g = some true)
    (hx : ev l x = some (mp b)) (hy : ev l y = some (.int .i64 q)) (hz : ev l z = some val) (hj : hl[j]? = some (blk b (mapOb kvs)))
    (h : KQ n c Q .normal l (hl.set j (blk b (mapOb (setI kvs q val)))) H) : KD P n ol.toArray keep true (TQ n c Q) [i] l hl H :=
  D_last [_] (hl.eraseIdx j) hi hw rfl (perm_erase hj) (E_mapSet ht hk hx hy hz) (by
    rintro v H' q' _ ⟨en', rfl, rfl, rfl⟩
    exact fun ρ w hm ho => h ρ w hm (ho.perm (perm_set hj)))
/-! ### out[k] = f(out[k]) -/
def entI (kvs : KVs) (q : Int) (z : Value) : KVs := match findI q kvs 0 with
  | some _ => kvs
  | none => kvs ++ [(q, z)]
def idxI (kvs : KVs) (q : Int) : Nat := match findI q kvs 0 with
  | some (i, _) => i
  | none => kvs.length
theorem E_mapEntry {t kt et : TypeId} {x y : Operand} {b : Nat} {kvs : KVs} {q : Int} {z : Value} (ht : P.underlying t = some (.map kt et)) (hk : P.underlying kt = some (.int .i64)) (hz : zeroOk P et z)
    (hx : ev l x = some (mp b)) (hy : ev l y = some (.int .i64 q)) :
    Eff P l H [blk b (mapOb kvs)] (.mapEntry t x y) ty fun v H' r => ∃ en', r = [en'] ∧ (v = .tuple #[(lookI kvs q).getD z, .int .i64 (idxI kvs q : Int)] ∧ H' = H ∧ en' = blk b (mapOb (entI kvs q z))) := by
  intro e w hkn hw
  have hb : w.heap[b]? = some (.map (mkEs kvs) kvs.length) := hw.own (blk b (mapOb kvs)) (by simp)
  have hrun : (ex e (.mapEntry t x y) ty).run P w = .ok (.value (.tuple #[(lookI kvs q).getD z, .int .i64 (idxI kvs q : Int)])) (w.putObj b (mapOb (entI kvs q z))) := by
    simp only [ex, execOp, hkn x _ hx, hkn y _ hy, Sem.run_bind, Instr.mapEntry, run_underlying ht, Result.andThen_ok, mp, MapKept.run_getObj_map hb, Sem.run_pure, run_checkKey_int hk, run_findKey_int hk]
    unfold entI idxI lookI
    cases hf : findI q kvs 0 with
    | none =>
      simp only [hz.run w, run_setMap hb, Result.andThen_ok, mapOb, mkEs_snoc, entO, List.length_append, List.length_singleton, Sem.run_pure, Option.map_none, Option.getD_none, Sem.run_bind, goInt]
    | some p =>
      obtain ⟨i, u⟩ := p
      obtain ⟨_, h2, _⟩ := findI_some hf
      simp only [Nat.sub_zero] at h2
      have hi : i < kvs.length := (List.getElem?_eq_some_iff.1 h2).1
      have hkey : (((mkEs kvs)[i]?).map (·.key)).getD (.int .i64 q) = .int .i64 q := by rw [mkEs_get, h2]; rfl
      have hbn : (((mkEs kvs)[i]?).map fun e => (e.born : Int)).getD 0 = (i : Int) := by rw [mkEs_get, h2]; rfl
      have hsame : ((mkEs kvs).modify i fun e => { e with key := .int .i64 q }) = mkEs kvs := by
        apply Array.ext_getElem?
        intro k
        rw [Array.getElem?_modify]
        by_cases e : i = k
        · subst e
          rw [mkEs_get, h2]
          simp [entO]
        · simp [e]
      simp only [hkey, hbn, Instr.keyThatStays, sameBits_int, if_true, Sem.run_pure, Result.andThen_ok, run_setMap hb, mapOb, hsame, Sem.run_bind, goInt, Option.map_some, Option.getD_some]
  rw [hrun]
  exact ⟨H, _, ok_put _ hw, _, rfl, rfl, rfl, rfl⟩
theorem K_mapEntry {t kt et : TypeId} {x y : Operand} {b : Nat} {kvs : KVs} {q : Int} {z : Value} (ht : P.underlying t = some (.map kt et)) (hk : P.underlying kt = some (.int .i64)) (hz : zeroOk P et z) (j : Nat)
    (hx : ev l x = some (mp b)) (hy : ev l y = some (.int .i64 q)) (hj : hl[j]? = some (blk b (mapOb kvs))) (hdn : Nat.blt d n = true)
    (h : KO P n c ops Q rest ((d, .tuple #[(lookI kvs q).getD z, .int .i64 (idxI kvs q : Int)]) :: l) (hl.set j (blk b (mapOb (entI kvs q z)))) H) : KO P n c ops Q (⟨some d, .mapEntry t x y, ty, pos, aft, none⟩ :: rest) l hl H :=
  KE1 j hj (E_mapEntry ht hk hz hx hy) hdn (by rintro v H' en' _ ⟨rfl, rfl, rfl⟩; exact h)
theorem findIdx_mk {kvs : KVs} {i : Nat} (hi : i < kvs.length) : (mkEs kvs).findIdx? (fun e => (e.born : Int) == (i : Int)) = some i := by
  have hlt : i < (mkEs kvs).size := by rw [mkEs_size]; exact hi
  have hget : ∀ k (h : k < (mkEs kvs).size), (mkEs kvs)[k].born = k := by
    intro k h
    have h2 := mkEs_get kvs k
    rw [Array.getElem?_eq_getElem h] at h2
    have h3 : k < kvs.length := by rw [mkEs_size] at h; exact h
    rw [List.getElem?_eq_getElem h3] at h2
    simp at h2
    rw [h2]; rfl
  rw [Array.findIdx?_eq_some_iff_getElem]
  refine ⟨hlt, by rw [hget i hlt]; simp, fun j hj => ?_⟩
  have hj' : j < (mkEs kvs).size := by omega
  rw [hget j hj']
  simp
  omega
theorem E_entryStore {t kt et : TypeId} {x y z : Operand} {b i : Nat} {kvs : KVs} {q : Int} {u val : Value} (_ht : P.underlying t = some (.map kt et))
    (hx : ev l x = some (mp b)) (hy : ev l y = some (.int .i64 (i : Int))) (hz : ev l z = some val) (hi : kvs[i]? = some (q, u)) :
    Eff P l H [blk b (mapOb kvs)] (.entryStore t x y z) ty fun _ H' r => ∃ en', r = [en'] ∧ (H' = H ∧ en' = blk b (mapOb (kvs.set i (q, val)))) := by
  intro e w hkn hw
  have hb : w.heap[b]? = some (.map (mkEs kvs) kvs.length) := hw.own (blk b (mapOb kvs)) (by simp)
  have hlt : i < kvs.length := (List.getElem?_eq_some_iff.1 hi).1
  have hset : ((mkEs kvs).modify i fun e => { e with val := val }) = mkEs (kvs.set i (q, val)) := by
    rw [mkEs_set hlt]
    apply Array.ext_getElem?
    intro k
    rw [Array.getElem?_modify, Array.getElem?_modify]
    by_cases e : i = k
    · subst e
      rw [mkEs_get, hi]
      simp [entO]
    · simp [e]
  have hrun : (ex e (.entryStore t x y z) ty).run P w = .ok .skip (w.putObj b (mapOb (kvs.set i (q, val)))) := by
    simp only [ex, execOp, hkn x _ hx, hkn y _ hy, hkn z _ hz, Sem.run_bind, Instr.entryStore, Result.andThen_ok, mp, MapKept.run_getObj_map hb, Sem.run_pure, asInt, asIntOf, findIdx_mk hlt, run_setMap hb, mapOb, hset, List.length_set]
  rw [hrun]
  exact ⟨H, _, ok_put _ hw, _, rfl, rfl, rfl⟩
theorem K_entryStore {t kt et : TypeId} {x y z : Operand} {b i : Nat} {kvs : KVs} {q : Int} {u val : Value} (ht : P.underlying t = some (.map kt et)) (j : Nat)
    (hx : ev l x = some (mp b)) (hy : ev l y = some (.int .i64 (i : Int))) (hz : ev l z = some val) (hi : kvs[i]? = some (q, u)) (hj : hl[j]? = some (blk b (mapOb kvs)))
    (h : KO P n c ops Q rest l (hl.set j (blk b (mapOb (kvs.set i (q, val))))) H) : KO P n c ops Q (⟨none, .entryStore t x y z, ty, pos, aft, none⟩ :: rest) l hl H :=
  KE1_ j hj (E_entryStore ht hx hy hz hi) (by rintro v H' en' _ ⟨rfl, rfl⟩; exact h)
theorem entI_idx {kvs : KVs} (q : Int) (z : Value) : (entI kvs q z)[idxI kvs q]? = some (q, (lookI kvs q).getD z) := by
  unfold entI idxI lookI
  cases hf : findI q kvs 0 with
  | none => simp
  | some p =>
    obtain ⟨i, u⟩ := p
    obtain ⟨_, h2, _⟩ := findI_some hf
    simpa using h2
theorem entI_set {kvs : KVs} (q : Int) (z v : Value) : (entI kvs q z).set (idxI kvs q) (q, v) = setI kvs q v := by
  unfold entI idxI setI
  cases hf : findI q kvs 0 with
  | none => simp
  | some p => rfl
/-! ### Ranges -/
def itO (m : Nat) (k : Nat) (seen : List Nat) : Obj := .mapIter (some m) k seen.toArray k
theorem E_range {t kt et : TypeId} {x : Operand} {m : Nat} {kvs : KVs} (ht : P.underlying t = some (.map kt et)) (hx : ev l x = some (mp m)) (hm : ∀ w, Has w H hl → w.heap[m]? = some (mapOb kvs)) :
    Eff P l H hl (.range t x) ty fun v H' r => ∃ b, v = ptr b ∧ H' = H ∧ r = blk b (itO m kvs.length []) :: hl := by
  intro e w hkn hw
  have hb : w.heap[m]? = some (.map (mkEs kvs) kvs.length) := hm w hw
  have hrun : (ex e (.range t x) ty).run P w = .ok (.value (ptr w.heap.size)) (w.alloc (itO m kvs.length [])) := by
    simp only [ex, execOp, hkn x _ hx, Sem.run_bind, Instr.range, run_underlying ht, Result.andThen_ok, mp, MapKept.run_getObj_map hb, Sem.run_pure, newObj, Sem.run]
    rfl
  rw [hrun]
  exact ⟨H, _, hw.ok.alloc _, _, rfl, rfl, rfl⟩
theorem E_next {xo : Operand} {b m : Nat} {kvs : KVs} {seen : List Nat} {p : HL} (hx : ev l xo = some (ptr b)) (hm : ∀ w, Has w H (blk b (itO m kvs.length seen) :: p) → w.heap[m]? = some (mapOb kvs)) :
    Eff P l H (blk b (itO m kvs.length seen) :: p) (.next xo false) ty fun v H' r => H' = H ∧
      ((v = .tuple #[.bool false] ∧ r = blk b (itO m kvs.length seen) :: p ∧ ∀ i, i < kvs.length → i ∈ seen) ∨
       ∃ (i : Nat) (q : Int) (u : Value), kvs[i]? = some (q, u) ∧ i ∉ seen ∧ v = .tuple #[.bool true, .int .i64 q, u] ∧ r = blk b (itO m kvs.length (seen ++ [i])) :: p) := by
  intro e w hkn hw
  have hb : w.heap[b]? = some (.mapIter (some m) kvs.length seen.toArray kvs.length) := hw.own (blk b (itO m kvs.length seen)) (by simp)
  have hmm : w.heap[m]? = some (.map (mkEs kvs) kvs.length) := hm w hw
  have hborn : ∀ x ∈ (mkEs kvs).toList, ∃ i q u, kvs[i]? = some (q, u) ∧ x = ⟨.int .i64 q, u, i⟩ := by
    intro x hx
    obtain ⟨i, hi⟩ := List.mem_iff_getElem?.1 hx
    have h2 := mkEs_get kvs i
    rw [Array.getElem?_toList] at hi
    rw [hi] at h2
    cases hk : kvs[i]? with
    | none => rw [hk] at h2; cases h2
    | some p =>
      rw [hk] at h2
      exact ⟨i, p.1, p.2, by rw [hk], by simpa [entO] using h2⟩
  have hold : ∀ x ∈ (mkEs kvs).toList, x.born < kvs.length := by
    intro x hx
    obtain ⟨i, q, u, h1, rfl⟩ := hborn x hx
    exact (List.getElem?_eq_some_iff.1 h1).1
  rcases run_next_at (P := P) w ty b m kvs.length kvs.length seen.toArray (mkEs kvs) kvs.length hb hmm hold (Nat.le_refl _) with ⟨h0, hr⟩ | ⟨x, hx2, w1, hw1, hr⟩
  · have hrun : (ex e (.next xo false) ty).run P w = .ok (.value (.tuple #[.bool false])) w := by
      simp only [ex, execOp, hkn xo _ hx, ptr, Sem.run_bind, hr, Result.andThen_ok, Sem.run_pure]
    rw [hrun]
    refine ⟨H, _, hw.ok, rfl, .inl ⟨rfl, rfl, fun i hi => ?_⟩⟩
    have he : leftOf (mkEs kvs) seen.toArray = #[] := Array.eq_empty_of_size_eq_zero h0
    unfold leftOf at he
    rw [Array.filter_eq_empty_iff] at he
    have hg : (mkEs kvs)[i]? = some (entO (kvs[i], i)) := by rw [mkEs_get, List.getElem?_eq_getElem hi]; rfl
    have := he _ (Array.mem_of_getElem? hg)
    simpa [entO] using this
  · have hin : x ∈ (mkEs kvs).toList ∧ ¬ x.born ∈ seen := by
      unfold leftOf at hx2
      simpa using hx2
    obtain ⟨i, q, u, h1, rfl⟩ := hborn x hin.1
    have hsb : ChangeMaps.setBlock w1 b (.mapIter (some m) kvs.length (seen.toArray.push i) kvs.length) = w1.putObj b (itO m kvs.length (seen ++ [i])) := by
      simp [ChangeMaps.setBlock, World.putObj, itO]
    have hrun : (ex e (.next xo false) ty).run P w = .ok (.value (.tuple #[.bool true, .int .i64 q, u])) (w1.putObj b (itO m kvs.length (seen ++ [i]))) := by
      simp only [ex, execOp, hkn _ _ hx, ptr, Sem.run_bind, hr, Result.andThen_ok, Sem.run_pure, hsb]
    rw [hrun]
    have hw2 : Ok ⟨w, H, feet (blk b (itO m kvs.length seen) :: p)⟩ w1 H (blk b (itO m kvs.length seen) :: p) := by
      rcases hw1 with rfl | rfl
      · exact hw.ok
      · exact hw.ok.drew
    exact ⟨H, _, hw2.put _, rfl, .inr ⟨i, q, u, h1, hin.2, rfl, rfl⟩⟩
end
end Pal
