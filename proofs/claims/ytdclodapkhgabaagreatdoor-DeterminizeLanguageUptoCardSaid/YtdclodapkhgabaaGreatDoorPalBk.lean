/-
  Rules by their symbol in a map. Own work. No statement of the seat is proved here.
-/
import Derived.Test.YtdclodapkhgabaaGreatDoorPalAu
namespace Pal
open Go
section
variable {P : Program} {l : KL} {hl : HL} {H : View} {ty : TypeId} {v : Value}
def fldTOk (P : Program) (t : TypeId) (i o : Nat) (ft : TypeId) : Bool :=
  match P.underlying t with
  | some (.struct fs) => match fs[i]? with
    | some f => Nat.beq f.offset o && Nat.beq f.type ft
    | none => false
  | _ => false
theorem R_fieldC {t ft : TypeId} {x : Operand} {i o : Nat} {cs : Array Value} (hF : fldTOk P t i o ft = true) (hT : Ty P ft false 1) (hx : ev l x = some (.agg cs)) (hv : cs[o]? = some v) : ValOk P l H hl (.field t x i) ty v := by
  intro e w hk _
  unfold fldTOk at hF
  split at hF
  · rename_i fs hfs
    split at hF
    · rename_i f hf
      simp only [Bool.and_eq_true] at hF
      have h1 := Nat.eq_of_beq_eq_true hF.1
      have h2 := Nat.eq_of_beq_eq_true hF.2
      simp only [ex, execOp, hk x _ hx, Instr.field, Sem.run_bind, run_underlying hfs, Result.andThen_ok, hf, asAgg, Sem.run_pure, part, h1, h2, hT.run_isAgg, Bool.false_eq_true, if_false, hv]
    · cases hF
  · cases hF
end
def symR (rs : List Rl) (q : Int) : List Rl := rs.filter fun r => decide (r.sym = q)
theorem symR_snoc {rs : List Rl} {k : Nat} (hk : k < rs.length) (q : Int) : symR (rs.take (k + 1)) q = symR (rs.take k) q ++ if rs[k].sym = q then [rs[k]] else [] := by
  unfold symR
  rw [List.take_succ_eq_append_getElem hk, List.filter_append]
  congr 1
  by_cases h : rs[k].sym = q <;> simp [h]
/-- A slice that holds these rules. -/
def RulesAt (H : View) (v : Value) (rs : List Rl) : Prop := ∃ ps, ps.map (·.1) = rs ∧ (∃ a cap, v = .slice a ps.length cap) ∧ SlAt H v ps.length (cellsP ps) ∧ ∀ p ∈ ps, RVok H p
theorem RulesAt.mono {H H' : View} {v : Value} {rs : List Rl} (h : RulesAt H v rs) (hle : VLe H H') : RulesAt H' v rs := by
  obtain ⟨ps, h1, h2, h3, h4⟩ := h
  exact ⟨ps, h1, h2, h3.mono hle, fun p hp => (h4 p hp).mono hle⟩
theorem RulesAt.nil (H : View) : RulesAt H nilS [] := ⟨[], rfl, ⟨none, 0, rfl⟩, ⟨none, 0, rfl, .inl ⟨rfl, rfl⟩⟩, fun p hp => by cases hp⟩
theorem RulesAt.shape {H : View} {v : Value} {rs : List Rl} (h : RulesAt H v rs) : ∃ a cap, v = .slice a rs.length cap := by
  obtain ⟨ps, rfl, ⟨a, cap, rfl⟩, _⟩ := h
  exact ⟨a, cap, by simp⟩
theorem RulesAt.elem {H : View} {a : Option Addr} {k cap : Nat} {rs : List Rl} (h : RulesAt H (.slice a k cap) rs) {i : Nat} (hi : i < rs.length) :
    ∃ b off va, a = some ⟨b, off, none⟩ ∧ At H b (off + i * 3) [.int .i64 rs[i].sym, va, .int .i64 rs[i].to] ∧ RVok H (rs[i], va) := by
  obtain ⟨ps, rfl, ⟨a', cap', e⟩, ⟨a2, c2, e2, h3⟩, h4⟩ := h
  have hi' : i < ps.length := by simpa using hi
  cases e
  cases e2
  rcases h3 with ⟨h3, _⟩ | ⟨b, off, rfl, hA⟩
  · omega
  · refine ⟨b, off, ps[i].2, rfl, ?_, by simpa using h4 _ (List.getElem_mem hi')⟩
    have hg := flat_get (enc := cellRV) cellRV_len ps [] hi' rfl
    simp only [List.append_nil] at hg
    refine hA.sub fun j u hj => ?_
    have hc : (cellRV ps[i])[j]? = some u := by simpa [cellRV] using hj
    rw [← hg, List.getElem?_take] at hc
    split at hc
    · rw [List.getElem?_drop] at hc; exact hc
    · cases hc
theorem At.rules {H : View} {v : Value} {ps : List (Rl × Value)} (h : rowAt H v ps.length (cellsP ps)) (hs : ∃ a cap, v = .slice a ps.length cap) (hp : ∀ p ∈ ps, RVok H p) : RulesAt H v (ps.map (·.1)) := ⟨ps, rfl, hs, h.sl, hp⟩
/-- The book. -/
def BookAt (H : View) (v : Value) (rs : List Rl) : Prop := ∃ b kvs, v = mp b ∧ H b = some (mapOb kvs) ∧ (kvs.map (·.1)).Nodup ∧ ∀ q, RulesAt H ((lookI kvs q).getD nilS) (symR rs q)
theorem BookAt.mono {H H' : View} {v : Value} {rs : List Rl} (h : BookAt H v rs) (hle : VLe H H') : BookAt H' v rs := by
  obtain ⟨b, kvs, h1, h2, h3, h4⟩ := h
  exact ⟨b, kvs, h1, hle _ _ h2, h3, fun q => (h4 q).mono hle⟩
/-- While it is made: what stands in the map for symbols that are done; the symbol at hand, its slice. -/
def curK (cur : Option Int) (w : Value) : KVs := match cur with | none => [] | some s => [(s, w)]
structure BkI (V : View) (rs : List Rl) (k : Nat) (kv0 : KVs) (cur : Option Int) (w : Value) (ps : List (Rl × Value)) : Prop where
  kn : (kv0.map (·.1)).Nodup
  below : ∀ p ∈ kv0, ∀ s, cur = some s → p.1 < s
  emp : cur = none → kv0 = [] ∧ ps = [] ∧ w = nilS ∧ k = 0
  isIn : ∀ s, cur = some s → ∃ r ∈ rs.take k, r.sym = s
  old : ∀ q, cur ≠ some q → RulesAt V ((lookI kv0 q).getD nilS) (symR (rs.take k) q)
  now : ∀ s, cur = some s → ps.map (·.1) = symR (rs.take k) s
  rv : ∀ p ∈ ps, RVok V p
  le : ∀ r ∈ rs.take k, ∀ s, cur = some s → r.sym ≤ s
  len : ps.length ≤ k
theorem ltR_sym {r s : Rl} (h : ltR r s) : r.sym ≤ s.sym := by
  unfold ltR at h
  rw [ordR_lt] at h
  rcases h with h | ⟨h, _⟩ <;> omega
theorem BkI.start (V : View) (rs : List Rl) : BkI V rs 0 [] none nilS [] :=
  ⟨by simp, fun p hp => (by cases hp), fun _ => ⟨rfl, rfl, rfl, rfl⟩, fun s h => (by cases h), fun q _ => by simpa [lookI, findI, symR] using RulesAt.nil V, fun s h => (by cases h), fun p hp => (by cases hp), fun r hr => (by simp at hr), Nat.le_refl _⟩
theorem BkI.keys {V : View} {rs : List Rl} {k : Nat} {kv0 : KVs} {cur : Option Int} {w : Value} {ps : List (Rl × Value)} (h : BkI V rs k kv0 cur w ps) : ((kv0 ++ curK cur w).map (·.1)).Nodup := by
  cases cur with
  | none => simpa [curK] using h.kn
  | some s =>
    simp only [curK, List.map_append, List.map_cons, List.map_nil, List.nodup_append]
    refine ⟨h.kn, by simp, fun a ha b hb e => ?_⟩
    simp at hb
    obtain ⟨p, hp, rfl⟩ := List.mem_map.1 ha
    have := h.below p hp s rfl
    omega
theorem lookI_snoc {kvs : KVs} {s q : Int} {w : Value} (h : ∀ p ∈ kvs, p.1 ≠ s) : lookI (kvs ++ [(s, w)]) q = if q = s then some w else lookI kvs q := by
  unfold lookI
  have : ∀ (l : KVs) (j : Nat), (∀ p ∈ l, p.1 ≠ s) → findI q (l ++ [(s, w)]) j = if q = s then some (j + l.length, w) else findI q l j := by
    intro l
    induction l with
    | nil => intro j _; simp [findI]
    | cons p r ih =>
      intro j hne
      simp only [List.cons_append, findI]
      by_cases e : q = p.1
      · have : q ≠ s := fun e2 => hne p List.mem_cons_self (by omega)
        rw [if_pos e, if_neg this, if_pos e]
      · rw [if_neg e, if_neg e, ih (j + 1) fun x hx => hne x (List.mem_cons_of_mem _ hx)]
        by_cases e2 : q = s
        · rw [if_pos e2, if_pos e2, List.length_cons, Nat.add_assoc, Nat.add_comm 1]
        · rw [if_neg e2, if_neg e2]
  rw [this kvs 0 h]
  by_cases e : q = s <;> simp [e]
/-- Everything that lies in the map once the row at hand is published. -/
theorem BkI.all {V : View} {rs : List Rl} {k : Nat} {kv0 : KVs} {cur : Option Int} {w : Value} {ps : List (Rl × Value)} (h : BkI V rs k kv0 cur w ps) (hw : RulesAt V w (ps.map (·.1))) (q : Int) : RulesAt V ((lookI (kv0 ++ curK cur w) q).getD nilS) (symR (rs.take k) q) := by
  cases cur with
  | none =>
    have := h.old q (by simp)
    simpa [curK] using this
  | some s =>
    show RulesAt V ((lookI (kv0 ++ [(s, w)]) q).getD nilS) _
    rw [lookI_snoc fun p hp => by have := h.below p hp s rfl; omega]
    by_cases e : q = s
    · subst e
      rw [if_pos rfl, ← h.now q rfl]; exact hw
    · rw [if_neg e]
      exact h.old q fun e2 => e (by cases e2; rfl)
/-- The next rule has the symbol at hand. -/
theorem BkI.same {V V' : View} {rs : List Rl} {k : Nat} {kv0 : KVs} {s : Int} {w w' fv : Value} {ps : List (Rl × Value)} (h : BkI V rs k kv0 (some s) w ps) (hle : VLe V V') (hk : k < rs.length) (hs : rs[k].sym = s) (hf : RVok V' (rs[k], fv)) : BkI V' rs (k + 1) kv0 (some s) w' (ps ++ [(rs[k], fv)]) := by
  refine ⟨h.kn, h.below, fun e => (by cases e), fun t ht => ⟨rs[k], by rw [List.take_succ_eq_append_getElem hk]; exact List.mem_append_right _ (List.mem_singleton.2 rfl), by cases ht; exact hs⟩, fun q hq => ?_, fun t ht => ?_, fun p hp => ?_, fun r hr t ht => ?_, by have := h.len; simp; omega⟩
  · rw [symR_snoc hk, if_neg (fun e => hq (by rw [← e, hs])), List.append_nil]
    exact (h.old q hq).mono hle
  · cases ht
    rw [symR_snoc hk, if_pos hs, List.map_append, h.now s rfl]; rfl
  · rcases List.mem_append.1 hp with hp | hp
    · exact (h.rv p hp).mono hle
    · simp at hp; subst hp; exact hf
  · cases ht
    rw [List.take_succ_eq_append_getElem hk] at hr
    rcases List.mem_append.1 hr with hr | hr
    · exact h.le r hr s rfl
    · simp at hr; subst hr; omega
/-- The next rule has another symbol. -/
theorem BkI.new {V V' : View} {rs : List Rl} {k : Nat} {kv0 : KVs} {cur : Option Int} {w w' fv : Value} {ps : List (Rl × Value)} (h : BkI V rs k kv0 cur w ps) (hle : VLe V V') (hw : RulesAt V' w (ps.map (·.1))) (hk : k < rs.length) (hs : cur ≠ some rs[k].sym) (hr : rs.Pairwise ltR) (hf : RVok V' (rs[k], fv)) :
    lookI (kv0 ++ curK cur w) rs[k].sym = none ∧ BkI V' rs (k + 1) (kv0 ++ curK cur w) (some rs[k].sym) w' [(rs[k], fv)] := by
  have hprev : ∀ r ∈ rs.take k, r.sym ≤ rs[k].sym := by
    intro r hr2
    obtain ⟨i, hi, rfl⟩ := List.getElem_of_mem hr2
    have hik : i < k := by rw [List.length_take] at hi; omega
    rw [List.getElem_take]
    exact ltR_sym (List.pairwise_iff_getElem.1 hr i k (by omega) hk hik)
  have hcur : ∀ s, cur = some s → s < rs[k].sym := by
    intro s e
    obtain ⟨r, hr2, rfl⟩ := h.isIn s e
    have h1 := hprev r hr2
    have h2 : r.sym ≠ rs[k].sym := fun e2 => hs (by rw [e, e2])
    omega
  have hall : ∀ p ∈ kv0 ++ curK cur w, p.1 < rs[k].sym := by
    intro p hp
    cases cur with
    | none =>
      have := (h.emp rfl).1
      subst this
      simp [curK] at hp
    | some s =>
      have h1 := hcur s rfl
      rcases List.mem_append.1 hp with hp | hp
      · have := h.below p hp s rfl; omega
      · simp [curK] at hp; subst hp; exact h1
  have hnone : lookI (kv0 ++ curK cur w) rs[k].sym = none := by
    cases hl : lookI (kv0 ++ curK cur w) rs[k].sym with
    | none => rfl
    | some u => have := hall _ (lookI_some hl); dsimp only at this; omega
  refine ⟨hnone, h.keys, fun p hp s e => by cases e; exact hall p hp, fun e => (by cases e), fun t ht => ⟨rs[k], by rw [List.take_succ_eq_append_getElem hk]; exact List.mem_append_right _ (List.mem_singleton.2 rfl), by cases ht; rfl⟩, fun q hq => ?_, fun t ht => ?_, fun p hp => ?_, fun r hr2 t ht => ?_, by simp⟩
  · rw [symR_snoc hk, if_neg (fun e => hq (by rw [e])), List.append_nil]
    have h' : BkI V' rs k kv0 cur w ps := ⟨h.kn, h.below, h.emp, h.isIn, fun q hq => (h.old q hq).mono hle, h.now, fun p hp => (h.rv p hp).mono hle, h.le, h.len⟩
    exact h'.all hw q
  · cases ht
    rw [symR_snoc hk, if_pos rfl]
    have : symR (rs.take k) rs[k].sym = [] := by
      unfold symR
      rw [List.filter_eq_nil_iff]
      intro r hr2
      simp only [decide_eq_true_eq]
      intro e
      cases cur with
      | none => have := (h.emp rfl).2.2.2; subst this; simp at hr2
      | some s => have h1 := h.le r hr2 s rfl; have h2 := hcur s rfl; omega
    rw [this]; rfl
  · simp at hp; subst hp; exact hf
  · cases ht
    rw [List.take_succ_eq_append_getElem hk] at hr2
    rcases List.mem_append.1 hr2 with hr2 | hr2
    · exact hprev r hr2
    · simp at hr2; subst hr2; exact Int.le_refl _
theorem BkI.mono {V V' : View} {rs : List Rl} {k : Nat} {kv0 : KVs} {cur : Option Int} {w : Value} {ps : List (Rl × Value)} (h : BkI V rs k kv0 cur w ps) (hle : VLe V V') : BkI V' rs k kv0 cur w ps :=
  ⟨h.kn, h.below, h.emp, h.isIn, fun q hq => (h.old q hq).mono hle, h.now, fun p hp => (h.rv p hp).mono hle, h.le, h.len⟩
theorem MapAt.at {H : View} {hl : HL} {b : Nat} {kvs : KVs} (i : Nat) (h : hl[i]? = some (blk b (mapOb kvs))) : MapAt H hl b kvs := .inr (List.mem_of_getElem? h)
theorem setI_none {kvs : KVs} {q : Int} {v : Value} (h : lookI kvs q = none) : setI kvs q v = kvs ++ [(q, v)] := by
  unfold setI
  unfold lookI at h
  cases hf : findI q kvs 0 with
  | none => rfl
  | some p => rw [hf] at h; cases h
theorem setI_last {kvs : KVs} {q : Int} {v v' : Value} (h : ∀ p ∈ kvs, p.1 ≠ q) : setI (kvs ++ [(q, v)]) q v' = kvs ++ [(q, v')] := by
  have : ∀ (l : KVs) (j : Nat), (∀ p ∈ l, p.1 ≠ q) → findI q (l ++ [(q, v)]) j = some (j + l.length, v) := by
    intro l
    induction l with
    | nil => intro j _; simp [findI]
    | cons p r ih =>
      intro j hne
      simp only [List.cons_append, findI]
      rw [if_neg (fun e => hne p List.mem_cons_self e.symm), ih (j + 1) fun x hx => hne x (List.mem_cons_of_mem _ hx), List.length_cons, Nat.add_assoc, Nat.add_comm 1]
  unfold setI
  rw [this kvs 0 h]
  simp
theorem RepAu.rules {H : View} {a : Au} {vr vu vf : Value} (h : RepAu H a vr vu vf) : RulesAt H vu a.rules := by
  obtain ⟨cells, hs, hR⟩ := h.u
  have key : ∀ (rs : List Rl) (cells : List Value), RepL (RepR H) 3 rs cells → ∃ ps, ps.map (·.1) = rs ∧ cells = cellsP ps ∧ ∀ p ∈ ps, RVok H p := by
    intro rs cells hR
    induction hR with
    | nil => exact ⟨[], rfl, rfl, fun p hp => by cases hp⟩
    | @cons x cs xs ys hx hl ht ih =>
      obtain ⟨ps, h1, h2, h3⟩ := ih
      obtain ⟨a', cp, e, h4, h5, h6, h7⟩ := hx
      refine ⟨(x, .slice a' x.args.length cp) :: ps, by simp [h1], by rw [h2, e]; rfl, fun p hp => ?_⟩
      rcases List.mem_cons.1 hp with rfl | hp
      · exact ⟨h4, h7, h5, h6⟩
      · exact h3 p hp
  obtain ⟨ps, h1, rfl, h3⟩ := key _ _ hR
  have hl : ps.length = a.rules.length := by rw [← h1]; simp
  obtain ⟨a', cap, e, h4⟩ := hs
  exact ⟨ps, h1, ⟨a', cap, by rw [hl]; exact e⟩, ⟨a', cap, by rw [hl]; exact e, by rw [hl]; exact h4⟩, h3⟩
end Pal
