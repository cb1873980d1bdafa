/-
  Cells, blocks, slices, calls, the end: rules over PalB. Own work. No statement of the seat is proved here.
-/
import Derived.Test.YtglmnochbdpmaaaGreatDoorPalB
namespace Pal
open Go
section rules
variable {P : Program} {n : Nat} {c : Cx} {Q : Exit → Act → World → Prop} {l : KL} {hl : HL} {H : View}
variable {ops : Array Oper} {rest : List Oper} {d : Nat} {v : Value} {op : Op} {ty : TypeId} {pos : String} {aft : Array Edge}

/-! ### Cells -/
/-- In the view, the cells from ⟨b, off⟩ on are vs. -/
def At (H : View) (b off : Nat) (vs : List Value) : Prop := ∃ cs T fz, H b = some (.cells cs T fz) ∧ ∀ j v, vs[j]? = some v → cs[off + j]? = some v
theorem At.mono {H H' : View} {b off : Nat} {vs : List Value} (h : At H b off vs) (hle : VLe H H') : At H' b off vs := by
  obtain ⟨cs, T, fz, h1, h2⟩ := h
  exact ⟨cs, T, fz, hle _ _ h1, h2⟩
theorem At.cell {H : View} {b off : Nat} {vs : List Value} (h : At H b off vs) {w : World} (hh : ∀ b o, H b = some o → w.heap[b]? = some o) :
    ∀ j v, vs[j]? = some v → w.cell? ((⟨b, off, none⟩ : Addr).add j) = some v := by
  obtain ⟨cs, T, fz, h1, h2⟩ := h
  intro j v hj
  rw [addr_add]
  simp [World.cell?, hh _ _ h1, h2 j v hj]
/-- What a load of so many cells makes of them. -/
def mkV (agg : Bool) (vs : List Value) : Value := if agg then .agg vs.toArray else vs.headD undef
theorem run_loadVar {t : TypeId} {agg : Bool} {sz : Nat} (hT : Ty P t agg sz) {b off : Nat} {vs : List Value} (hlen : vs.length = sz) (h1 : agg = false → sz = 1) (w : World)
    (hc : ∀ j v, vs[j]? = some v → w.cell? ((⟨b, off, none⟩ : Addr).add j) = some v) : (loadVar t ⟨b, off, none⟩).run P w = .ok (mkV agg vs) w := by
  cases agg with
  | true =>
    have hl := run_loadCells_list (P := P) w ⟨b, off, none⟩ vs hc
    rw [hlen] at hl
    simp [loadVar, Sem.run_bind, hT.run_isAgg, hT.run_sizeOf, hl, mkV]
  | false =>
    have h1 := h1 rfl
    match vs, hlen with
    | [u], _ =>
      have := hc 0 u rfl
      rw [addr_add] at this
      simp [loadVar, Sem.run_bind, hT.run_isAgg, mkV, run_load]
      simp at this
      rw [this]
    | [], e => simp at e; omega
    | _ :: _ :: _, e => simp at e; omega

theorem R_loadH {t : TypeId} {x : Operand} {agg : Bool} {sz b off : Nat} {vs : List Value} (hT : Ty P t agg sz) (hx : ev l x = some (.pointer (some ⟨b, off, none⟩)))
    (hA : At H b off vs) (hlen : vs.length = sz) (h1 : agg = false → sz = 1) (hv : mkV agg vs = v) : ValOk P l H hl (.load t x) ty (v) :=
  (fun e w hk ho => by
    subst hv
    simp [ex, execOp, hk x _ hx, Instr.loadAt, Instr.sureAddr, run_loadVar hT hlen h1 w (hA.cell ho.1)])
/-- A load out of an owned block. -/
theorem R_loadO {t : TypeId} {x : Operand} {agg : Bool} {sz b off : Nat} {cs : Array Value} {T : TypeId} {fz : Nat × Nat} {vs : List Value} (hT : Ty P t agg sz) (i : Nat) (hx : ev l x = some (.pointer (some ⟨b, off, none⟩)))
    (hi : hl[i]? = some (blk b (.cells cs T fz))) (hvs : (cs.toList.drop off).take sz = vs) (hlen : vs.length = sz) (h1 : agg = false → sz = 1) (hv : mkV agg vs = v) : ValOk P l H hl (.load t x) ty v :=
  (fun e w hk ho => by
    subst hv
    have hb : w.heap[b]? = some (.cells cs T fz) := ho.own _ (List.mem_of_getElem? hi)
    have hc : ∀ j u, vs[j]? = some u → w.cell? ((⟨b, off, none⟩ : Addr).add j) = some u := by
      intro j u hj
      rw [addr_add]
      rw [← hvs, List.getElem?_take] at hj
      split at hj
      · simp [World.cell?, hb]; simpa using hj
      · cases hj
    simp [ex, execOp, hk x _ hx, Instr.loadAt, Instr.sureAddr, run_loadVar hT hlen h1 w hc])

/-! ### New blocks -/
def ptr (b : Nat) : Value := .pointer (some ⟨b, 0, none⟩)
theorem A_alloc {t : TypeId} {z : Value} (hz : zeroOk P t z) : AllocOk P l (.alloc t) ty ptr (.cells z.cells t (0, 0)) := by
  intro e w hk
  simp [ex, execOp, Instr.alloc, hz.run, newVar, newRow, ptr]
theorem A_box {t : TypeId} {x : Operand} (hx : ev l x = some v) : AllocOk P l (.box t x) ty ptr (.cells v.cells t (0, 0)) := by
  intro e w hk
  simp [ex, execOp, Instr.box, hk x v hx, newVar, newRow, ptr]

/-! ### What is filled -/
def putL (cs : List Value) (off : Nat) (vs : List Value) : List Value := cs.take off ++ vs ++ cs.drop (off + vs.length)
theorem putL_length {cs : List Value} {off : Nat} {vs : List Value} (h : off + vs.length ≤ cs.length) : (putL cs off vs).length = cs.length := by
  simp [putL]; omega
theorem fold_put (vs : List Value) : ∀ (k : Nat) (cs : Array Value) (off : Nat), off + k + vs.length ≤ cs.size →
    (vs.zipIdx k).foldl (fun cs (c, j) => cs.setIfInBounds (off + j) c) cs = (putL cs.toList (off + k) vs).toArray := by
  induction vs with
  | nil => intro k cs off h; simp [putL]
  | cons v r ih =>
    intro k cs off h
    simp only [List.length_cons] at h
    simp only [List.zipIdx_cons, List.foldl_cons]
    rw [ih (k + 1) _ off (by simp; omega)]
    congr 1
    have := list_seg_step cs.toList (off + k) v r (by simp; omega)
    simp only [putL, Array.toList_setIfInBounds, List.length_cons]
    exact this
/-- 'fill' by lists. -/
def fillL (place : Nat → Option (Nat × Nat)) : List Value → List (Nat × Value) → Option (List Value)
  | cs, [] => some cs
  | cs, (i, v) :: rest => match place i with
    | none => none
    | some (off, size) => cond (Nat.beq v.cells.toList.length size && Nat.ble (off + v.cells.toList.length) cs.length) (fillL place (putL cs off v.cells.toList) rest) none
theorem fill_of {place : Nat → Option (Nat × Nat)} : ∀ (parts : List (Nat × Value)) (cs r : List Value), fillL place cs parts = some r → Instr.fill place cs.toArray parts = some r.toArray
  | [], cs, r, h => by simp [fillL] at h; simp [Instr.fill, h]
  | (i, v) :: rest, cs, r, h => by
    simp only [fillL] at h
    cases hp : place i with
    | none => rw [hp] at h; cases h
    | some q =>
      obtain ⟨off, size⟩ := q
      rw [hp] at h
      simp only [] at h
      cases hc : (Nat.beq v.cells.toList.length size && Nat.ble (off + v.cells.toList.length) cs.length) with
      | false => rw [hc] at h; cases h
      | true =>
        rw [hc] at h
        simp only [cond_true] at h
        simp only [Bool.and_eq_true] at hc
        have h1 : v.cells.size = size := by have := Nat.eq_of_beq_eq_true hc.1; simpa using this
        have h2 : off + v.cells.size ≤ cs.length := by have := Nat.ble_eq.mp hc.2; simpa using this
        have ih := fill_of rest _ _ h
        have hf := fold_put v.cells.toList 0 cs.toArray off (by simpa using h2)
        have hz : v.cells.zipIdx.foldl (fun cs (c, j) => cs.setIfInBounds (off + j) c) cs.toArray = (putL cs off v.cells.toList).toArray := by
          rw [← Array.foldl_toList]
          simpa using hf
        simp only [Instr.fill, hp]
        have h3 : ¬ (off + v.cells.size > cs.toArray.size) := by simp; omega
        simp only [h1, ne_eq, not_true_eq_false, decide_false, Bool.false_or]
        rw [h1] at h3
        simp only [h3, decide_false, Bool.false_eq_true, if_false]
        rw [← ih]
        congr 1

/-- A struct's places, out of its type. -/
def placesOk (P : Program) (t : TypeId) (pl : List (Nat × Nat)) : Prop :=
  ∃ fs, P.underlying t = some (.struct fs) ∧ fs.toList.mapM (fun f => (P.info? f.type).map fun i => (f.offset, i.size)) = some pl
def plc (pl : List (Nat × Nat)) (i : Nat) : Option (Nat × Nat) := pl[i]?
theorem run_places {fs : List Field} {pl : List (Nat × Nat)} (h : fs.mapM (fun f => (P.info? f.type).map fun i => (f.offset, i.size)) = some pl) (w : World) :
    (fs.mapM (m := Sem) fun f => do pure (f.offset, ← Go.sizeOf f.type)).run P w = .ok pl w := by
  induction fs generalizing pl with
  | nil => simp at h; subst h; rfl
  | cons f r ih =>
    simp only [List.mapM_cons, Option.bind_eq_bind, Option.bind_eq_some_iff, Option.map_eq_some_iff, Option.pure_def, Option.some.injEq] at h
    obtain ⟨q, ⟨i, hi, rfl⟩, us, hus, rfl⟩ := h
    simp only [List.mapM_cons, Sem.run_bind, Go.sizeOf, typeInfo, run_program, hi, Sem.run_pure, Result.andThen_ok]
    have := ih hus
    simp only [Go.sizeOf, typeInfo] at this
    rw [this]
    rfl
def evp (l : KL) : List (Nat × Operand) → Option (List (Nat × Value))
  | [] => some []
  | (i, x) :: r => match ev l x, evp l r with
    | some v, some vs => some ((i, v) :: vs)
    | _, _ => none
theorem Knows.evp {l : KL} {e : Operand → Value} (hk : Knows l e) : ∀ {xs : List (Nat × Operand)} {vs : List (Nat × Value)}, evp l xs = some vs → xs.map (fun q => (q.1, e q.2)) = vs
  | [], vs, h => by simp [Pal.evp] at h; simp [h]
  | (i, x) :: r, vs, h => by
    simp only [Pal.evp] at h
    split at h
    · rename_i v us h1 h2
      simp at h; subst h
      simp [hk x v h1, hk.evp h2]
    · cases h
theorem R_build {t : TypeId} {z : Value} {pl : List (Nat × Nat)} {parts : List (Nat × Operand)} {vs : List (Nat × Value)} {r : List Value} (hz : zeroOk P t z) (hp : placesOk P t pl)
    (hv : evp l parts = some vs) (hf : fillL (plc pl) z.cells.toList vs = some r) : ValOk P l H hl (.build t parts.toArray) ty (.agg r.toArray) := by
  intro e w hk _
  obtain ⟨fs, h1, h2⟩ := hp
  have h3 := run_places (P := P) h2 w
  have h4 := fill_of _ _ _ hf
  have h5 : (fs.mapM (m := Sem) fun f => do pure (f.offset, ← Go.sizeOf f.type)).run P w = .ok pl.toArray w := by
    have : (fs.mapM (m := Sem) fun f => do pure (f.offset, ← Go.sizeOf f.type)) = (List.toArray <$> (fs.toList.mapM (m := Sem) fun f => do pure (f.offset, ← Go.sizeOf f.type))) := by
      rw [Array.mapM_eq_mapM_toList]
    rw [this, Sem.run_map, h3]
    rfl
  have h6 : (parts.toArray.map fun q => (q.1, e q.2)) = vs.toArray := by
    apply Array.ext'; simp [hk.evp hv]
  simp only [ex, execOp, Instr.build, Sem.run_bind, hz.run, run_underlying h1, Result.andThen_ok, h5, h6]
  have h8 : Instr.fill (fun i => pl[i]?) z.cells vs = some r.toArray := by
    have : (fun i => pl[i]?) = plc pl := rfl
    rw [this]; simpa using h4
  simp [h8]
def slcOk (P : Program) (t e : TypeId) : Prop := P.underlying t = some (.slice e)
def slc (k : Nat) (b : Nat) : Value := .slice (some ⟨b, 0, none⟩) k k
/-- A slice's literal, every element given. -/
theorem fill_rows (sz : Nat) : ∀ (vs : List Value) (k : Nat) (done : List Value) (rest : List Value), (∀ v ∈ vs, v.cells.size = sz) → done.length = k * sz → rest.length = vs.length * sz →
    fillL (fun i => some (i * sz, sz)) (done ++ rest) ((vs.zipIdx k).map fun q => (q.2, q.1)) = some (done ++ vs.flatMap fun v => v.cells.toList)
  | [], k, done, rest, _, hd, hr => by
    have : rest = [] := List.eq_nil_of_length_eq_zero (by simpa using hr)
    simp [fillL, this]
  | v :: r, k, done, rest, hv, hd, hr => by
    have hv0 := hv v (by simp)
    have hlen : rest.length = sz + r.length * sz := by rw [hr, List.length_cons, Nat.add_mul]; omega
    simp only [List.zipIdx_cons, List.map_cons, fillL]
    have h1 : (Nat.beq v.cells.toList.length sz && Nat.ble (k * sz + v.cells.toList.length) (done ++ rest).length) = true := by
      simp only [Bool.and_eq_true]
      exact ⟨by simp [hv0, Nat.beq_refl], Nat.ble_eq.mpr (by simp [hv0, hd, hlen])⟩
    rw [h1]
    simp only [cond_true]
    have h2 : putL (done ++ rest) (k * sz) v.cells.toList = (done ++ v.cells.toList) ++ rest.drop sz := by
      simp only [putL, Array.length_toList, hv0, ← hd, List.take_left', List.append_assoc]
      congr 2
      rw [List.drop_append]
      simp
    rw [h2, fill_rows sz r (k + 1) (done ++ v.cells.toList) (rest.drop sz) (fun u hu => hv u (List.mem_cons_of_mem _ hu)) (by simp [hv0, hd, Nat.add_mul]) (by simp [hlen])]
    simp
theorem A_buildSlice {t e : TypeId} {z : Value} {sz : Nat} {agg : Bool} {parts : List (Nat × Operand)} {vs : List Value} (hS : slcOk P t e) (hT : Ty P e agg sz) (hz : zeroOk P e z) (hzs : z.cells.size = sz)
    (hv : evp l parts = some ((vs.zipIdx 0).map fun q => (q.2, q.1))) (hvs : ∀ v ∈ vs, v.cells.size = sz) (hk : vs.length * sz ≤ 16777216) {k : Nat} (hlen : k = vs.length) (hsz : 0 < sz) :
    AllocOk P l (.buildSlice t k parts.toArray) ty (slc k) (.cells (vs.flatMap fun v => v.cells.toList).toArray e (0, 0)) := by
  subst hlen
  intro ev' w hk'
  have h6 : (parts.toArray.map fun q => (q.1, ev' q.2)) = ((vs.zipIdx 0).map fun q => (q.2, q.1)).toArray := by
    apply Array.ext'; simp [hk'.evp hv]
  have hrange : ∀ (cs : List Value), cs.length = vs.length * sz → Instr.fill (fun i => some (i * sz, sz)) cs.toArray ((vs.zipIdx 0).map fun q => (q.2, q.1)) = some (vs.flatMap fun v => v.cells.toList).toArray := by
    intro cs hcs
    have := fill_rows sz vs 0 [] cs hvs (by simp) hcs
    exact fill_of _ _ _ (by simpa using this)
  simp only [ex, execOp, Instr.buildSlice, Sem.run_bind, run_underlying hS, hT.run_sizeOf, Result.andThen_ok, Sem.run_ite]
  have hle : ¬ (vs.length * sz > 2 ^ 24) := by omega
  simp only [hle, if_false, Sem.run_pure, Result.andThen_ok, h6]
  by_cases h0 : vs.length * sz = 0
  · have hn : vs = [] := by
      rcases Nat.mul_eq_zero.1 h0 with h | h
      · exact List.eq_nil_of_length_eq_zero h
      · omega
    subst hn
    simp [Instr.fill, newRow, slc]
    rw [show Array.range 0 = #[] from by apply Array.ext'; simp]
    simp
  · have := hrange ((List.range (vs.length * sz)).map fun x => z.cells[x % z.cells.size]!) (by simp)
    simp only [h0, if_false, hz.run, Result.andThen_ok]
    have e1 : (Array.map (fun x => z.cells[x % z.cells.size]!) (Array.range (vs.length * sz))) = ((List.range (vs.length * sz)).map fun x => z.cells[x % z.cells.size]!).toArray := by
      apply Array.ext'; simp
    rw [e1]
    simp [this, newRow, slc]

/-! ### Stores -/
theorem setRow_os (w : World) (g : Nat) (r : Array Value) : (w.setRow g r).os = w.os ∧ (w.setRow g r).tape = w.tape ∧ (w.setRow g r).output = w.output ∧ (w.setRow g r).heap.size = w.heap.size := by
  simp [World.setRow]
theorem ok1 {w w' : World} {H : View} {en en' : Own} (h : Has w H [en]) (hos : w'.os = w.os) (ht : w'.tape = w.tape) (hou : w'.output = w.output) (hdr : w.drawn ≤ w'.drawn) (hsz : w.heap.size ≤ w'.heap.size)
    (hne : ∀ k, k < w.heap.size → k ∉ en.foot → w'.heap[k]? = w.heap[k]?) (hold : en'.holds (heapOf w')) (hf : ∀ b ∈ en'.foot, b ∈ en.foot ∨ w.heap.size ≤ b) (nd : en'.foot.Nodup) :
    Ok ⟨w, H, feet [en]⟩ w' H [en'] := by
  have hfe : feet [en] = en.foot := by simp [feet]
  have hHn : ∀ b, b ∈ en.foot → H b = none := fun b hb => h.foot b (by rw [hfe]; exact hb)
  refine ⟨hos, ht, hou, hdr, hsz, ?_, fun _ _ _ => rfl, fun _ _ h => h, ?_, ?_, ?_, ?_⟩
  · intro b hb hp
    rw [hfe] at hp
    exact hne b hb hp
  · intro b o hb
    rw [hne b (lt_of_heap (h.has b o hb)) (fun hm => by rw [hHn b hm] at hb; cases hb)]
    exact h.has b o hb
  · intro e he; simp at he; subst he; exact hold
  · intro b hb
    simp [feet] at hb
    rcases hf b hb with h1 | h1
    · exact ⟨hHn b h1, .inr (by rw [hfe]; exact h1)⟩
    · refine ⟨?_, .inl h1⟩
      cases hH : H b with
      | none => rfl
      | some o => exact absurd (lt_of_heap (h.has b o hH)) (Nat.not_lt.2 h1)
  · simpa [feet] using nd
def putCells (cs : Array Value) (off : Nat) (vs : List Value) : Array Value := (putL cs.toList off vs).toArray
theorem E_store {t : TypeId} {x y : Operand} {agg : Bool} {sz b off : Nat} {cs : Array Value} {T : TypeId} (hT : Ty P t agg sz) (hx : ev l x = some (.pointer (some ⟨b, off, none⟩))) (hy : ev l y = some v)
    (hsz : v.cells.toList.length = sz) (hfit : Nat.ble (off + v.cells.toList.length) cs.size = true) (h1 : v.cells.toList.all Value.oneCell' = true) :
    Eff P l H [blk b (.cells cs T (0, 0))] (.store t x y) ty fun _ H' q => ∃ en', q = [en'] ∧ (H' = H ∧ en' = blk b (.cells (putCells cs off v.cells.toList) T (0, 0))) := by
  intro e w hk ho
  have hb : w.heap[b]? = some (.cells cs T (0, 0)) := ho.own (blk b (.cells cs T (0, 0))) (by simp)
  have hst := run_storeCells_at P b off T v.cells.toList 0 cs w hb (by simpa using Nat.ble_eq.mp hfit) (List.all_eq_true.1 h1)
  simp only [Nat.add_zero] at hst
  obtain ⟨e1, e2, e3, e4⟩ := setRow_os w b (putCells cs off v.cells.toList)
  have hrun : (ex e (.store t x y) ty).run P w = .ok .skip (w.setRow b (putCells cs off v.cells.toList)) := by
    have hsz' : v.cells.size = sz := by simpa using hsz
    simp [ex, execOp, hk x _ hx, hk y _ hy, Instr.storeAt, Instr.sureAddr, storeVar, hsz', hT.run_sizeOf]
    rw [hst]
    rfl
  rw [hrun]
  refine ⟨H, _, ok1 (en' := blk b (.cells (putCells cs off v.cells.toList) T (0, 0))) ho e1 e2 e3 (Nat.le_refl _) (by rw [e4]; exact Nat.le_refl _) (fun k _ hk => setRow_other w b k _ (by simpa [blk] using hk)) (setRow_heap w b cs _ T _ hb) (fun k hk => .inl hk) (by simp [blk]), _, rfl, rfl, rfl⟩
theorem K_store {t : TypeId} {x y : Operand} {agg : Bool} {sz b off : Nat} {cs : Array Value} {T : TypeId} (hT : Ty P t agg sz) (i : Nat) (hx : ev l x = some (.pointer (some ⟨b, off, none⟩))) (hy : ev l y = some v)
    (hi : hl[i]? = some (blk b (.cells cs T (0, 0)))) (hsz : v.cells.toList.length = sz) (hfit : Nat.ble (off + v.cells.toList.length) cs.size = true) (h1 : v.cells.toList.all Value.oneCell' = true)
    (h : KO P n c ops Q rest l (hl.set i (blk b (.cells (putCells cs off v.cells.toList) T (0, 0)))) H) :
    KO P n c ops Q (⟨none, .store t x y, ty, pos, aft, none⟩ :: rest) l hl H :=
  KE1_ i hi (E_store hT hx hy hsz hfit h1) (by rintro _ H' en' _ ⟨rfl, rfl⟩; exact h)

/-! ### Slices -/
theorem R_len {x : Operand} {t e : TypeId} {a : Option Addr} {k cap : Nat} (hS : slcOk P t e) (hx : ev l x = some (.slice a k cap)) : ValOk P l H hl (.call ⟨.builtin .len, #[x], #[t]⟩) ty (.int .i64 (k : Int)) := by
  intro e w hk _
  simp [ex, execOp, resolve, invoke, builtin, Builtin.len_, hk x _ hx, run_underlying hS, goInt]
theorem R_index {x y : Operand} {t e : TypeId} {b off k cap : Nat} {q : IntKind} {i : Int} {agg : Bool} {sz : Nat} (hS : slcOk P t e) (hT : Ty P e agg sz) (hx : ev l x = some (.slice (some ⟨b, off, none⟩) k cap))
    (hy : ev l y = some (.int q i)) (hi : 0 ≤ i ∧ i < k) : ValOk P l H hl (.indexAddr t x y) ty (.pointer (some ⟨b, off + i.toNat * sz, none⟩)) := by
  intro e w hk _
  simp [ex, execOp, Instr.indexAt, asIntOf, hk x _ hx, hk y _ hy, run_underlying hS, hi, hT.run_sizeOf, addr_add]

/-- A slice that the call itself made: nil, or the head of a row of its own; behind its length whatever is there. -/
def rowFoot : Value → List Nat
  | .slice (some a) _ _ => [a.block]
  | _ => []
def row (v : Value) (e : TypeId) (sz k : Nat) (xs : List Value) : Own where
  foot := rowFoot v
  holds h := xs.length = k * sz ∧ ((v = .slice none 0 0 ∧ k = 0) ∨
    ∃ g cap cur, v = .slice (some ⟨g, 0, none⟩) k cap ∧ h g = some (.cells cur e (0, 0)) ∧ k ≤ cap ∧ cap ≤ maxLen ∧ cur.size = cap * sz ∧ cur.toList.take (k * sz) = xs)
  loc h h' heq hh := by
    obtain ⟨h1, h2⟩ := hh
    refine ⟨h1, ?_⟩
    rcases h2 with h2 | ⟨g, cap, cur, rfl, hg, r⟩
    · exact .inl h2
    · exact .inr ⟨g, cap, cur, rfl, by rw [heq g (by simp [rowFoot])]; exact hg, r⟩
  ex h hh b hb := by
    rcases hh.2 with ⟨rfl, _⟩ | ⟨g, cap, cur, rfl, hg, _⟩
    · simp [rowFoot] at hb
    · simp [rowFoot] at hb; subst hb; exact ⟨_, hg⟩
theorem row_owns {w : World} {v : Value} {e : TypeId} {sz k : Nat} {xs : List Value} : (row v e sz k xs).holds (heapOf w) ↔ w.ownsRow 0 e sz v k xs := by
  constructor
  · rintro ⟨h1, h2⟩
    refine ⟨h1, ?_⟩
    rcases h2 with h2 | ⟨g, cap, cur, hv, hg, r⟩
    · exact .inl h2
    · exact .inr ⟨g, cap, cur, hv, Nat.zero_le _, hg, r⟩
  · rintro ⟨h1, h2⟩
    refine ⟨h1, ?_⟩
    rcases h2 with h2 | ⟨g, cap, cur, hv, _, hg, r⟩
    · exact .inl h2
    · exact .inr ⟨g, cap, cur, hv, hg, r⟩
def nilS : Value := .slice none 0 0
theorem row_nil (e : TypeId) (sz : Nat) (w : World) : (row nilS e sz 0 []).holds (heapOf w) := ⟨by simp, .inl ⟨rfl, rfl⟩⟩
theorem rowFoot_eq {w : World} {v : Value} {e : TypeId} {sz k : Nat} {xs : List Value} (h : w.ownsRow 0 e sz v k xs) : (∀ b, b ∈ rowFoot v ↔ v.ownBlock = some b) ∧ (rowFoot v).Nodup := by
  rcases h.2 with ⟨rfl, _⟩ | ⟨g, cap, cur, rfl, _⟩
  · exact ⟨fun b => by simp [rowFoot, Value.ownBlock], by simp [rowFoot]⟩
  · exact ⟨fun b => by simp [rowFoot, Value.ownBlock, eq_comm], by simp [rowFoot]⟩
/-- The kit's law on append, with where the row lies behind it. -/
theorem run_append_own2 (w : World) (t ty e : TypeId) (i : TypeInfo) (z : Value) (size : Nat) (ht : P.underlying t = some (.slice e)) (hi : P.info? e = some i) (hz : i.zero = some z)
    (hsize : i.size = size) (hzs : z.cells.size = size) (hsz : 0 < size)
    (v : Value) (k : Nat) (xs : List Value) (hown : w.ownsRow 0 e size v k xs)
    (x : Value) (m : Nat) (news : List Value) (hx : (x = .slice none 0 0 ∧ m = 0 ∧ news = []) ∨ ∃ a cp, x = .slice (some a) m cp ∧ (∀ j u, news[j]? = some u → w.cell? (a.add j) = some u)) (hl : news.length = m * size) (h1 : ∀ u ∈ news, u.oneCell' = true)
    (h63 : k + m ≤ maxLen) (hbytes : (k + m) * i.bytes ≤ 140737488355328) :
    ∃ v' w', (Builtin.append_ #[t, t] ty #[v, x]).run P w = .ok v' w' ∧ w'.ownsRow 0 e size v' (k + m) (xs ++ news) ∧ (w.grownBy w' v.ownBlock ∧ w.drawn ≤ w'.drawn) ∧
      (v'.ownBlock = v.ownBlock ∨ v'.ownBlock = some w.heap.size) ∧ (v' = .slice none 0 0 ↔ v = .slice none 0 0 ∧ m = 0) := by
  subst hsize
  have hsmall : k + m ≤ 9223372036854775807 := by simp only [maxLen] at h63; omega
  have hlen : (xs ++ news).length = (k + m) * i.size := by rw [List.length_append, hown.1, hl, Nat.add_mul]
  by_cases hm0 : m = 0
  · subst hm0
    have hn : news = [] := List.eq_nil_of_length_eq_zero (by simpa using hl)
    subst hn
    refine ⟨v, w, ?_, by simpa using hown, ⟨⟨rfl, rfl, rfl, Nat.le_refl _, fun _ _ _ => rfl⟩, Nat.le_refl _⟩, .inl rfl, by simp⟩
    have hx' : ∃ a cp, x = .slice a 0 cp := by
      rcases hx with ⟨h, _⟩ | ⟨a, cp, h, _⟩
      · exact ⟨none, 0, h⟩
      · exact ⟨some a, cp, h⟩
    obtain ⟨a, cp, rfl⟩ := hx'
    have hf : (Builtin.firstCells i.size 0 (.slice a 0 cp)).run P w = .ok #[] w := by
      cases a <;> simp [Builtin.firstCells, loadCells, loadCellsFrom]
    rcases hown.2 with ⟨rfl, rfl⟩ | ⟨g, cap, cur, rfl, _, hg, hkc, _⟩
    · simp [Builtin.append_, run_underlying ht, Go.sizeOf, typeInfo, hi, Builtin.lenOf, hf]
    · simp [Builtin.append_, run_underlying ht, Go.sizeOf, typeInfo, hi, Builtin.lenOf, hf, hkc, storeCells]
  · obtain ⟨a, cp, rfl, hnews⟩ := hx.resolve_left (fun h => hm0 h.2.1)
    have grown : ∀ (old : Nat), old < k + m → ∀ (r : Option Nat),
        (w.drew.alloc (.cells (xs.toArray ++ news.toArray ++ Builtin.zeroCells z.cells (grownCap w (k + m) old e - (k + m))) e)).ownsRow 0 e i.size
          (.slice (some ⟨w.heap.size, 0, none⟩) (k + m) (grownCap w (k + m) old e)) (k + m) (xs ++ news) ∧
        w.grownBy (w.drew.alloc (.cells (xs.toArray ++ news.toArray ++ Builtin.zeroCells z.cells (grownCap w (k + m) old e - (k + m))) e)) r ∧ w.drawn ≤ w.drew.drawn := by
      intro old ho r
      have hge := grownCap_ge w (k + m) old e
      have hcm : grownCap w (k + m) old e ≤ maxLen := grownCap_le_maxLen w (k + m) old e h63
      refine ⟨⟨hlen, .inr ⟨w.heap.size, _, _, rfl, Nat.zero_le _, alloc_new w.drew _, hge, hcm, ?_, ?_⟩⟩, ⟨⟨rfl, rfl, rfl, by simp, fun q hq _ => alloc_old w.drew _ q hq⟩, Nat.le_succ _⟩⟩
      · simp only [Array.size_append, List.size_toArray, size_zeroCells, hzs, hown.1, hl, ← Nat.add_mul]
        congr 1
        omega
      · simp only [Array.toList_append, List.append_assoc]
        rw [← List.append_assoc, ← hlen]
        exact List.take_left
    rcases hown.2 with ⟨rfl, rfl⟩ | ⟨g, cap, cur, rfl, hbg, hg, hnc, hcm, hcs, htake⟩
    · have hx0 : xs = [] := List.eq_nil_of_length_eq_zero (by simpa using hown.1)
      subst hx0
      have hr := run_append_nil (P := P) w t ty e i z ht hi hz a m cp news hl hnews (by omega) (by omega) (by have hb := hbytes; simp only [Nat.zero_add] at hb; omega)
      have hgr := grown 0 (by omega) (Value.ownBlock (.slice none 0 0))
      simp only [Nat.zero_add, List.nil_append, Array.empty_append] at hgr ⊢
      exact ⟨_, _, hr, hgr.1, hgr.2, .inr rfl, by simp [hm0]⟩
    · by_cases hroom : k + m ≤ cap
      · have hfit : k * i.size + news.length ≤ cur.size := by rw [hl, hcs, ← Nat.add_mul]; exact Nat.mul_le_mul_right _ hroom
        have hr := run_append_room (P := P) w t ty e i ht hi g k cap cur hg a m cp news hl hnews h1 hroom hfit
        refine ⟨_, _, hr, ⟨hlen, .inr ⟨g, cap, _, rfl, hbg, setRow_heap w g cur _ e _ hg, hroom, hcm, ?_, ?_⟩⟩, ⟨⟨rfl, rfl, rfl, by simp, fun q _ hq => setRow_other w g q _ (fun e => hq (by simp [Value.ownBlock, e]))⟩, Nat.le_refl _⟩, .inl rfl, by simp⟩
        · simp only [List.size_toArray, List.length_append, List.length_take, List.length_drop, Array.length_toList]
          omega
        · rw [htake, ← hlen]
          exact List.take_left
      · have holds : ∀ j u, xs[j]? = some u → w.cell? ((⟨g, 0, none⟩ : Addr).add j) = some u := hown.cells (g := g) rfl
        have hr := run_append_grow (P := P) w t ty e i z ht hi hz ⟨g, 0, none⟩ k cap xs hown.1 holds a m cp news hl hnews (by omega) (by omega) (growslice_fits (by omega) hbytes)
        have hgr := grown cap (by omega) (Value.ownBlock (.slice (some ⟨g, 0, none⟩) k cap))
        exact ⟨_, _, hr, hgr.1, hgr.2, .inr rfl, by simp⟩

/-- What the element's type owes to append. -/
structure App (P : Program) (t e : TypeId) (sz bytes : Nat) : Prop where
  s : slcOk P t e
  pos : 0 < sz
  i : ∃ i z, P.info? e = some i ∧ i.zero = some z ∧ i.size = sz ∧ z.cells.size = sz ∧ i.bytes = bytes
/-- Where the appended values come from: a row of the view, or a block just made. -/
theorem E_append {x y : Operand} {t e : TypeId} {sz bytes k m : Nat} {xs news : List Value} {u : Value} {p : HL} (hA : App P t e sz bytes) (hx : ev l x = some v) (hy : ev l y = some u)
    (hu : (u = .slice none 0 0 ∧ m = 0 ∧ news = []) ∨ ∃ b off cp, u = .slice (some ⟨b, off, none⟩) m cp ∧ (At H b off news ∨ ∃ cs T fz, p = [blk b (.cells cs T fz)] ∧ off = 0 ∧ cs.toList.take news.length = news))
    (hl : news.length = m * sz) (h1 : news.all Value.oneCell' = true) (hb : (k + m) * bytes ≤ 140737488355328 ∧ k + m ≤ 140737488355328) :
    Eff P l H (row v e sz k xs :: p) (.call ⟨.builtin .append, #[x, y], #[t, t]⟩) ty fun v' H' q => H' = H ∧ q = row v' e sz (k + m) (xs ++ news) :: p ∧ (v' = nilS ↔ v = nilS ∧ m = 0) := by
  intro ev' w hk ho
  obtain ⟨i, z, hi, hz, hs, hzs, hby⟩ := hA.i
  have hown := row_owns.1 (ho.own _ List.mem_cons_self)
  have hu' : (u = .slice none 0 0 ∧ m = 0 ∧ news = []) ∨ ∃ a cp, u = .slice (some a) m cp ∧ (∀ j u, news[j]? = some u → w.cell? (a.add j) = some u) := by
    rcases hu with h | ⟨b, off, cp, h, h2⟩
    · exact .inl h
    · refine .inr ⟨_, cp, h, ?_⟩
      rcases h2 with h2 | ⟨cs, T, fz, rfl, rfl, h3⟩
      · exact h2.cell ho.has
      · have hbk : w.heap[b]? = some (.cells cs T fz) := ho.own (blk b (.cells cs T fz)) (by simp)
        intro j u hj
        rw [addr_add]
        rw [← h3, List.getElem?_take] at hj
        split at hj
        · simpa [World.cell?, hbk] using hj
        · cases hj
  obtain ⟨v', w', hr, hown', hg, hblk, hnil⟩ := run_append_own2 (P := P) w t ty e i z sz hA.s hi hz hs hzs hA.pos v k xs hown u m news hu' hl (List.all_eq_true.1 h1) (by simp only [maxLen]; omega) (by rw [hby]; exact hb.1)
  have hrun : (ex ev' (.call ⟨.builtin .append, #[x, y], #[t, t]⟩) ty).run P w = .ok (.value v') w' := by
    simp [ex, execOp, resolve, invoke, builtin, hk x _ hx, hk y _ hy]
    rw [hr]; rfl
  rw [hrun]
  have hf := rowFoot_eq hown
  have hf' := rowFoot_eq hown'
  have ho1 : Has w H [row v e sz k xs] := Has.left (r := p) ho
  have k1 : Ok ⟨w, H, feet [row v e sz k xs]⟩ w' H [row v' e sz (k + m) (xs ++ news)] := by
    refine ok1 ho1 hg.1.os hg.1.tape hg.1.output hg.2 hg.1.size (fun q hq hn => hg.1.block q hq (fun e => hn ((hf.1 q).2 e.symm))) (row_owns.2 hown') (fun b hb => ?_) hf'.2
    have hb' := (hf'.1 b).1 hb
    rcases hblk with h | h
    · exact .inl ((hf.1 b).2 (h ▸ hb'))
    · rw [h] at hb'; cases hb'; exact .inr (Nat.le_refl _)
  have k2 := Ok.call (c := ⟨w, H, feet (row v e sz k xs :: p)⟩) (p := [row v e sz k xs]) (r := p) (Has.ok (hl := row v e sz k xs :: p) ho) k1
  exact ⟨H, _, k2, rfl, rfl, hnil⟩

/-- A row that is grown no more becomes a block of the view. -/
def rowAt (H : View) (v : Value) (k : Nat) (xs : List Value) : Prop :=
  (v = nilS ∧ k = 0 ∧ xs = []) ∨ ∃ g cap, v = .slice (some ⟨g, 0, none⟩) k cap ∧ At H g 0 xs
theorem Ok.pubrow {w : World} {v : Value} {e : TypeId} {sz k : Nat} {xs : List Value} (h : Ok c w H (row v e sz k xs :: hl)) (hnew : ∀ b ∈ rowFoot v, b ∉ c.pass) :
    ∃ H', VLe H H' ∧ rowAt H' v k xs ∧ Ok c w H' hl := by
  have hh : (row v e sz k xs).holds (heapOf w) := h.own _ List.mem_cons_self
  obtain ⟨hlen, hh⟩ := hh
  rcases hh with ⟨rfl, rfl⟩ | ⟨g, cap, cur, rfl, hg, hk, hcap, hsz, htake⟩
  · exact ⟨H, VLe.refl H, .inl ⟨rfl, rfl, List.eq_nil_of_length_eq_zero (by simpa using hlen)⟩, h.sublist (List.sublist_cons_self _ _)⟩
  · have h2 : Ok c w H (blk g (.cells cur e (0, 0)) :: hl) := by
      refine ⟨h.os, h.tape, h.output, h.drawn, h.size, h.old, h.vold, h.le, h.has, ?_, ?_, ?_⟩
      · intro en hen
        rcases List.mem_cons.1 hen with rfl | hen
        · exact hg
        · exact h.own en (List.mem_cons_of_mem _ hen)
      · intro b hb; exact h.foot b (by simpa [feet, row, rowFoot, blk] using hb)
      · simpa [feet, row, rowFoot, blk] using h.nd
    have hH : H g = none := (h.foot g (by simp [feet, row, rowFoot])).1
    refine ⟨vadd H g (.cells cur e (0, 0)), ?_, .inr ⟨g, cap, rfl, ⟨cur, e, (0, 0), by simp [vadd], ?_⟩⟩, h2.publish (hnew g (by simp [rowFoot]))⟩
    · intro b o hb
      have : b ≠ g := fun e => by subst e; rw [hH] at hb; cases hb
      simp [vadd, this, hb]
    · intro j u hj
      rw [← htake, List.getElem?_take] at hj
      split at hj
      · simpa using hj
      · cases hj
/-- Some of what is owned, one after the other (each index into what is then left). -/
def sel : List Nat → HL → Option HL
  | [], _ => some []
  | i :: r, L => match L[i]? with
    | none => none
    | some e => match sel r (L.eraseIdx i) with
      | none => none
      | some t => some (e :: t)
theorem sel_perm : ∀ {is : List Nat} {L L' : HL}, sel is L = some L' → ∃ r, L.Perm (L' ++ r)
  | [], L, L', h => by simp [sel] at h; subst h; exact ⟨L, by simp⟩
  | i :: is, L, L', h => by
    simp only [sel] at h
    cases hi : L[i]? with
    | none => rw [hi] at h; cases h
    | some e =>
      rw [hi] at h
      simp only [] at h
      cases hs : sel is (L.eraseIdx i) with
      | none => rw [hs] at h; cases h
      | some t =>
        rw [hs] at h
        simp at h
        subst h
        obtain ⟨r, hr⟩ := sel_perm hs
        exact ⟨r, (perm_erase hi).trans (by simpa using hr)⟩
theorem Ok.sel {w : World} {is : List Nat} {hl' : HL} (ho : Ok c w H hl) (h : Pal.sel is hl = some hl') : Ok c w H hl' := by
  obtain ⟨r, hr⟩ := sel_perm h
  exact (ho.perm hr).sublist (List.sublist_append_left _ _)
theorem KQ_sel {x : Exit} (is : List Nat) {hl' : HL} (h : sel is hl = some hl') (k : KQ n c Q x l hl' H) : KQ n c Q x l hl H := fun ρ w hm ho => k ρ w hm (ho.sel h)
theorem KO_sel (is : List Nat) {hl' : HL} (h : sel is hl = some hl') (k : KO P n c ops Q rest l hl' H) : KO P n c ops Q rest l hl H := fun ρ w hm ho => k ρ w hm (ho.sel h)
theorem KQ_front {x : Exit} {en : Own} (i : Nat) (hi : hl[i]? = some en) (h : KQ n c Q x l (en :: hl.eraseIdx i) H) : KQ n c Q x l hl H :=
  fun ρ w hm ho => h ρ w hm (ho.perm (perm_erase hi))
theorem KO_front {en : Own} (i : Nat) (hi : hl[i]? = some en) (h : KO P n c ops Q rest l (en :: hl.eraseIdx i) H) : KO P n c ops Q rest l hl H :=
  fun ρ w hm ho => h ρ w hm (ho.perm (perm_erase hi))
theorem KC_front {code : Code} {en : Own} (i : Nat) (hi : hl[i]? = some en) (h : KC P n c code Q l (en :: hl.eraseIdx i) H) : KC P n c code Q l hl H :=
  fun ρ w hm ho => h ρ w hm (ho.perm (perm_erase hi))
theorem KQ_pubrow {v : Value} {e : TypeId} {sz k : Nat} {xs : List Value} {x : Exit} (hnew : c.pass = []) (h : ∀ H', VLe H H' → rowAt H' v k xs → KQ n c Q x l hl H') : KQ n c Q x l (row v e sz k xs :: hl) H := by
  intro ρ w hm ho
  obtain ⟨H', h1, h2, h3⟩ := ho.pubrow (fun b _ hb => by rw [hnew] at hb; cases hb)
  exact h H' h1 h2 ρ w hm h3
end rules
end Pal
