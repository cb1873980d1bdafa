/-
  Rows opened and shut, a slice's end cleared, neighbours alike dropped in place. Own work. No statement of the seat is proved here.
-/
import Derived.Test.YtdclodapkhgabaaGreatDoorPalLe
import Derived.Scope
namespace Pal
open Go
section
variable {P : Program} {n : Nat} {c : Cx} {Q : Exit → Act → World → Prop} {l : KL} {hl : HL} {H : View} {ops : Array Oper} {rest : List Oper}
theorem Ok.openRow {w : World} {v : Value} {e : TypeId} {sz k : Nat} {xs : List Value} (h : Ok c w H (row v e sz k xs :: hl)) :
    (v = nilS ∧ k = 0 ∧ xs = []) ∨ ∃ g cap tail, v = .slice (some ⟨g, 0, none⟩) k cap ∧ k ≤ cap ∧ cap ≤ maxLen ∧ xs.length = k * sz ∧ (xs ++ tail).length = cap * sz ∧ Ok c w H (blk g (.cells (xs ++ tail).toArray e (0, 0)) :: hl) := by
  obtain ⟨h1, h2⟩ := h.own _ List.mem_cons_self
  rcases h2 with ⟨rfl, rfl⟩ | ⟨g, cap, cur, rfl, hg, hk, hc, hs, ht⟩
  · exact .inl ⟨rfl, rfl, List.eq_nil_of_length_eq_zero (by simpa using h1)⟩
  · have hcur : xs ++ cur.toList.drop (k * sz) = cur.toList := by rw [← ht]; exact List.take_append_drop _ _
    refine .inr ⟨g, cap, cur.toList.drop (k * sz), rfl, hk, hc, h1, by rw [hcur]; simpa using hs, ?_⟩
    rw [hcur]
    refine ⟨h.os, h.tape, h.output, h.drawn, h.size, h.old, h.vold, h.le, h.has, ?_, fun b hb => h.foot b (by simpa [feet, row, rowFoot, blk] using hb), by simpa [feet, row, rowFoot, blk] using h.nd⟩
    intro x hx
    rcases List.mem_cons.1 hx with rfl | hx
    · exact hg
    · exact h.own x (List.mem_cons_of_mem _ hx)
theorem Ok.shutRow {w : World} {e : TypeId} {sz k g cap : Nat} {xs : List Value} {cur : Array Value} (hk : k ≤ cap) (hc : cap ≤ maxLen) (hx : xs.length = k * sz) (hs : cur.size = cap * sz) (ht : cur.toList.take (k * sz) = xs)
    (h : Ok c w H (blk g (.cells cur e (0, 0)) :: hl)) : Ok c w H (row (.slice (some ⟨g, 0, none⟩) k cap) e sz k xs :: hl) := by
  refine ⟨h.os, h.tape, h.output, h.drawn, h.size, h.old, h.vold, h.le, h.has, ?_, fun b hb => h.foot b (by simpa [feet, row, rowFoot, blk] using hb), by simpa [feet, row, rowFoot, blk] using h.nd⟩
  intro x hx2
  rcases List.mem_cons.1 hx2 with rfl | hx2
  · exact ⟨hx, .inr ⟨g, cap, cur, rfl, h.own _ List.mem_cons_self, hk, hc, hs, ht⟩⟩
  · exact h.own x (List.mem_cons_of_mem _ hx2)
theorem KC_openRow {code : Code} {v : Value} {e : TypeId} {sz k : Nat} {xs : List Value} (h0 : v = nilS → k = 0 → xs = [] → KC P n c code Q l hl H)
    (h1 : ∀ g cap tail, v = .slice (some ⟨g, 0, none⟩) k cap → k ≤ cap → cap ≤ maxLen → xs.length = k * sz → (xs ++ tail).length = cap * sz → KC P n c code Q l (blk g (.cells (xs ++ tail).toArray e (0, 0)) :: hl) H) :
    KC P n c code Q l (row v e sz k xs :: hl) H := by
  intro ρ w hm ho
  rcases ho.openRow with ⟨a, b, d⟩ | ⟨g, cap, tail, a, b, d, e1, f, k1⟩
  · exact h0 a b d ρ w hm (ho.sublist (List.sublist_cons_self _ _))
  · exact h1 g cap tail a b d e1 f ρ w hm k1
theorem KQ_shutRow {x : Exit} {e : TypeId} {sz k g cap : Nat} {xs : List Value} {cur : Array Value} (hk : k ≤ cap) (hc : cap ≤ maxLen) (hx : xs.length = k * sz) (hs : cur.size = cap * sz) (ht : cur.toList.take (k * sz) = xs)
    (h : KQ n c Q x l (row (.slice (some ⟨g, 0, none⟩) k cap) e sz k xs :: hl) H) : KQ n c Q x l (blk g (.cells cur e (0, 0)) :: hl) H :=
  fun ρ w hm ho => h ρ w hm (ho.shutRow hk hc hx hs ht)
theorem KQ_openRow {x : Exit} {v : Value} {e : TypeId} {sz k : Nat} {xs : List Value} (h0 : v = nilS → k = 0 → xs = [] → KQ n c Q x l hl H)
    (h1 : ∀ g cap tail, v = .slice (some ⟨g, 0, none⟩) k cap → k ≤ cap → cap ≤ maxLen → xs.length = k * sz → (xs ++ tail).length = cap * sz → KQ n c Q x l (blk g (.cells (xs ++ tail).toArray e (0, 0)) :: hl) H) :
    KQ n c Q x l (row v e sz k xs :: hl) H := by
  intro ρ w hm ho
  rcases ho.openRow with ⟨a, b, d⟩ | ⟨g, cap, tail, a, b, d, e1, f, k1⟩
  · exact h0 a b d ρ w hm (ho.sublist (List.sublist_cons_self _ _))
  · exact h1 g cap tail a b d e1 f ρ w hm k1
/-! ### clear -/
theorem E_clear {x : Operand} {t e ty : TypeId} {b off k m cap : Nat} {cur : Array Value} {E : TypeId} {z : Value} (hS : slcOk P t e) (hz : zeroOk P e z) (hz1 : z.cells.all Value.oneCell' = true)
    (hx : ev l x = some (.slice (some ⟨b, off, none⟩) k cap)) (hzs : z.cells.size = m) (hfit : off + k * m ≤ cur.size) :
    Eff P l H [blk b (.cells cur E (0, 0))] (.call ⟨.builtin .clear, #[x], #[t]⟩) ty fun _ H' q => ∃ en', q = [en'] ∧ (H' = H ∧ ∃ cur', en' = blk b (.cells cur' E (0, 0)) ∧ cur'.size = cur.size ∧ cur'.toList.take off = cur.toList.take off) := by
  intro e' w hk ho
  have hb : w.heap[b]? = some (.cells cur E (0, 0)) := ho.own (blk b (.cells cur E (0, 0))) (by simp)
  have hS' : P.underlying t = some (.slice e) := hS
  by_cases hk0 : k = 0
  · subst hk0
    have hrun : (ex e' (.call ⟨.builtin .clear, #[x], #[t]⟩) ty).run P w = .ok (.value (.tuple #[])) w := by
      simp [ex, execOp, resolve, invoke, builtin, hk x _ hx, Builtin.clear_, run_underlying hS']
    rw [hrun]
    exact ⟨H, _, ho.ok, _, rfl, rfl, cur, rfl, rfl, rfl⟩
  · have hzl : (Builtin.zeroCells z.cells k).toList.length = k * m := by
      have := size_zeroCells z.cells k
      rw [hzs] at this
      simpa [Nat.mul_comm] using this
    have hone : ∀ v ∈ (Builtin.zeroCells z.cells k).toList, v.oneCell' = true := by
      intro v hv
      have hall := Array.all_eq_true.1 hz1
      simp only [Builtin.zeroCells, Array.toList_map, List.mem_map] at hv
      obtain ⟨i, hi, rfl⟩ := hv
      have h0 : 0 < z.cells.size := by
        rcases Nat.eq_zero_or_pos z.cells.size with h | h
        · rw [h] at hi; simp at hi
        · exact h
      have hm : i % z.cells.size < z.cells.size := Nat.mod_lt _ h0
      rw [getElem!_pos z.cells _ hm]
      exact hall _ hm
    have hst := run_storeCells_at P b off E (Builtin.zeroCells z.cells k).toList 0 cur w hb (by rw [hzl]; omega) hone
    simp only [Nat.add_zero] at hst
    have hrun : (ex e' (.call ⟨.builtin .clear, #[x], #[t]⟩) ty).run P w = .ok (.value (.tuple #[])) (w.setRow b (putCells cur off (Builtin.zeroCells z.cells k).toList)) := by
      obtain ⟨k', rfl⟩ : ∃ k', k = k' + 1 := ⟨k - 1, by omega⟩
      simp [ex, execOp, resolve, invoke, builtin, hk x _ hx, Builtin.clear_, run_underlying hS', hz.run w]
      rw [hst]
      rfl
    rw [hrun]
    obtain ⟨e1, e2, e3, e4⟩ := setRow_os w b (putCells cur off (Builtin.zeroCells z.cells k).toList)
    have hfit' : off + (Builtin.zeroCells z.cells k).toList.length ≤ cur.toList.length := by rw [hzl]; simpa using hfit
    refine ⟨H, _, ok1 (en' := blk b (.cells (putCells cur off (Builtin.zeroCells z.cells k).toList) E (0, 0))) ho e1 e2 e3 (Nat.le_refl _) (by rw [e4]; exact Nat.le_refl _) (fun k _ hk => setRow_other w b k _ (by simpa [blk] using hk)) (setRow_heap w b cur _ E _ hb) (fun k hk => .inl hk) (by simp [blk]), _, rfl, rfl, _, rfl, ?_, ?_⟩
    · have := putL_length hfit'
      simpa [putCells] using this
    · simp only [putCells, putL, List.append_assoc]
      rw [List.take_append_of_le_length (by rw [List.length_take]; omega), List.take_take, Nat.min_self]
theorem K_clear {x : Operand} {t e ty : TypeId} {pos : String} {aft : Array Edge} {b off k m cap : Nat} {cur : Array Value} {E : TypeId} {z : Value} (j : Nat) (hS : slcOk P t e) (hz : zeroOk P e z) (hz1 : z.cells.all Value.oneCell' = true)
    (hx : ev l x = some (.slice (some ⟨b, off, none⟩) k cap)) (hzs : z.cells.size = m) (hj : hl[j]? = some (blk b (.cells cur E (0, 0)))) (hfit : off + k * m ≤ cur.size)
    (h : ∀ cur', cur'.size = cur.size → cur'.toList.take off = cur.toList.take off → KO P n c ops Q rest l (hl.set j (blk b (.cells cur' E (0, 0)))) H) :
    KO P n c ops Q (⟨none, .call ⟨.builtin .clear, #[x], #[t]⟩, ty, pos, aft, none⟩ :: rest) l hl H :=
  KE1_ j hj (E_clear hS hz hz1 hx hzs hfit) (by rintro v H' en' _ ⟨rfl, cur', rfl, h1, h2⟩; exact h cur' h1 h2)
/-! ### Elements' cells in a block -/
theorem flat_len {α : Type} {enc : α → List Value} {sz : Nat} (hk : ∀ x, (enc x).length = sz) (it : List α) : (it.flatMap enc).length = it.length * sz := by
  induction it with
  | nil => simp
  | cons a l ih => simp only [List.flatMap_cons, List.length_append, ih, hk, List.length_cons, Nat.succ_mul]; omega
theorem flat_get {α : Type} {enc : α → List Value} {sz : Nat} (hk : ∀ x, (enc x).length = sz) (it : List α) (tail : List Value) {i : Nat} (hi : i < it.length) {off : Nat} (ho : off = i * sz) :
    (((it.flatMap enc ++ tail).toArray.toList).drop off).take sz = enc it[i] := by
  subst ho
  have e : it = it.take i ++ it[i] :: it.drop (i + 1) := by simp
  have hl : ((it.take i).flatMap enc).length = i * sz := by rw [flat_len hk, List.length_take, Nat.min_eq_left (by omega)]
  have h2 : it.flatMap enc ++ tail = (it.take i).flatMap enc ++ (enc it[i] ++ ((it.drop (i + 1)).flatMap enc ++ tail)) := by
    conv => lhs; rw [e]
    simp only [List.flatMap_append, List.flatMap_cons, List.append_assoc]
  show ((it.flatMap enc ++ tail).drop (i * sz)).take sz = _
  rw [h2, List.drop_append_of_le_length (by omega), List.drop_of_length_le (by omega), List.nil_append, List.take_append_of_le_length (by rw [hk]; exact Nat.le_refl _), List.take_of_length_le (by rw [hk]; exact Nat.le_refl _)]
theorem flat_put {α : Type} {enc : α → List Value} {sz : Nat} (hk : ∀ x, (enc x).length = sz) (it : List α) (tail : List Value) {i : Nat} (hi : i < it.length) (y : α) {off : Nat} (ho : off = i * sz) {v : Value} (hv : v.cells.toList = enc y) :
    putCells (it.flatMap enc ++ tail).toArray off v.cells.toList = ((it.set i y).flatMap enc ++ tail).toArray := by
  subst ho
  unfold putCells putL
  rw [hv, hk]
  congr 1
  have e : it = it.take i ++ it[i] :: it.drop (i + 1) := by simp
  have e2 : it.set i y = it.take i ++ y :: it.drop (i + 1) := List.set_eq_take_append_cons_drop .. |>.trans (by rw [if_pos hi])
  have hl : ((it.take i).flatMap enc).length = i * sz := by rw [flat_len hk, List.length_take, Nat.min_eq_left (by omega)]
  have h2 : it.flatMap enc ++ tail = (it.take i).flatMap enc ++ (enc it[i] ++ ((it.drop (i + 1)).flatMap enc ++ tail)) := by
    conv => lhs; rw [e]
    simp only [List.flatMap_append, List.flatMap_cons, List.append_assoc]
  have h3 : (it.set i y).flatMap enc ++ tail = (it.take i).flatMap enc ++ (enc y ++ ((it.drop (i + 1)).flatMap enc ++ tail)) := by
    rw [e2]
    simp only [List.flatMap_append, List.flatMap_cons, List.append_assoc]
  show (it.flatMap enc ++ tail).take (i * sz) ++ enc y ++ (it.flatMap enc ++ tail).drop (i * sz + sz) = _
  have hd : (it.flatMap enc ++ tail).drop (i * sz + sz) = (it.drop (i + 1)).flatMap enc ++ tail := by
    rw [h2, ← List.append_assoc]
    exact List.drop_left' (by rw [List.length_append, hl, hk])
  have ht : (it.flatMap enc ++ tail).take (i * sz) = (it.take i).flatMap enc := by
    rw [h2]
    exact List.take_left' hl
  rw [hd, ht, h3, List.append_assoc]
theorem flat_take {α : Type} {enc : α → List Value} {sz : Nat} (hk : ∀ x, (enc x).length = sz) (it : List α) (tail : List Value) {m : Nat} (hm : m ≤ it.length) : (it.flatMap enc ++ tail).take (m * sz) = (it.take m).flatMap enc := by
  have e : it = it.take m ++ it.drop m := by simp
  have hl : ((it.take m).flatMap enc).length = m * sz := by rw [flat_len hk, List.length_take, Nat.min_eq_left hm]
  have h2 : it.flatMap enc ++ tail = (it.take m).flatMap enc ++ ((it.drop m).flatMap enc ++ tail) := by
    conv => lhs; rw [e]
    simp only [List.flatMap_append, List.append_assoc]
  rw [h2, List.take_append_of_le_length (by omega), List.take_of_length_le (by omega)]
/-! ### Dropping like neighbours in place -/
theorem compF_snoc {α : Type} (eq : α → α → Bool) {xs : List α} {k : Nat} (h0 : 0 < k) (hk : k < xs.length) : compF eq none (xs.take (k + 1)) = compF eq none (xs.take k) ++ if eq xs[k] xs[k - 1] = true then [] else [xs[k]] := by
  have e : xs.take (k + 1) = xs.take k ++ [xs[k]] := by rw [List.take_add_one, List.getElem?_eq_getElem hk]; rfl
  have hl : (xs.take k).getLast? = some xs[k - 1] := by
    rw [List.getLast?_eq_getElem?, List.length_take, Nat.min_eq_left (by omega), List.getElem?_take, if_pos (by omega), List.getElem?_eq_getElem (by omega)]
  rw [e, compF_append, hl]
  rfl
theorem compF_all {α : Type} {eq : α → α → Bool} {xs : List α} : ∀ {k : Nat}, k ≤ xs.length → (∀ j (h : j < xs.length), 0 < j → j < k → eq xs[j] xs[j - 1] = false) → compF eq none (xs.take k) = xs.take k
  | 0, _, _ => by simp [compF]
  | k + 1, hk, h => by
    have ih := compF_all (eq := eq) (xs := xs) (k := k) (by omega) fun j hj h0 hjk => h j hj h0 (by omega)
    rcases Nat.eq_zero_or_pos k with e | e
    · subst e
      cases xs with
      | nil => simp at hk
      | cons a xs => simp [compF]
    · rw [compF_snoc eq e (by omega), ih, h k (by omega) e (by omega), List.take_add_one, List.getElem?_eq_getElem (by omega)]
      rfl
structure CpI {α : Type} (eq : α → α → Bool) (xs it : List α) (w m : Nat) : Prop where
  len : it.length = xs.length
  wm : w < m
  mn : m ≤ xs.length
  done : it.take w = compF eq none (xs.take m)
  todo : ∀ j (h : j < xs.length), m ≤ j + 1 → it[j]'(by rw [len]; exact h) = xs[j]
theorem CpI.start {α : Type} {eq : α → α → Bool} {xs : List α} {k : Nat} (h0 : 0 < k) (hk : k < xs.length) (hall : ∀ j (h : j < xs.length), 0 < j → j < k → eq xs[j] xs[j - 1] = false) (hd : eq xs[k] xs[k - 1] = true) : CpI eq xs xs k (k + 1) :=
  ⟨rfl, by omega, by omega, by rw [compF_snoc eq h0 hk, compF_all (by omega) hall, if_pos hd, List.append_nil], fun _ _ _ => rfl⟩
theorem CpI.skip {α : Type} {eq : α → α → Bool} {xs it : List α} {w m : Nat} (h : CpI eq xs it w m) (hm : m < xs.length) (hd : eq xs[m] xs[m - 1] = true) : CpI eq xs it w (m + 1) :=
  ⟨h.len, by have := h.wm; omega, by omega, by rw [compF_snoc eq (by have := h.wm; omega) hm, if_pos hd, List.append_nil, h.done], fun j hj hm2 => h.todo j hj (by omega)⟩
theorem CpI.keep {α : Type} {eq : α → α → Bool} {xs it : List α} {w m : Nat} (h : CpI eq xs it w m) (hm : m < xs.length) (hd : eq xs[m] xs[m - 1] = false) : CpI eq xs (it.set w xs[m]) (w + 1) (m + 1) := by
  have hwm := h.wm
  refine ⟨by rw [List.length_set]; exact h.len, by omega, by omega, ?_, fun j hj hm2 => ?_⟩
  · rw [compF_snoc eq (by omega) hm, hd, ← h.done, List.take_add_one, List.getElem?_set_self (by rw [h.len]; omega), List.take_set_of_le (Nat.le_refl _)]
    rfl
  · rw [List.getElem_set_ne (by omega)]; exact h.todo j hj (by omega)
/-! ### Scopes; parts of slices, told -/
theorem K_scope {code : Code} (h : KC P n c code (Exit.noGoto Q) l hl H) : KC P n c (.scope code) Q l hl H := fun ρ w hm ho => wp_scope_straight (h ρ w hm ho)
theorem Q_scope (h : KQ n c Q .normal l hl H) : KQ n c (Exit.noGoto Q) .normal l hl H := h
theorem Q_scope_ret (h : KQ n c Q .ret l hl H) : KQ n c (Exit.noGoto Q) .ret l hl H := h
theorem Q_scope_exit {id : Nat} (h : KQ n c Q (.exit id) l hl H) : KQ n c (Exit.noGoto Q) (.exit id) l hl H := h
theorem R_sliceHiE {t e ty : TypeId} {x y : Operand} {g k cap m : Nat} {agg : Bool} {sz : Nat} (hS : slcOk P t e) (hT : Ty P e agg sz) (hx : ev l x = some (.slice (some ⟨g, 0, none⟩) k cap)) (hy : ev l y = some (.int .i64 (m : Int))) (hc : m ≤ cap) :
    ValOk P l H hl (.slice t x none (some y) none) ty (.slice (some ⟨g, 0, none⟩) m cap) := by
  have h := R_sliceHi (hl := hl) (H := H) (ty := ty) hS hT hx hy hc
  have e : hiV (some ⟨g, 0, none⟩) cap m = .slice (some ⟨g, 0, none⟩) m cap := by
    unfold hiV
    split <;> simp [addr_add]
  rw [e] at h; exact h
theorem R_sliceLoE {t e ty : TypeId} {x y : Operand} {g off k cap m : Nat} {agg : Bool} {sz : Nat} (hS : slcOk P t e) (hT : Ty P e agg sz) (hx : ev l x = some (.slice (some ⟨g, off, none⟩) k cap)) (hy : ev l y = some (.int .i64 (m : Int))) (hc : m ≤ k) (hlt : m < cap) :
    ValOk P l H hl (.slice t x (some y) none none) ty (.slice (some ⟨g, off + m * sz, none⟩) (k - m) (cap - m)) := by
  have h := R_sliceLo (hl := hl) (H := H) (ty := ty) hS hT hx hy hc
  have e : loV (some ⟨g, off, none⟩) k cap m sz = .slice (some ⟨g, off + m * sz, none⟩) (k - m) (cap - m) := by
    unfold loV
    rw [if_neg (by omega)]
    simp [addr_add]
  rw [e] at h; exact h
theorem SatO.openRow {f : FuncId} {args : Array Value} {v : Value} {e : TypeId} {sz k : Nat} {xs : List Value} {post : Value → View → HL → Prop} (h0 : v = nilS → k = 0 → xs = [] → SatO P f args H hl post)
    (h1 : ∀ g cap tail, v = .slice (some ⟨g, 0, none⟩) k cap → k ≤ cap → cap ≤ maxLen → xs.length = k * sz → (xs ++ tail).length = cap * sz → SatO P f args H (blk g (.cells (xs ++ tail).toArray e (0, 0)) :: hl) post) :
    SatO P f args H (row v e sz k xs :: hl) post := by
  intro w hw
  rcases hw.ok.openRow with ⟨rfl, rfl, rfl⟩ | ⟨g, cap, tail, rfl, b, d, e1, f, k1⟩
  · have h := h0 rfl rfl rfl w (hw.sublist (List.sublist_cons_self _ _))
    have hf : feet (row nilS e sz 0 [] :: hl) = feet hl := by simp [feet, row, rowFoot, nilS]
    rw [hf]; exact h
  · have h := h1 g cap tail rfl b d e1 f w k1.hasL
    have hf : feet (row (.slice (some ⟨g, 0, none⟩) k cap) e sz k xs :: hl) = feet (blk g (.cells (xs ++ tail).toArray e (0, 0)) :: hl) := by simp [feet, row, rowFoot, blk]
    rw [hf]; exact h
theorem cellRV_len (p : Rl × Value) : (cellRV p).length = 3 := rfl
theorem RVok.one {H : View} {p : Rl × Value} (h : RVok H p) : (cellRV p).all Value.oneCell' = true := by
  obtain ⟨a, cp, e⟩ := h.1.shape
  simp [cellRV, e, Value.oneCell']
def cellI (x : Int) : List Value := [.int .i64 x]
theorem cellI_len (x : Int) : (cellI x).length = 1 := rfl
theorem ints_flat (xs : List Int) : ints xs = xs.flatMap cellI := by
  induction xs with
  | nil => rfl
  | cons x xs ih => simp only [ints, List.map_cons, List.flatMap_cons, cellI, List.cons_append, List.nil_append] at *; rw [ih]
end
end Pal
namespace Pal
def eqI (x y : Int) : Bool := decide (x = y)
end Pal
