/-
  Loads and stores whose place or outcome is told, reads of a row of one's own, calls that hand over, over PalU. Own work. No statement of the seat is proved here.
-/
import Derived.Test.YtdclodapkhgabaaGreatDoorPalU
namespace Pal
open Go
section rules
variable {P : Program} {n : Nat} {c : Cx} {Q : Exit → Act → World → Prop} {l : KL} {hl : HL} {H : View}
variable {ops : Array Oper} {rest : List Oper} {d : Nat} {v : Value} {op : Op} {ty : TypeId} {pos : String} {aft : Array Edge}

theorem Q_fall {fn : Func} {R : Ending → World → Prop} (h : KQ n c (bodyPost P fn R) .ret l hl H) : KQ n c (bodyPost P fn R) .normal l hl H := fun ρ w hm ho => h ρ w hm ho
/-- A whole block. -/
theorem R_loadW {t : TypeId} {x : Operand} {sz b : Nat} {cs : Array Value} {T : TypeId} {fz : Nat × Nat} (hT : Ty P t true sz) (i : Nat) (hx : ev l x = some (.pointer (some ⟨b, 0, none⟩)))
    (hi : hl[i]? = some (blk b (.cells cs T fz))) (hsz : cs.size = sz) (hv : Value.agg cs = v) : ValOk P l H hl (.load t x) ty v :=
  R_loadO (vs := cs.toList) hT i hx hi (by rw [List.drop_zero, List.take_of_length_le (by simp [hsz])]) (by simpa using hsz) (fun e => by cases e) (by simpa [mkV] using hv)
/-- One cell, its place told. -/
theorem R_loadC {t : TypeId} {x : Operand} {b off : Nat} {cs : Array Value} {T : TypeId} {fz : Nat × Nat} (hT : Ty P t false 1) (i : Nat) (hx : ev l x = some (.pointer (some ⟨b, off, none⟩)))
    (hi : hl[i]? = some (blk b (.cells cs T fz))) (hv : cs[off]? = some v) : ValOk P l H hl (.load t x) ty v := by
  have h1 : (cs.toList.drop off).take 1 = [v] := by
    have hv' : cs.toList[off]? = some v := by simpa using hv
    obtain ⟨h2, h3⟩ := List.getElem?_eq_some_iff.1 hv'
    rw [List.drop_eq_getElem_cons h2, h3]; rfl
  exact R_loadO hT i hx hi h1 rfl (fun _ => rfl) rfl
theorem putCells_all {cs : Array Value} {vs : Array Value} (h : cs.size = vs.size) : putCells cs 0 vs.toList = vs := by
  unfold putCells putL
  have h1 : List.drop (0 + vs.toList.length) cs.toList = [] := List.drop_eq_nil_of_le (by simp [h])
  rw [h1]
  simp
theorem K_storeE {t : TypeId} {x y : Operand} {agg : Bool} {sz b off : Nat} {cs cs' : Array Value} {T : TypeId} (hT : Ty P t agg sz) (i : Nat) (hx : ev l x = some (.pointer (some ⟨b, off, none⟩))) (hy : ev l y = some v)
    (hi : hl[i]? = some (blk b (.cells cs T (0, 0)))) (hsz : v.cells.toList.length = sz) (hfit : off + v.cells.toList.length ≤ cs.size) (h1 : v.cells.toList.all Value.oneCell' = true) (he : putCells cs off v.cells.toList = cs')
    (h : KO P n c ops Q rest l (hl.set i (blk b (.cells cs' T (0, 0)))) H) : KO P n c ops Q (⟨none, .store t x y, ty, pos, aft, none⟩ :: rest) l hl H := by
  subst he; exact K_store hT i hx hy hi hsz (Nat.ble_eq.mpr hfit) h1 h
theorem K_storeW {t : TypeId} {x y : Operand} {agg : Bool} {sz b : Nat} {cs cs' : Array Value} {T : TypeId} (hT : Ty P t agg sz) (i : Nat) (hx : ev l x = some (.pointer (some ⟨b, 0, none⟩))) (hy : ev l y = some v)
    (hi : hl[i]? = some (blk b (.cells cs T (0, 0)))) (hv : v.cells = cs') (hsz : cs'.size = sz) (hcs : cs.size = sz) (h1 : cs'.toList.all Value.oneCell' = true)
    (h : KO P n c ops Q rest l (hl.set i (blk b (.cells cs' T (0, 0)))) H) : KO P n c ops Q (⟨none, .store t x y, ty, pos, aft, none⟩ :: rest) l hl H := by
  subst hv
  refine K_storeE hT i hx hy hi (by simpa using hsz) (by simp [hsz, hcs]) h1 (putCells_all (by rw [hsz, hcs])) h
variable {ol : List Oper} {keep : HL} {fin : Bool} {T : ST} {R : List Nat} {i : Nat} {g : Option (Nat × Bool)}
theorem D_lastStoreE {t : TypeId} {x y : Operand} {agg : Bool} {sz b off : Nat} {cs cs' : Array Value} {E : TypeId} (hT : Ty P t agg sz) (j : Nat) (hi : nthO ol i = some ⟨none, .store t x y, ty, pos, aft, g⟩) (hw : wlO ol l g = some true)
    (hx : ev l x = some (.pointer (some ⟨b, off, none⟩))) (hy : ev l y = some v) (hj : hl[j]? = some (blk b (.cells cs E (0, 0)))) (hsz : v.cells.toList.length = sz) (hfit : off + v.cells.toList.length ≤ cs.size) (h1 : v.cells.toList.all Value.oneCell' = true)
    (he : putCells cs off v.cells.toList = cs') (h : KQ n c Q .normal l (hl.set j (blk b (.cells cs' E (0, 0)))) H) : KD P n ol.toArray keep true (TQ n c Q) [i] l hl H := by
  subst he; exact D_lastStore hT j hi hw hx hy hj hsz (Nat.ble_eq.mpr hfit) h1 h
theorem D_lastStoreW {t : TypeId} {x y : Operand} {agg : Bool} {sz b : Nat} {cs cs' : Array Value} {E : TypeId} (hT : Ty P t agg sz) (j : Nat) (hi : nthO ol i = some ⟨none, .store t x y, ty, pos, aft, g⟩) (hw : wlO ol l g = some true)
    (hx : ev l x = some (.pointer (some ⟨b, 0, none⟩))) (hy : ev l y = some v) (hj : hl[j]? = some (blk b (.cells cs E (0, 0)))) (hv : v.cells = cs') (hsz : cs'.size = sz) (hcs : cs.size = sz) (h1 : cs'.toList.all Value.oneCell' = true)
    (h : KQ n c Q .normal l (hl.set j (blk b (.cells cs' E (0, 0)))) H) : KD P n ol.toArray keep true (TQ n c Q) [i] l hl H := by
  subst hv
  exact D_lastStoreE hT j hi hw hx hy hj (by simpa using hsz) (by simp [hsz, hcs]) h1 (putCells_all (by rw [hsz, hcs])) h
/-- A read of a row of one's own. -/
theorem R_loadRow {t : TypeId} {x : Operand} {agg : Bool} {sz b off : Nat} {a : Addr} {e : TypeId} {sz' k k' cap : Nat} {xs vs : List Value} (hT : Ty P t agg sz) (j : Nat) (hx : ev l x = some (.pointer (some ⟨b, off, none⟩)))
    (hj : hl[j]? = some (row (.slice (some a) k' cap) e sz' k xs)) (ha : a.block = b) (hvs : (xs.drop off).take sz = vs) (hlen : vs.length = sz) (h1 : agg = false → sz = 1) (hv : mkV agg vs = v) : ValOk P l H hl (.load t x) ty v := by
  intro ee w hk ho
  subst hv
  obtain ⟨_, hr⟩ := ho.own _ (List.mem_of_getElem? hj)
  rcases hr with ⟨hr, _⟩ | ⟨g, cap', cur, hr, hg, _, _, _, htk⟩
  · cases hr
  · simp only [Value.slice.injEq, Option.some.injEq] at hr
    obtain ⟨rfl, _, _⟩ := hr
    simp only at ha
    subst ha
    have hg' : w.heap[g]? = some (.cells cur e (0, 0)) := hg
    have hc : ∀ j u, vs[j]? = some u → w.cell? ((⟨g, off, none⟩ : Addr).add j) = some u := by
      intro j u hj
      rw [addr_add]
      rw [← hvs, List.getElem?_take] at hj
      split at hj
      · rw [List.getElem?_drop, ← htk, List.getElem?_take] at hj
        split at hj
        · simp [World.cell?, hg']; simpa using hj
        · cases hj
      · cases hj
    simp [ex, execOp, hk x _ hx, Instr.loadAt, Instr.sureAddr, run_loadVar hT hlen h1 w hc]
/-- A call that is handed p and ends with q. -/
theorem K_callO {xs : List Operand} {ats : Array TypeId} {f : FuncId} {gx : Operand} {first captured vs : List Value} {post : Value → View → HL → Prop} (p r : HL) (hp : hl.Perm (p ++ r))
    (hcal : callable P f = true) (hg : ev l gx = some (.func (.func f) first.toArray captured.toArray)) (hxs : evs l xs = some vs) (hdn : Nat.blt d n = true) (hS : SatO P f (first ++ vs ++ captured).toArray H p post)
    (h : ∀ u H' q, VLe H H' → post u H' q → KO P n c ops Q rest ((d, u) :: l) (q ++ r) H') :
    KO P n c ops Q (⟨some d, .call ⟨.value gx, xs.toArray, ats⟩, ty, pos, aft, none⟩ :: rest) l hl H :=
  KE p r hp (E_call hcal hg hxs hS) hdn h
theorem D_callO {xs : List Operand} {ats : Array TypeId} {f : FuncId} {gx : Operand} {first captured vs : List Value} {post : Value → View → HL → Prop} (p r : HL) (hi : nthO ol i = some ⟨some d, .call ⟨.value gx, xs.toArray, ats⟩, ty, pos, aft, g⟩)
    (hw : wlO ol l g = some true) (hcal : callable P f = true) (hg : ev l gx = some (.func (.func f) first.toArray captured.toArray)) (hxs : evs l xs = some vs) (hp : hl.Perm (p ++ r)) (hkp : memAll keep r) (hS : SatO P f (first ++ vs ++ captured).toArray H p post)
    (h : ∀ u H' q, VLe H H' → post u H' q → KD P n ol.toArray keep fin T R ((d, u) :: l) (q ++ r) H') : KD P n ol.toArray keep fin T (i :: R) l hl H :=
  D_eff p r hi hw rfl hp hkp.mem (E_call hcal hg hxs hS) h
theorem K_mapPut {t kt et : TypeId} {x y z : Operand} {b : Nat} {kvs : List (Value × Value)} {key val : Value} {kl : Lit} (K : WideMaps.KeyLaw P kt) (ht : P.underlying t = some (.map kt et)) (j : Nat)
    (hx : ev l x = some (mp b)) (hy : ev l y = some key) (hz : ev l z = some val) (hj : hl[j]? = some (mapO b kvs)) (hkey : keyOf P kt key = some kl) (hks : ∀ p ∈ kvs, ∃ l, keyOf P kt p.1 = some l) (ho : ∀ p ∈ kvs, p.1 ≠ key)
    (h : KO P n c ops Q rest l (hl.set j (mapO b (kvs ++ [(key, val)]))) H) : KO P n c ops Q (⟨none, .mapUpdate t x y z, ty, pos, aft, none⟩ :: rest) l hl H :=
  KE1_ j hj (E_mapPut K ht hx hy hz hkey hks ho) (by rintro _ H' en' _ ⟨rfl, rfl⟩; exact h)
theorem D_lastPut {t kt et : TypeId} {x y z : Operand} {b : Nat} {kvs : List (Value × Value)} {key val : Value} {kl : Lit} (K : WideMaps.KeyLaw P kt) (ht : P.underlying t = some (.map kt et)) (j : Nat)
    (hi : nthO ol i = some ⟨none, .mapUpdate t x y z, ty, pos, aft, g⟩) (hw : wlO ol l g = some true)
    (hx : ev l x = some (mp b)) (hy : ev l y = some key) (hz : ev l z = some val) (hj : hl[j]? = some (mapO b kvs)) (hkey : keyOf P kt key = some kl) (hks : ∀ p ∈ kvs, ∃ l, keyOf P kt p.1 = some l) (ho : ∀ p ∈ kvs, p.1 ≠ key)
    (h : KQ n c Q .normal l (hl.set j (mapO b (kvs ++ [(key, val)]))) H) : KD P n ol.toArray keep true (TQ n c Q) [i] l hl H :=
  D_last [_] (hl.eraseIdx j) hi hw rfl (perm_erase hj) (E_mapPut K ht hx hy hz hkey hks ho) (by
    rintro _ H' q _ ⟨en', rfl, rfl, rfl⟩
    exact fun ρ w hm ho => h ρ w hm (ho.perm (perm_set hj)))
end rules
/-- The first k words met with t's. -/
def upto (s t k : Nat) : Nat := ((s &&& t) % 2 ^ (64 * k)) ||| ((s >>> (64 * k)) <<< (64 * k))
theorem upto_testBit (s t k j : Nat) : (upto s t k).testBit j = if j < 64 * k then (s &&& t).testBit j else s.testBit j := by
  unfold upto
  rw [Nat.testBit_or, Nat.testBit_mod_two_pow, Nat.testBit_shiftLeft, Nat.testBit_shiftRight]
  by_cases h : j < 64 * k
  · have : ¬ (j ≥ 64 * k) := by omega
    simp [h, this]
  · have h2 : j ≥ 64 * k := by omega
    simp [h, h2]
theorem wd_upto (s t k i : Nat) : wd (upto s t k) i = if i < k then wd s i &&& wd t i else wd s i := by
  apply Nat.eq_of_testBit_eq
  intro j
  rw [wd_testBit, upto_testBit]
  by_cases hj : j < 64
  · by_cases hi : i < k
    · have : 64 * i + j < 64 * k := by omega
      simp [hi, this, hj, wd_testBit]
    · have : ¬ (64 * i + j < 64 * k) := by omega
      simp [hi, this, hj, wd_testBit]
  · by_cases hi : i < k <;> simp [hi, hj, wd_testBit]
theorem upto_zero (s t : Nat) : upto s t 0 = s := by
  apply Nat.eq_of_testBit_eq
  intro j
  rw [upto_testBit]; simp
theorem upto_all {s t : Nat} (h : s < big) : upto s t 16 = s &&& t := by
  apply Nat.eq_of_testBit_eq
  intro j
  rw [upto_testBit]
  by_cases hj : j < 64 * 16
  · simp [hj]
  · simp only [hj, if_false]
    rw [testBit_big h (by omega), testBit_big (and_big t h) (by omega)]
theorem wd_upto_succ (s t k i : Nat) : wd (upto s t (k + 1)) i = if i = k then wd (upto s t k) k &&& wd t k else wd (upto s t k) i := by
  rw [wd_upto, wd_upto, wd_upto]
  by_cases h1 : i = k
  · subst h1; simp
  · by_cases h2 : i < k
    · simp [h1, h2, Nat.lt_succ_of_lt h2]
    · have : ¬ i < k + 1 := by omega
      simp [h1, h2, this]
/-! ### Words of a set in a box -/
theorem cells_get (s k : Nat) {off : Nat} (ho : off = k) (hk : k < 16) : (setV s).cells[off]? = some (wv s k) := by
  subst ho
  have := setL_get s off hk
  simpa [setV, Value.cells] using this
theorem zero_big : 0 < big := by rw [big_eq]; exact Nat.two_pow_pos kBits
theorem cells_fit (s k : Nat) {x : Int} {off : Nat} (ho : off = k) (hk : k < 16) : off + (Value.int .u64 x).cells.toList.length ≤ (setV s).cells.size := by
  subst ho
  exact hk
theorem cells_put {s t k x off : Nat} (ho : off = k) (hk : k < 16) (h : ∀ i, i < 16 → wd t i = if i = k then x else wd s i) :
    putCells (setV s).cells off (Value.int .u64 (x : Int)).cells.toList = (setV t).cells := by
  subst ho
  have := setL_put hk h
  show (putL (setL s) off [.int .u64 (x : Int)]).toArray = (setL t).toArray
  rw [this]
/-! ### Lists into sets, the least element -/
def wth (s : Nat) (i : Int) : Nat := if 0 ≤ i ∧ i < 1024 then s ||| 2 ^ i.toNat else s
def ofL (xs : List Int) : Nat := xs.foldl wth 0
theorem ofL_take (xs : List Int) (k : Nat) (hk : k < xs.length) : ofL (xs.take (k + 1)) = wth (ofL (xs.take k)) xs[k] := by
  unfold ofL
  rw [List.take_succ_eq_append_getElem hk, List.foldl_append]; rfl
def Tab (H : View) : Prop := At H 0 0 (bruijn.map fun (k : Nat) => Value.int .u8 (k : Int))
theorem Tab.mono {H H' : View} (h : Tab H) (hle : VLe H H') : Tab H' := At.mono h hle
theorem Tab.get {H : View} (h : Tab H) {i k : Nat} (_hi : i < 64) (hk : bruijn[i]? = some k) {off : Nat} (ho : off = i) : At H 0 off [.int .u8 (k : Int)] := by
  subst ho
  have := At.sub (p := off) (cs := [.int .u8 (k : Int)]) h (by
    intro j v hj
    cases j with
    | zero => simp at hj; subst hj; simp [hk]
    | succ j => simp at hj)
  simpa using this
theorem vadd_self (H : View) (b : Nat) (o : Obj) : vadd H b o b = some o := by simp [vadd]
def minS (s : Nat) : Int := if s = 0 then 0 else ((low s 1024 0 : Nat) : Int)
theorem low_eq {s m : Nat} (hm : m < 1024) (h1 : s.testBit m = true) (h2 : ∀ j, j < m → s.testBit j = false) : low s 1024 0 = m := by
  obtain ⟨g1, _, g3, g4⟩ := low_spec s 1024 0 ⟨m, Nat.zero_le _, by omega, h1⟩
  rcases Nat.lt_trichotomy (low s 1024 0) m with h | h | h
  · rw [h2 _ h] at g1; cases g1
  · exact h
  · rw [g4 m (Nat.zero_le _) h] at h1; cases h1
theorem minS_word {s k : Nat} (hk : k < 16) (hz : ∀ i, i < k → wd s i = 0) (hne : wd s k ≠ 0) : minS s = 64 * (k : Int) + ((low (wd s k) 64 0 : Nat) : Int) ∧ s ≠ 0 ∧ low (wd s k) 64 0 < 64 := by
  obtain ⟨j, hj1, hj2⟩ := exists_bit hne (show wd s k < 2 ^ 64 from two64 ▸ wd_lt s k)
  obtain ⟨g1, _, g3, g4⟩ := low_spec (wd s k) 64 0 ⟨j, Nat.zero_le _, by omega, hj2⟩
  generalize low (wd s k) 64 0 = m at g1 g3 g4 ⊢
  have hb : s.testBit (64 * k + m) = true := by
    have := wd_testBit s k m
    rw [g1] at this
    simp at this
    exact this.2
  have hs : s ≠ 0 := fun e => by subst e; simp at hb
  have hl : low s 1024 0 = 64 * k + m := by
    refine low_eq (by omega) hb fun i hi => ?_
    rw [testBit_wd]
    by_cases e : i / 64 < k
    · rw [hz _ e]; simp
    · have : i / 64 = k := by omega
      rw [this]
      exact g4 _ (Nat.zero_le _) (by omega)
  refine ⟨?_, hs, by omega⟩
  rw [minS, if_neg hs, hl]
  omega
theorem zero_of_words {s : Nat} (hs : s < big) (hz : ∀ i, i < 16 → wd s i = 0) : s = 0 := set_ext hs zero_big fun i hi => by rw [hz i hi]; simp [wd]
theorem zero_or_bit {s : Nat} (hs : s < big) (h : s ≠ 0) : s.testBit (low s 1024 0) = true ∧ low s 1024 0 < 1024 ∧ ∀ j, j < low s 1024 0 → s.testBit j = false := by
  obtain ⟨j, hj1, hj2⟩ := exists_bit h (show s < 2 ^ kBits from big_eq ▸ hs)
  rw [kBits_eq] at hj1
  obtain ⟨g1, _, g3, g4⟩ := low_spec s 1024 0 ⟨j, Nat.zero_le _, by omega, hj2⟩
  exact ⟨g1, by omega, fun j hj => g4 j (Nat.zero_le _) hj⟩
theorem els_zero : els 0 = [] := by
  unfold els
  have : (List.range 1024).filter (fun i => (0 : Nat).testBit i) = [] := List.filter_eq_nil_iff.2 (fun i _ => by simp)
  rw [this]; rfl
theorem range_split (m : Nat) (hm : m < 1024) : List.range 1024 = List.range m ++ m :: List.range' (m + 1) (1023 - m) := by
  rw [List.range_eq_range', List.range_eq_range', show 1024 = m + (1 + (1023 - m)) by omega, ← List.range'_append_1, ← List.range'_append_1]
  simp
theorem els_step {s : Nat} (hs : s < big) (h : s ≠ 0) : els s = minS s :: els (clr s (low s 1024 0)) := by
  obtain ⟨g1, g2, g3⟩ := zero_or_bit hs h
  have hm : minS s = ((low s 1024 0 : Nat) : Int) := by rw [minS, if_neg h]
  rw [hm]
  generalize low s 1024 0 = m at g1 g2 g3 ⊢
  unfold els
  rw [range_split m g2]
  simp only [List.filter_append, List.filter_cons, g1, if_true, clr_testBit, decide_true, Bool.not_true, Bool.and_false, Bool.false_eq_true, if_false]
  have e1 : (List.range m).filter (fun i => s.testBit i) = [] := List.filter_eq_nil_iff.2 (fun i hi => by rw [g3 i (List.mem_range.1 hi)]; simp)
  have e2 : (List.range m).filter (fun i => s.testBit i && !decide (m = i)) = [] := List.filter_eq_nil_iff.2 (fun i hi => by rw [g3 i (List.mem_range.1 hi)]; simp)
  have e3 : (List.range' (m + 1) (1023 - m)).filter (fun i => s.testBit i && !decide (m = i)) = (List.range' (m + 1) (1023 - m)).filter (fun i => s.testBit i) := by
    apply List.filter_congr
    intro i hi
    have := (List.mem_range'_1.1 hi).1
    have : ¬ m = i := by omega
    simp [this]
  rw [e1, e2, e3]
  rfl
theorem els_mem {s : Nat} {x : Int} (h : x ∈ els s) : ∃ k : Nat, x = (k : Int) ∧ k < 1024 ∧ s.testBit k = true := by
  obtain ⟨k, hk, rfl⟩ := List.mem_map.1 h
  obtain ⟨h1, h2⟩ := List.mem_filter.1 hk
  exact ⟨k, rfl, List.mem_range.1 h1, h2⟩
theorem els_ok (s : Nat) : ∀ x ∈ els s, i64ok x := by
  intro x hx
  obtain ⟨k, rfl, hk, _⟩ := els_mem hx
  simp only [i64ok]; omega
theorem els_len (s : Nat) : (els s).length ≤ 1099511627776 := by
  unfold els
  have := List.length_filter_le (fun i => s.testBit i) (List.range 1024)
  simp at this ⊢
  omega
end Pal
