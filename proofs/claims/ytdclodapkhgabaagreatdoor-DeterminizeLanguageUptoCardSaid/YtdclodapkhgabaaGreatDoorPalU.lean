/-
  More operations: words, arrays, maps, slices of slices, function values. Own work. No statement of the seat is proved here.
-/
import Derived.Test.YtdclodapkhgabaaGreatDoorPalS
import Derived.DeepKeys4
import Derived.ChangeKeysEq
import Derived.WalkSpells
import Derived.Laws.MakeOwn
import Derived.Laws.BitsAllLaws
namespace Pal
open Go

section rules
variable {P : Program} {n : Nat} {c : Cx} {Q : Exit → Act → World → Prop} {l : KL} {hl : HL} {H : View}
variable {ops : Array Oper} {rest : List Oper} {d : Nat} {v : Value} {op : Op} {ty : TypeId} {pos : String} {aft : Array Edge}

/-! ### Words -/
theorem R_bitsU {o : BinOp} {xt yt : TypeId} {x y : Operand} {a b r : Nat} (hx : ev l x = some (.int .u64 (a : Int))) (hy : ev l y = some (.int .u64 (b : Int))) (ha : a < 18446744073709551616) (hb : b < 18446744073709551616)
    (ht : (o = .and ∧ a &&& b = r) ∨ (o = .or ∧ a ||| b = r) ∨ (o = .andNot ∧ a &&& (18446744073709551615 - b) = r)) : ValOk P l H hl (.binOp o xt x y yt) ty (.int .u64 (r : Int)) := by
  refine (fun e w hk _ => ?_)
  simp only [ex, execOp, hk x _ hx, hk y _ hy, Sem.run_bind, run_eqGuard_int, Result.andThen_ok]
  rcases ht with ⟨rfl, rfl⟩ | ⟨rfl, rfl⟩ | ⟨rfl, rfl⟩
  · have := u64_and_nat a b ha hb
    simp only [binOp, ne_eq, not_true_eq_false, if_false, Op.intBits, Sem.run_pure, Result.andThen_ok]
    rw [← this]; rfl
  · have := u64_or_nat a b ha hb
    simp only [binOp, ne_eq, not_true_eq_false, if_false, Op.intBits, Sem.run_pure, Result.andThen_ok]
    rw [← this]; rfl
  · have := u64_andNot_nat a b ha hb
    simp only [binOp, ne_eq, not_true_eq_false, if_false, Op.intBits, Sem.run_pure, Result.andThen_ok]
    rw [← this]; rfl
theorem R_shl1U {xt yt : TypeId} {x y : Operand} {k : Nat} {i : Int} {q : IntKind} (hx : ev l x = some (.int .u64 1)) (hy : ev l y = some (.int q i)) (hi : i = (k : Int)) (hk : k < 64) : ValOk P l H hl (.binOp .shl xt x y yt) ty (.int .u64 ((2 ^ k : Nat) : Int)) := by
  subst hi
  refine (fun e w hkn _ => ?_)
  simp only [ex, execOp, hkn x _ hx, hkn y _ hy, Sem.run_bind, run_eqGuard_int, Result.andThen_ok]
  have h1 : ¬ ((k : Int) < 0) := by omega
  have h2 : min k 64 = k := by omega
  have h3 : (2 : Nat) ^ k < 18446744073709551616 := by rw [two64]; exact Nat.pow_lt_pow_right (by decide) hk
  simp only [binOp, Op.shift, h1, if_false, Int.toNat_natCast, IntKind.bits, h2, Sem.run_pure, Result.andThen_ok, IntKind.wrap_u64, Int.one_mul]
  congr 3
  rw [show ((2 : Int) ^ k) = ((2 ^ k : Nat) : Int) by simp]
  generalize 2 ^ k = m at h3 ⊢
  omega
theorem R_shrU {xt yt : TypeId} {x y : Operand} {a k : Nat} {q : IntKind} (hx : ev l x = some (.int .u64 (a : Int))) (hy : ev l y = some (.int q (k : Int))) (hk : k ≤ 64) : ValOk P l H hl (.binOp .shr xt x y yt) ty (.int .u64 ((a / 2 ^ k : Nat) : Int)) := by
  refine (fun e w hkn _ => ?_)
  simp only [ex, execOp, hkn x _ hx, hkn y _ hy, Sem.run_bind, run_eqGuard_int, Result.andThen_ok]
  have h1 : ¬ ((k : Int) < 0) := by omega
  have h2 : min k 64 = k := by omega
  simp only [binOp, Op.shift, h1, if_false, Int.toNat_natCast, IntKind.bits, h2, Sem.run_pure, Result.andThen_ok]
  congr 3
  rw [show ((2 : Int) ^ k) = ((2 ^ k : Nat) : Int) by simp]
  exact (Int.fdiv_eq_ediv_of_nonneg _ (Int.natCast_nonneg _)).trans (Int.natCast_ediv a (2 ^ k)).symm
theorem R_negU {xt : TypeId} {x : Operand} {a : Nat} (hx : ev l x = some (.int .u64 (a : Int))) (h0 : 0 < a) (h1 : a < 18446744073709551616) : ValOk P l H hl (.unOp .neg xt x) ty (.int .u64 ((18446744073709551616 - a : Nat) : Int)) :=
  (fun e w hk _ => by
    have : IntKind.u64.wrap (0 - (a : Int)) = ((18446744073709551616 - a : Nat) : Int) := by rw [IntKind.wrap_u64]; omega
    simp only [ex, execOp, hk x _ hx, Op.unary, Op.intArith, this, Sem.run_pure, Sem.run_bind, Result.andThen_ok])
theorem R_mulU {xt yt : TypeId} {x y : Operand} {a b : Nat} (hx : ev l x = some (.int .u64 (a : Int))) (hy : ev l y = some (.int .u64 (b : Int))) : ValOk P l H hl (.binOp .mul xt x y yt) ty (.int .u64 ((a * b % 18446744073709551616 : Nat) : Int)) :=
  R_arith hx hy (.inr (.inr ⟨rfl, by rw [IntKind.wrap_u64]; simp⟩))

/-! ### Arrays -/
def arrOk (P : Program) (t : TypeId) (k : Nat) (e : TypeId) : Prop := P.underlying t = some (.array k e)
theorem R_indexArr {x y : Operand} {t e : TypeId} {b off k : Nat} {q : IntKind} {i : Int} {agg : Bool} {sz : Nat} (hA : arrOk P t k e) (hT : Ty P e agg sz) (hx : ev l x = some (.pointer (some ⟨b, off, none⟩)))
    (hy : ev l y = some (.int q i)) (hi : 0 ≤ i ∧ i < k) : ValOk P l H hl (.indexAddr t x y) ty (.pointer (some ⟨b, off + i.toNat * sz, none⟩)) := by
  intro e w hk _
  have hA' : P.underlying t = some (.array k _) := hA
  simp [ex, execOp, Instr.indexAt, Instr.sureAddr, asIntOf, hk x _ hx, hk y _ hy, run_underlying hA', hi, hT.run_sizeOf, addr_add]
theorem R_indexG {y : Operand} {t e : TypeId} {g k : Nat} {q : IntKind} {i : Int} {agg : Bool} {sz : Nat} (hA : arrOk P t k e) (hT : Ty P e agg sz)
    (hy : ev l y = some (.int q i)) (hi : 0 ≤ i ∧ i < k) : ValOk P l H hl (.indexAddr t (.global g) y) ty (.pointer (some ⟨g, 0 + i.toNat * sz, none⟩)) := R_indexArr hA hT rfl hy hi
theorem R_indexV {x y : Operand} {t e : TypeId} {k i : Nat} {q : IntKind} {cs : Array Value} (hA : arrOk P t k e) (hT : Ty P e false 1) (hx : ev l x = some (.agg cs))
    (hy : ev l y = some (.int q (i : Int))) (hi : i < k) (hv : cs[i]? = some v) : ValOk P l H hl (.index t x y) ty v := by
  intro e w hk _
  have hA' : P.underlying t = some (.array k _) := hA
  simp [ex, execOp, Instr.index, asIntOf, hk x _ hx, hk y _ hy, run_underlying hA', hi, hT.run_sizeOf, part, hT.run_isAgg, hv]

/-! ### Small things -/
theorem R_nilCheck {x : Operand} {a : Addr} (hx : ev l x = some (.pointer (some a))) : ValOk P l H hl (.nilCheck x) ty (.pointer (some a)) :=
  (fun e w hk _ => by simp [ex, execOp, hk x _ hx])
theorem R_sliceNil {t e yt : TypeId} {x y : Operand} {a : Option Addr} {k cap : Nat} (hS : slcOk P t e) (hx : ev l x = some (.slice a k cap)) (hy : ev l y = some (.slice none 0 0)) : ValOk P l H hl (.binOp .eql t x y yt) ty (.bool a.isNone) := by
  intro e w hk _
  have hS' : P.underlying t = some (.slice _) := hS
  have key : ∀ d, (Op.equalIn (d + 1) t (.slice a k cap) (.slice none 0 0)).run P w = .ok a.isNone w := by
    intro d
    cases a <;> simp [Op.equalIn, run_underlying hS']
  have hg : (eqGuard .eql t x y (.slice a k cap) (.slice none 0 0)).run P w = .ok () w := by
    unfold eqGuard; simp
  simp only [ex, execOp, hk x _ hx, hk y _ hy, Sem.run_bind, hg, Result.andThen_ok, binOp]
  simp [Op.equal, Op.maxDepth, key 9999]
theorem R_min2 {x y : Operand} {ats : Array TypeId} {a b : Int} {k : IntKind} (hx : ev l x = some (.int k a)) (hy : ev l y = some (.int k b)) : ValOk P l H hl (.call ⟨.builtin .min, #[x, y], ats⟩) ty (.int k (if b < a then b else a)) := by
  intro e w hk _
  simp only [ex, execOp, resolve, hk x _ hx, hk y _ hy, invoke, builtin]
  simp [Builtin.min_, Builtin.min2, hk x _ hx, hk y _ hy]
/-- x[:hi:max] with hi = max = the length. -/
theorem R_clip {t e : TypeId} {x y z : Operand} {a : Option Addr} {k cap : Nat} {agg : Bool} {sz : Nat} (hS : slcOk P t e) (hT : Ty P e agg sz) (hx : ev l x = some (.slice a k cap)) (hy : ev l y = some (.int .i64 (k : Int))) (hz : ev l z = some (.int .i64 (k : Int))) (hc : k ≤ cap) :
    ValOk P l H hl (.slice t x none (some y) (some z)) ty (.slice (if k = 0 then a else a) k k) := by
  intro e w hk _
  have hS' : P.underlying t = some (.slice _) := hS
  simp only [ex, execOp, Instr.sliceAt, Option.map_none, Option.map_some, hk x _ hx, hk y _ hy, hk z _ hz, Sem.run_bind, run_underlying hS', Result.andThen_ok]
  simp [Instr.slice, Instr.sliceBounds, run_underlying hS', Instr.sliceBound, asIntOf, hc, hT.run_sizeOf]
  cases a <;> simp [Addr.add]

/-! ### Making maps and slices -/
def mp (b : Nat) : Value := .map (some b)
theorem A_makeMap {t : TypeId} : AllocOk P l (.makeMap t none) ty mp (.map #[] 0) := by
  intro e w hk
  simp [ex, execOp, Instr.makeMap, mp]
theorem A_makeSlice {t e : TypeId} {x y : Operand} {z : Value} {k sz bytes : Nat} {agg : Bool} (hA : App P t e sz bytes) (hz : zeroOk P e z) (hT : Ty P e agg sz) (hx : ev l x = some (.int .i64 (k : Int))) (hy : ev l y = some (.int .i64 (k : Int)))
    (hb : bytes * k ≤ 281474976710656) (hk : k ≤ 9223372036854775807) : AllocOk P l (.makeSlice t x y) ty (slc k) (.cells (madeCells z.cells (k * sz)) e) := by
  obtain ⟨i, z', hi, hz', hsz, _, hbt⟩ := hA.i
  obtain ⟨i2, hi2, hz2⟩ := hz
  rw [hi] at hi2; cases hi2
  intro e w hkn
  have hS : P.underlying t = some (.slice _) := hA.s
  have hb' : (i.bytes : Int) * (k : Int) ≤ 281474976710656 := by
    rw [hbt]
    have h : ((bytes * k : Nat) : Int) ≤ 281474976710656 := by omega
    rwa [Int.natCast_mul] at h
  have h := run_make (P := P) w t _ i z hS hi hz2 .i64 .i64 (k : Int) (k : Int) (by omega) (by omega) hb' (by omega)
  simp only [Int.toNat_natCast, hsz] at h
  simp only [ex, execOp, hkn x _ hx, hkn y _ hy, Sem.run_bind, h, Result.andThen_ok, Sem.run_pure, slc]

/-! ### Maps -/
def mapO (b : Nat) (kvs : List (Value × Value)) : Own where
  foot := [b]
  holds := fun h => ∃ es clk, h b = some (.map es clk) ∧ es.toList.map (fun e => (e.key, e.val)) = kvs
  loc := fun h h' e hh => by
    obtain ⟨es, clk, h1, h2⟩ := hh
    exact ⟨es, clk, by rw [e b (by simp)]; exact h1, h2⟩
  ex := fun h hh k hk => by
    simp at hk; subst hk
    obtain ⟨es, clk, h1, _⟩ := hh
    exact ⟨_, h1⟩
theorem Ok.mapNew {w : World} {b : Nat} (ho : Ok c w H (blk b (.map #[] 0) :: hl)) : Ok c w H (mapO b [] :: hl) := by
  refine ⟨ho.os, ho.tape, ho.output, ho.drawn, ho.size, ho.old, ho.vold, ho.le, ho.has, ?_, ?_, ?_⟩
  · intro e he
    rcases List.mem_cons.1 he with rfl | he
    · have h := ho.own (blk b (.map #[] 0)) (by simp)
      exact ⟨#[], 0, h, rfl⟩
    · exact ho.own e (List.mem_cons_of_mem _ he)
  · intro k hk
    exact ho.foot k (by simpa [feet, mapO, blk] using hk)
  · simpa [feet, mapO, blk] using ho.nd
theorem KO_mapNew {b : Nat} (h : KO P n c ops Q rest l (mapO b [] :: hl) H) : KO P n c ops Q rest l (blk b (.map #[] 0) :: hl) H := fun ρ w hm ho => h ρ w hm ho.mapNew
theorem KQ_mapNew {x : Exit} {b : Nat} (h : KQ n c Q x l (mapO b [] :: hl) H) : KQ n c Q x l (blk b (.map #[] 0) :: hl) H := fun ρ w hm ho => h ρ w hm ho.mapNew

def optOk (kvs : List (Value × Value)) (key : Value) : Option Int → Prop
  | none => ∀ p ∈ kvs, p.1 ≠ key
  | some v => (∃ p ∈ kvs, p.1 = key) ∧ ∀ p ∈ kvs, p.1 = key → p.2 = .int .i64 v
theorem R_lookup {t kt et : TypeId} {x y : Operand} {b : Nat} {kvs : List (Value × Value)} {key : Value} {kl : Lit} {ok : Bool} {o : Option Int} (K : WideMaps.KeyLaw P kt) (ht : P.underlying t = some (.map kt et)) (hz : zeroOk P et (.int .i64 0)) (i : Nat)
    (hx : ev l x = some (mp b)) (hy : ev l y = some key) (hi : hl[i]? = some (mapO b kvs)) (hkey : keyOf P kt key = some kl) (hks : ∀ p ∈ kvs, ∃ l, keyOf P kt p.1 = some l) (ho : optOk kvs key o) :
    ValOk P l H hl (.lookup t x y ok) ty (if ok then .tuple #[.int .i64 (o.getD 0), .bool o.isSome] else .int .i64 (o.getD 0)) := by
  intro e w hk hw
  obtain ⟨es, clk, hb, rfl⟩ := hw.own _ (List.mem_of_getElem? hi)
  have hb' : w.heap[b]? = some (.map es clk) := hb
  have hks' : ∀ e ∈ es.toList, ∃ l, keyOf P kt e.key = some l := fun e he => hks (e.key, e.val) (List.mem_map.2 ⟨e, he, rfl⟩)
  simp only [ex, execOp, hk x _ hx, hk y _ hy, Sem.run_bind, Instr.lookup, run_underlying ht, Result.andThen_ok, mp, MapKept.run_getObj_map hb', Sem.run_pure, K.check w _ hkey]
  rcases K.find w hkey es.toList hks' with ⟨h1, h2⟩ | ⟨j, e0, h1, h2, h3⟩
  · have : o = none := by
      cases o with
      | none => rfl
      | some v =>
        obtain ⟨⟨p, hp, hpk⟩, _⟩ := ho
        obtain ⟨e, he, rfl⟩ := List.mem_map.1 hp
        exact absurd hpk (h2 e he)
    subst this
    simp only [h1, Result.andThen_ok]
    cases ok <;> simp [hz.run w]
  · have hm0 : e0 ∈ es.toList := List.mem_of_getElem? h2
    have hm1 : (e0.key, e0.val) ∈ es.toList.map (fun e => (e.key, e.val)) := List.mem_map.2 ⟨e0, hm0, rfl⟩
    cases o with
    | none => exact absurd h3 (ho _ hm1)
    | some v =>
      have hv := ho.2 _ hm1 h3
      simp only at hv
      simp only [h1, Result.andThen_ok, hv]
      cases ok <;> simp
/-- A key that is not there yet. -/
theorem E_mapPut {t kt et : TypeId} {x y z : Operand} {b : Nat} {kvs : List (Value × Value)} {key val : Value} {kl : Lit} (K : WideMaps.KeyLaw P kt) (ht : P.underlying t = some (.map kt et))
    (hx : ev l x = some (mp b)) (hy : ev l y = some key) (hz : ev l z = some val) (hkey : keyOf P kt key = some kl) (hks : ∀ p ∈ kvs, ∃ l, keyOf P kt p.1 = some l) (ho : ∀ p ∈ kvs, p.1 ≠ key) :
    Eff P l H [mapO b kvs] (.mapUpdate t x y z) ty fun _ H' q => ∃ en', q = [en'] ∧ (H' = H ∧ en' = mapO b (kvs ++ [(key, val)])) := by
  intro e w hk hw
  obtain ⟨es, clk, hb, rfl⟩ := hw.own (mapO b kvs) (by simp)
  have hb' : w.heap[b]? = some (.map es clk) := hb
  have hks' : ∀ e ∈ es.toList, ∃ l, keyOf P kt e.key = some l := fun e he => hks (e.key, e.val) (List.mem_map.2 ⟨e, he, rfl⟩)
  have hfind : (Instr.findKey kt key es.toList).run P w = .ok none w := by
    rcases K.find w hkey es.toList hks' with ⟨h1, h2⟩ | ⟨j, e0, h1, h2, h3⟩
    · exact h1
    · exact absurd h3 (ho (e0.key, e0.val) (List.mem_map.2 ⟨e0, List.mem_of_getElem? h2, rfl⟩))
  have hset : ∀ o', (setObj b o').run P w = .ok () (w.putObj b o') := by intro o'; simp [setObj, Sem.run, hb', World.putObj]
  have hrun : (ex e (.mapUpdate t x y z) ty).run P w = .ok .skip (w.putObj b (.map (es.push { key := key, val := val, born := clk }) (clk + 1))) := by
    simp only [ex, execOp, hk x _ hx, hk y _ hy, hk z _ hz, Sem.run_bind, Instr.mapUpdate, run_underlying ht, Result.andThen_ok, mp, MapKept.run_getObj_map hb', Sem.run_pure, K.check w _ hkey, hfind, hset]
  rw [hrun]
  refine ⟨H, _, ok1 (en' := mapO b (es.toList.map (fun e => (e.key, e.val)) ++ [(key, val)])) hw rfl rfl rfl (Nat.le_refl _) (by simp) (fun k _ hk => World.putObj_heap_other (by simpa [mapO] using hk)) ?_ (fun k hk => .inl hk) (by simp [mapO]), _, rfl, rfl, rfl⟩
  exact ⟨_, _, World.putObj_heap_same (lt_of_heap hb'), by simp⟩

/-! ### Keys -/
theorem wf_wv (s i : Nat) : (Lit.int .u64 (wd s i : Int)).wf = true := by
  have := wd_lt s i
  simp [Lit.wf, IntKind.min, IntKind.max, IntKind.bits, IntKind.signed]
  omega
structure SetT (P : Program) (t e : TypeId) : Prop where
  ar : arrOk P t 16 e
  ue : P.underlying e = some (.int .u64)
  ct : P.cellsOf t = 16
  ce : P.cellsOf e = 1
  kt : P.keyType t = true
  ka : P.keyTypeAt 2 t = true
  law : WideMaps.KeyLaw P t
  g : P.eqGuardType P.depth t = false
  nt : ∃ m, P.types.size = m + 1
theorem SetT.lits {t e : TypeId} (h : SetT P t e) (d s : Nat) : P.keyLits (d + 2) t (setL s) = some ((List.range 16).map fun i => Lit.int .u64 (wd s i : Int)) := by
  have ha : P.underlying t = some (.array 16 e) := h.ar
  have he : ∀ i, P.keyLits (d + 1) e [wv s i] = some [.int .u64 (wd s i : Int)] := by
    intro i
    simp [Program.keyLits, h.ue, wv, wf_wv]
  have hm : ((List.range 16).mapM fun i => P.keyLits (d + 1) e (((setL s).drop (i * P.cellsOf e)).take (P.cellsOf e))) = some ((List.range 16).map fun i => [Lit.int .u64 (wd s i : Int)]) := by
    rw [h.ce]
    simp only [List.range, List.range.loop, List.mapM_cons, List.mapM_nil, setL, Nat.zero_mul, Nat.one_mul, Nat.mul_one, List.drop_succ_cons, List.drop_zero, List.take_succ_cons, List.take_zero, he, List.map_cons, List.map_nil]
    rfl
  unfold Program.keyLits
  rw [ha]
  simp only [setL_len, h.ct, if_true, hm, Option.map_some]
  congr 1
theorem SetT.formed {t e : TypeId} (h : SetT P t e) (s : Nat) : (setV s).formed P t = true := by
  have ha : P.underlying t = some (.array 16 e) := h.ar
  simp [Value.formed, setV, ha, h.ct, setL]
theorem SetT.key {t e : TypeId} (h : SetT P t e) (s : Nat) : ∃ l, keyOf P t (setV s) = some l := by
  have ha : P.underlying t = some (.array 16 e) := h.ar
  have hsz : ∃ m, P.types.size + 1 = m + 2 := by
    obtain ⟨m, hm⟩ := h.nt
    exact ⟨m, by omega⟩
  obtain ⟨m, hm⟩ := hsz
  have hl := h.lits m s
  refine ⟨.string (keyBytes ((List.range 16).map fun i => Lit.int .u64 (wd s i : Int))), ?_⟩
  unfold keyOf
  rw [ha, hm]
  have : (setV s).cells.toList = setL s := rfl
  rw [this, hl]
  simp [h.kt, h.formed]
theorem SetT.eq {t e : TypeId} (h : SetT P t e) {s u : Nat} (hs : s < big) (hu : u < big) (w : World) : (Op.equal t (setV s) (setV u)).run P w = .ok (decide (s = u)) w := by
  have ha : P.underlying t = some (.array 16 e) := h.ar
  obtain ⟨r, hr, hiff⟩ := run_equalIn_deep (P := P) 9998 2 t h.ka w 2 2 (setV s) (setV u) _ _ (h.formed s) (h.formed u) (h.lits 0 s) (h.lits 0 u)
  have : r = decide (s = u) := by
    by_cases e0 : s = u
    · subst e0
      rw [decide_eq_true rfl]
      exact hiff.2 rfl
    · rw [decide_eq_false e0]
      rw [← Bool.not_eq_true]
      intro hr1
      refine e0 (set_ext hs hu fun i hi => ?_)
      have h1 := hiff.1 hr1
      have h2 := congrArg (fun L => L[i]?) h1
      simp only [List.getElem?_map, List.getElem?_range hi, Option.map_some, Option.some.injEq, Lit.int.injEq, true_and] at h2
      omega
  subst this
  exact hr
theorem R_eqSet {t e yt : TypeId} {x y : Operand} {s u : Nat} (h : SetT P t e) (hs : s < big) (hu : u < big) (hx : ev l x = some (setV s)) (hy : ev l y = some (setV u)) : ValOk P l H hl (.binOp .eql t x y yt) ty (.bool (decide (s = u))) := by
  intro ee w hk _
  have hg : (eqGuard .eql t x y (setV s) (setV u)).run P w = .ok () w := run_eqGuard_agg w .eql t x y _ _ h.g
  have hb : (binOp .eql t (setV s) (setV u)).run P w = .ok (.bool (decide (s = u))) w := by
    show (Op.equal t (setV s) (setV u) >>= fun r => pure (Value.bool r)).run P w = _
    rw [Sem.run_bind, h.eq hs hu]; rfl
  simp only [ex, execOp, hk x _ hx, hk y _ hy, Sem.run_bind, hg, Result.andThen_ok, hb, Sem.run_pure]
end rules
end Pal
