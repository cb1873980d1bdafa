/-
  The subset construction as a plain function, and its state over owned blocks. Own work. No statement of the seat is proved here.
-/
import Derived.Test.YtdclodapkhgabaaGreatDoorPalM
namespace Pal
open Go

/-! ### The plain function -/
structure DS where
  subs : List Nat
  res : List ((Int × Int × Int) × Int)
def rulesOf (a : Au) (sym : Int) : List Rl := a.rules.filter fun r => decide (r.sym = sym)
def hasB (s : Nat) (i : Int) : Bool := decide (0 ≤ i ∧ i < 1024) && s.testBit i.toNat
/-- The first k children fit. -/
def fitsTo (subs : List Nat) (args : List Int) (from' : List Int) : Nat → Bool
  | 0 => true
  | k + 1 => fitsTo subs args from' k && hasB (subs.getD (args.getD k 0).toNat 0) (from'.getD k 0)
def succTo (subs : List Nat) (args : List Int) (rs : List Rl) : Nat → Nat
  | 0 => 0
  | k + 1 => match rs[k]? with
    | some r => if fitsTo subs args r.args r.args.length = true then wth (succTo subs args rs k) r.to else succTo subs args rs k
    | none => succTo subs args rs k
def succM (a : Au) (subs : List Nat) (sym : Int) (args : List Int) : Nat := succTo subs args (rulesOf a sym) (rulesOf a sym).length
def keyM (sym : Int) (args : List Int) : Int × Int × Int := (sym, args.getD 0 0, args.getD 1 0)
def lookM (res : List ((Int × Int × Int) × Int)) (k : Int × Int × Int) : Option Int := (res.find? fun p => decide (p.1 = k)).map (·.2)
def numM (subs : List Nat) (s : Nat) : Option Int := if s ∈ subs then some (subs.idxOf s : Int) else none
def addM (a : Au) (limit : Int) (sym : Int) (st : DS) (args : List Int) : Option DS :=
  match lookM st.res (keyM sym args) with
  | some _ => some st
  | none => match numM st.subs (succM a st.subs sym args) with
    | some n => some ⟨st.subs, st.res ++ [(keyM sym args, n)]⟩
    | none => if (st.subs.length : Int) = limit then none else some ⟨st.subs ++ [succM a st.subs sym args], st.res ++ [(keyM sym args, (st.subs.length : Int))]⟩
def addsM (a : Au) (limit sym : Int) : List (List Int) → DS → Option DS
  | [], st => some st
  | x :: xs, st => (addM a limit sym st x).bind (addsM a limit sym xs)
theorem addsM_append (a : Au) (limit sym : Int) : ∀ (xs ys : List (List Int)) (st : DS), addsM a limit sym (xs ++ ys) st = (addsM a limit sym xs st).bind (addsM a limit sym ys)
  | [], ys, st => rfl
  | x :: xs, ys, st => by
    simp only [List.cons_append, addsM]
    cases addM a limit sym st x with
    | none => rfl
    | some st' => simpa using addsM_append a limit sym xs ys st'
/-- One round over the symbols, each with its rank. -/
def roundM (a : Au) (limit : Int) (was : Nat) : List Int → Int → DS → Option DS
  | [], _, st => some st
  | r :: rs, sym, st => (addsM a limit sym (ext was r.toNat []) st).bind (roundM a limit was rs (sym + 1))
def buildM (a : Au) (limit : Int) : Nat → DS → Option DS
  | 0, _ => none
  | f + 1, st => (roundM a limit st.subs.length a.ranks 0 st).bind fun st' => if st'.subs.length = st.subs.length then some st' else buildM a limit f st'
/-- What holds of a state. -/
structure DS.Inv (limit : Int) (st : DS) : Prop where
  nd : st.subs.Nodup
  bg : ∀ s ∈ st.subs, s < big
  rn : (st.res.map (·.1)).Nodup
  rk : ∀ p ∈ st.res, i64ok p.1.1 ∧ i64ok p.1.2.1 ∧ i64ok p.1.2.2
  rv : ∀ p ∈ st.res, 0 ≤ p.2 ∧ p.2 < st.subs.length
  le : (st.subs.length : Int) ≤ limit

theorem wth_big {s : Nat} (i : Int) (h : s < big) : wth s i < big := by
  unfold wth
  split
  · exact or_big h (by omega)
  · exact h
theorem succTo_big (subs : List Nat) (args : List Int) (rs : List Rl) : ∀ k, succTo subs args rs k < big
  | 0 => zero_big
  | k + 1 => by
    unfold succTo
    have ih := succTo_big subs args rs k
    split
    · split
      · exact wth_big _ ih
      · exact ih
    · exact ih
theorem numM_lt {subs : List Nat} {s : Nat} {n : Int} (h : numM subs s = some n) : 0 ≤ n ∧ n < subs.length := by
  unfold numM at h
  split at h
  · rename_i hm
    have := List.idxOf_lt_length_iff.2 hm
    cases h
    omega
  · cases h
theorem nodup_map_inj {α β : Type} {f : α → β} {l : List α} (hn : (l.map f).Nodup) {p q : α} (hp : p ∈ l) (hq : q ∈ l) (h : f p = f q) : p = q := by
  induction l with
  | nil => cases hp
  | cons x r ih =>
    simp only [List.map_cons, List.nodup_cons] at hn
    rcases List.mem_cons.1 hp with rfl | hp'
    · rcases List.mem_cons.1 hq with rfl | hq'
      · rfl
      · exact absurd (List.mem_map.2 ⟨q, hq', h.symm⟩) hn.1
    · rcases List.mem_cons.1 hq with rfl | hq'
      · exact absurd (List.mem_map.2 ⟨p, hp', h⟩) hn.1
      · exact ih hn.2 hp' hq'
theorem lookM_none {res : List ((Int × Int × Int) × Int)} {k : Int × Int × Int} (h : lookM res k = none) : ∀ p ∈ res, p.1 ≠ k := by
  unfold lookM at h
  simp only [Option.map_eq_none_iff, List.find?_eq_none, decide_eq_true_eq] at h
  exact h
theorem lookM_some {res : List ((Int × Int × Int) × Int)} {k : Int × Int × Int} {n : Int} (hn : (res.map (·.1)).Nodup) (h : lookM res k = some n) : (∃ p ∈ res, p.1 = k) ∧ ∀ p ∈ res, p.1 = k → p.2 = n := by
  unfold lookM at h
  simp only [Option.map_eq_some_iff] at h
  obtain ⟨q, hq, rfl⟩ := h
  have hm := List.mem_of_find?_eq_some hq
  have hk := List.find?_some hq
  simp only [decide_eq_true_eq] at hk
  refine ⟨⟨q, hm, hk⟩, fun p hp hpk => ?_⟩
  have : p = q := nodup_map_inj hn hp hm (hpk.trans hk.symm)
  rw [this]
theorem keyM_ok {sym : Int} {args : List Int} (hs : i64ok sym) (ha : ∀ x ∈ args, i64ok x) : i64ok (keyM sym args).1 ∧ i64ok (keyM sym args).2.1 ∧ i64ok (keyM sym args).2.2 := by
  have h0 : i64ok 0 := by simp [i64ok]
  refine ⟨hs, ?_, ?_⟩
  · show i64ok (args.getD 0 0)
    rcases args with _ | ⟨x, xs⟩
    · exact h0
    · exact ha _ (by simp)
  · show i64ok (args.getD 1 0)
    rcases args with _ | ⟨x, _ | ⟨y, ys⟩⟩
    · exact h0
    · exact h0
    · exact ha _ (by simp)
theorem addM_inv {a : Au} {limit sym : Int} {st st' : DS} {args : List Int} (h : st.Inv limit) (hs : i64ok sym) (ha : ∀ x ∈ args, i64ok x) (he : addM a limit sym st args = some st') : st'.Inv limit := by
  unfold addM at he
  split at he
  · cases he; exact h
  · rename_i hl
    have hno := lookM_none hl
    have hk := keyM_ok hs ha
    have hrn : ∀ n : Int, ((st.res ++ [(keyM sym args, n)]).map (·.1)).Nodup := by
      intro n
      rw [List.map_append, List.nodup_append]
      refine ⟨h.rn, by simp, ?_⟩
      intro x hx y hy
      simp at hy
      subst hy
      obtain ⟨p, hp, rfl⟩ := List.mem_map.1 hx
      exact hno p hp
    split at he
    · rename_i n hn
      cases he
      refine ⟨h.nd, h.bg, hrn n, ?_, ?_, h.le⟩
      · intro p hp
        rcases List.mem_append.1 hp with hp | hp
        · exact h.rk p hp
        · simp at hp; subst hp; exact hk
      · intro p hp
        rcases List.mem_append.1 hp with hp | hp
        · exact h.rv p hp
        · simp at hp; subst hp; exact numM_lt hn
    · rename_i hn
      split at he
      · cases he
      · rename_i hne
        cases he
        have hnm : succM a st.subs sym args ∉ st.subs := by
          unfold numM at hn
          split at hn
          · cases hn
          · assumption
        have hle := h.le
        refine ⟨?_, ?_, hrn _, ?_, ?_, ?_⟩
        · rw [List.nodup_append]
          refine ⟨h.nd, by simp, ?_⟩
          intro x hx y hy e
          simp at hy
          subst hy; subst e
          exact hnm hx
        · intro s hs
          rcases List.mem_append.1 hs with hs | hs
          · exact h.bg s hs
          · simp at hs; subst hs; exact succTo_big _ _ _ _
        · intro p hp
          rcases List.mem_append.1 hp with hp | hp
          · exact h.rk p hp
          · simp at hp; subst hp; exact hk
        · intro p hp
          simp only [List.length_append, List.length_cons, List.length_nil]
          rcases List.mem_append.1 hp with hp | hp
          · have := h.rv p hp; omega
          · simp at hp; subst hp; exact ⟨by simp, by simp; omega⟩
        · simp only [List.length_append, List.length_cons, List.length_nil]
          omega
theorem addM_le {a : Au} {limit sym : Int} {st st' : DS} {args : List Int} (he : addM a limit sym st args = some st') : st.subs.length ≤ st'.subs.length := by
  unfold addM at he
  split at he
  · cases he; exact Nat.le_refl _
  · split at he
    · cases he; exact Nat.le_refl _
    · split at he
      · cases he
      · cases he; simp

/-! ### The state over owned blocks -/
def keyV (k : Int × Int × Int) : Value := .agg #[.int .i64 k.1, .int .i64 k.2.1, .int .i64 k.2.2]
def numKV (subs : List Nat) : List (Value × Value) := subs.zipIdx.map fun p => (setV p.1, .int .i64 (p.2 : Int))
def resKV (res : List ((Int × Int × Int) × Int)) : List (Value × Value) := res.map fun p => (keyV p.1, .int .i64 p.2)
def subCells (subs : List Nat) : List Value := subs.flatMap setL
theorem subCells_len (subs : List Nat) : (subCells subs).length = subs.length * 16 := by
  unfold subCells
  induction subs with
  | nil => rfl
  | cons s r ih => simp [List.flatMap_cons, ih, setL_len, Nat.add_mul, Nat.add_comm]
theorem subCells_get {subs : List Nat} {i : Nat} (hi : i < subs.length) : ((subCells subs).drop (i * 16)).take 16 = setL subs[i] := by
  unfold subCells
  induction subs generalizing i with
  | nil => simp at hi
  | cons s r ih =>
    cases i with
    | zero =>
      simp only [List.flatMap_cons, Nat.zero_mul, List.drop_zero, List.getElem_cons_zero]
      rw [← setL_len s]; exact List.take_left
    | succ i =>
      have e : (i + 1) * 16 = 16 + i * 16 := by omega
      rw [e, ← List.drop_drop, List.flatMap_cons]
      have : List.drop 16 (setL s ++ r.flatMap setL) = r.flatMap setL := by
        rw [← setL_len s]; exact List.drop_left
      rw [this]
      simpa using ih (by simpa using hi)
theorem keyV_inj {k k' : Int × Int × Int} (h : keyV k = keyV k') : k = k' := by
  obtain ⟨a, b, d⟩ := k
  obtain ⟨a', b', d'⟩ := k'
  simp [keyV] at h
  obtain ⟨rfl, rfl, rfl⟩ := h
  rfl
theorem numKV_opt {subs : List Nat} (hn : subs.Nodup) (hb : ∀ s ∈ subs, s < big) {s : Nat} (hs : s < big) : optOk (numKV subs) (setV s) (numM subs s) := by
  unfold numM
  split
  · rename_i hm
    have hi := List.idxOf_lt_length_iff.2 hm
    have hg : subs[subs.idxOf s] = s := List.getElem_idxOf hi
    refine ⟨⟨(setV s, .int .i64 (subs.idxOf s : Int)), List.mem_map.2 ⟨(s, subs.idxOf s), ?_, rfl⟩, rfl⟩, ?_⟩
    · rw [List.mem_zipIdx_iff_getElem?]
      simp [hi, hg]
    · intro p hp hk
      obtain ⟨q, hq, rfl⟩ := List.mem_map.1 hp
      rw [List.mem_zipIdx_iff_getElem?] at hq
      obtain ⟨hq1, hq2⟩ := List.getElem?_eq_some_iff.1 hq
      have hqs : q.1 = s := setV_inj (hb _ (hq2 ▸ List.getElem_mem hq1)) hs hk
      have : q.2 = subs.idxOf s := by
        rw [← hqs, ← hq2]
        exact (List.Nodup.idxOf_getElem hn _ hq1).symm
      rw [this]
  · rename_i hm
    intro p hp hk
    obtain ⟨q, hq, rfl⟩ := List.mem_map.1 hp
    rw [List.mem_zipIdx_iff_getElem?] at hq
    obtain ⟨hq1, hq2⟩ := List.getElem?_eq_some_iff.1 hq
    have hqm : q.1 ∈ subs := hq2 ▸ List.getElem_mem hq1
    exact hm (setV_inj (hb _ hqm) hs hk ▸ hqm)
theorem resKV_opt {res : List ((Int × Int × Int) × Int)} (hn : (res.map (·.1)).Nodup) (k : Int × Int × Int) : optOk (resKV res) (keyV k) (lookM res k) := by
  cases h : lookM res k with
  | none =>
    intro p hp hk
    obtain ⟨q, hq, rfl⟩ := List.mem_map.1 hp
    exact lookM_none h q hq (keyV_inj hk)
  | some n =>
    obtain ⟨⟨q, hq, hqk⟩, h2⟩ := lookM_some hn h
    refine ⟨⟨_, List.mem_map.2 ⟨q, hq, rfl⟩, by rw [hqk]⟩, ?_⟩
    intro p hp hk
    obtain ⟨q', hq', rfl⟩ := List.mem_map.1 hp
    show Value.int .i64 q'.2 = .int .i64 n
    rw [h2 q' hq' (keyV_inj hk)]
theorem numKV_snoc (subs : List Nat) (s : Nat) : numKV (subs ++ [s]) = numKV subs ++ [(setV s, .int .i64 (subs.length : Int))] := by
  unfold numKV
  rw [List.zipIdx_append]
  simp
theorem resKV_snoc (res : List ((Int × Int × Int) × Int)) (k : Int × Int × Int) (n : Int) : resKV (res ++ [(k, n)]) = resKV res ++ [(keyV k, .int .i64 n)] := by simp [resKV]
theorem subCells_snoc (subs : List Nat) (s : Nat) : subCells (subs ++ [s]) = subCells subs ++ setL s := by simp [subCells]
def subsV (v : Value) (n : Nat) : Prop := (v = nilS ∧ n = 0) ∨ ∃ g cap, v = .slice (some ⟨g, 0, none⟩) n cap
/-- The builder's block B, its two maps, its subsets. -/
def BE (tb ts : TypeId) (B m1 m2 : Nat) (a : Au) (vr vu vf vrules : Value) (st : DS) (q : HL) : Prop :=
  ∃ vsub, subsV vsub st.subs.length ∧ q = [blk B (.cells #[vr, .int .i64 a.states, vu, vf, vrules, mp m1, vsub, mp m2] tb (0, 0)), mapO m1 (numKV st.subs), row vsub ts 16 st.subs.length (subCells st.subs), mapO m2 (resKV st.res)]

section rules
variable {P : Program} {n : Nat} {c : Cx} {Q : Exit → Act → World → Prop} {l : KL} {hl : HL} {H : View}
theorem KQ_rowshape {x : Exit} {v : Value} {e : TypeId} {sz k : Nat} {xs : List Value} (i : Nat) (hi : hl[i]? = some (row v e sz k xs)) (h : subsV v k → KQ n c Q x l hl H) : KQ n c Q x l hl H := by
  intro ρ w hm ho
  refine h ?_ ρ w hm ho
  obtain ⟨_, h2⟩ := ho.own _ (List.mem_of_getElem? hi)
  rcases h2 with ⟨h2, h3⟩ | ⟨g, cap, cur, h2, _⟩
  · exact .inl ⟨h2, h3⟩
  · exact .inr ⟨g, cap, h2⟩
/-- Keys that are three numbers. -/
structure TriT (P : Program) (t e : TypeId) : Prop where
  us : ∃ f1 f2 f3 : Field, P.underlying t = some (.struct #[f1, f2, f3]) ∧ (f1.name ≠ "_" ∧ f1.type = e ∧ f1.offset = 0) ∧ (f2.name ≠ "_" ∧ f2.type = e ∧ f2.offset = 1) ∧ (f3.name ≠ "_" ∧ f3.type = e ∧ f3.offset = 2)
  ue : P.underlying e = some (.int .i64)
  ct : P.cellsOf t = 3
  ce : P.cellsOf e = 1
  kt : P.keyType t = true
  law : WideMaps.KeyLaw P t
  nt : ∃ m, P.types.size = m + 1
theorem wf_i64 {x : Int} (h : i64ok x) : (Lit.int .i64 x).wf = true := by
  simp only [i64ok] at h
  simp [Lit.wf, IntKind.min, IntKind.max, IntKind.bits, IntKind.signed]
  omega
theorem TriT.key {t e : TypeId} (h : TriT P t e) {k : Int × Int × Int} (hk : i64ok k.1 ∧ i64ok k.2.1 ∧ i64ok k.2.2) : ∃ l, keyOf P t (keyV k) = some l := by
  obtain ⟨f1, f2, f3, hu, ⟨n1, t1, o1⟩, ⟨n2, t2, o2⟩, ⟨n3, t3, o3⟩⟩ := h.us
  obtain ⟨m, hm⟩ := h.nt
  have he : ∀ (d : Nat) (x : Int), i64ok x → P.keyLits (d + 1) e [.int .i64 x] = some [.int .i64 x] := by
    intro d x hx
    simp [Program.keyLits, h.ue, wf_i64 hx]
  have hl : P.keyLits (m + 2) t [.int .i64 k.1, .int .i64 k.2.1, .int .i64 k.2.2] = some [.int .i64 k.1, .int .i64 k.2.1, .int .i64 k.2.2] := by
    unfold Program.keyLits
    rw [hu]
    simp [h.ct, h.ce, t1, t2, t3, o1, o2, o3, n1, n2, n3, he m _ hk.1, he m _ hk.2.1, he m _ hk.2.2]
  refine ⟨.string (keyBytes [.int .i64 k.1, .int .i64 k.2.1, .int .i64 k.2.2]), ?_⟩
  unfold keyOf
  rw [hu, hm]
  have hf : (keyV k).formed P t = true := by simp [Value.formed, keyV, hu, h.ct]
  have hc : (keyV k).cells.toList = [.int .i64 k.1, .int .i64 k.2.1, .int .i64 k.2.2] := rfl
  rw [hc, hl]
  simp [h.kt, hf]
end rules
/-- The rules by their symbol. -/
def RepBy (H : View) (a : Au) (v : Value) : Prop := ∃ b off cp, v = .slice (some ⟨b, off, none⟩) a.ranks.length cp ∧
  ∀ s, s < a.ranks.length → ∃ ua ucp cells, At H b (off + s * 1) [.slice ua (rulesOf a s).length ucp] ∧ SlAt H (.slice ua (rulesOf a s).length ucp) (rulesOf a s).length cells ∧ RepL (RepR H) 3 (rulesOf a s) cells
theorem RepBy.mono {H H' : View} {a : Au} {v : Value} (h : RepBy H a v) (hle : VLe H H') : RepBy H' a v := by
  obtain ⟨b, off, cp, h1, h2⟩ := h
  refine ⟨b, off, cp, h1, fun s hs => ?_⟩
  obtain ⟨ua, ucp, cells, h3, h4, h5⟩ := h2 s hs
  exact ⟨ua, ucp, cells, h3.mono hle, h4.mono hle, h5.imp fun x cs hx => hx.mono hle⟩
theorem rules_elem {H : View} {ua : Option Addr} {ucp : Nat} {rs : List Rl} {cells : List Value} (h1 : SlAt H (.slice ua rs.length ucp) rs.length cells) (h2 : RepL (RepR H) 3 rs cells) {i : Nat} (hi : i < rs.length) : ∃ b off ra rcp, ua = some ⟨b, off, none⟩ ∧
    At H b (off + i * 3) [.int .i64 rs[i].sym, .slice ra rs[i].args.length rcp, .int .i64 rs[i].to] ∧ SI H (.slice ra rs[i].args.length rcp) rs[i].args ∧ i64ok rs[i].sym ∧ i64ok rs[i].to ∧ rs[i].args.length ≤ 1099511627776 := by
  obtain ⟨b, off, cs, rfl, _, ⟨ra, rcp, rfl, h5⟩, h6⟩ := SlAt.elem h1 h2 hi rfl
  exact ⟨b, off, ra, rcp, rfl, h6, h5⟩
theorem RepR.imp3 {H H' : View} (hle : VLe H H') {rs : List Rl} {cells : List Value} (h : RepL (RepR H) 3 rs cells) : RepL (RepR H') 3 rs cells := h.imp fun _ _ hx => hx.mono hle
theorem fitsTo_false {subs : List Nat} {args fr : List Int} {k : Nat} (h : fitsTo subs args fr k = false) : fitsTo subs args fr (k + 1) = false := by simp [fitsTo, h]
theorem fitsTo_true {subs : List Nat} {args fr : List Int} {k : Nat} (h : fitsTo subs args fr k = true) (ha : k < args.length) (hf : k < fr.length) (hi : args[k].toNat < subs.length) :
    fitsTo subs args fr (k + 1) = (decide (0 ≤ fr[k] ∧ fr[k] < 1024) && subs[args[k].toNat].testBit fr[k].toNat) := by
  simp [fitsTo, h, hasB, List.getD, ha, hf, hi]
theorem succTo_yes {subs : List Nat} {args : List Int} {rs : List Rl} {k : Nat} (hk : k < rs.length) (h : fitsTo subs args rs[k].args rs[k].args.length = true) : succTo subs args rs (k + 1) = wth (succTo subs args rs k) rs[k].to := by
  simp [succTo, hk, h]
theorem succTo_no {subs : List Nat} {args : List Int} {rs : List Rl} {k : Nat} (hk : k < rs.length) (h : fitsTo subs args rs[k].args rs[k].args.length = false) : succTo subs args rs (k + 1) = succTo subs args rs k := by
  simp [succTo, hk, h]
theorem numKV_keys {P : Program} {t e : TypeId} (h : SetT P t e) (subs : List Nat) : ∀ p ∈ numKV subs, ∃ l, keyOf P t p.1 = some l := by
  intro p hp
  obtain ⟨q, _, rfl⟩ := List.mem_map.1 hp
  exact h.key q.1
theorem resKV_keys {P : Program} {t e : TypeId} (h : TriT P t e) {res : List ((Int × Int × Int) × Int)} (hr : ∀ p ∈ res, i64ok p.1.1 ∧ i64ok p.1.2.1 ∧ i64ok p.1.2.2) : ∀ p ∈ resKV res, ∃ l, keyOf P t p.1 = some l := by
  intro p hp
  obtain ⟨q, hq, rfl⟩ := List.mem_map.1 hp
  exact h.key (hr q hq)
theorem subsV.shape {v : Value} {n : Nat} (h : subsV v n) : ∃ a cp, v = .slice a n cp := by
  rcases h with ⟨rfl, rfl⟩ | ⟨g, cap, rfl⟩
  · exact ⟨none, 0, rfl⟩
  · exact ⟨_, cap, rfl⟩
theorem ext_mem {k : Nat} : ∀ {m : Nat} {ys xs : List Int}, xs ∈ ext k m ys → ∃ zs, xs = ys ++ zs ∧ zs.length = m ∧ ∀ z ∈ zs, 0 ≤ z ∧ z < (k : Int)
  | 0, ys, xs, h => by
    simp only [ext, List.mem_singleton] at h
    exact ⟨[], by simp [h], rfl, by simp⟩
  | m + 1, ys, xs, h => by
    simp only [ext, List.mem_flatMap, List.mem_range] at h
    obtain ⟨i, hi, h⟩ := h
    obtain ⟨zs, rfl, h1, h2⟩ := ext_mem h
    refine ⟨(i : Int) :: zs, by simp, by simp [h1], ?_⟩
    intro z hz
    rcases List.mem_cons.1 hz with rfl | hz
    · omega
    · exact h2 z hz
/-! ### What a right automaton keeps -/
structure AuOk (a : Au) : Prop where
  rl : 1 ≤ a.ranks.length ∧ a.ranks.length ≤ 4096
  rk : ∀ s (h : s < a.ranks.length), 0 ≤ a.ranks[s] ∧ a.ranks[s] ≤ 2
  st : 0 ≤ a.states ∧ a.states ≤ 256
  ul : a.rules.length ≤ 65536
  ru : ∀ r ∈ a.rules, 0 ≤ r.sym ∧ r.sym < a.ranks.length ∧ (r.args.length : Int) = a.ranks.getD r.sym.toNat 0 ∧ (∀ q ∈ r.args, 0 ≤ q ∧ q < a.states) ∧ 0 ≤ r.to ∧ r.to < a.states
  fi : ∀ q ∈ a.final, 0 ≤ q ∧ q < a.states
theorem badQ_false {n q : Int} (h : badQ n q = false) : 0 ≤ q ∧ q < n := by
  simpa [badQ] using h
theorem rulesErr_all {a : Au} : ∀ {rs : List Rl}, rulesErr a rs = 0 → ∀ r ∈ rs, ruleErr a r = 0
  | [], _, r, hr => by cases hr
  | x :: rs, h, r, hr => by
    simp only [rulesErr] at h
    by_cases h0 : ruleErr a x ≠ 0
    · rw [if_pos h0] at h; exact absurd h h0
    · rw [if_neg h0] at h
      rcases List.mem_cons.1 hr with rfl | hr
      · exact Decidable.not_not.1 h0
      · exact rulesErr_all h r hr
theorem AuOk.of {a : Au} (h : auErr a = 0) : AuOk a := by
  unfold auErr at h
  split at h
  · rename_i h0; exact absurd h h0
  rename_i h0
  have h0 : ranksErr a.ranks = 0 := Decidable.not_not.1 h0
  split at h
  · cases h
  rename_i h1
  split at h
  · rename_i h2; exact absurd h h2
  rename_i h2
  have h2 : rulesErr a a.rules = 0 := Decidable.not_not.1 h2
  split at h
  · cases h
  rename_i h3
  unfold ranksErr at h0
  split at h0
  · cases h0
  rename_i r1
  split at h0
  · cases h0
  rename_i r2
  refine ⟨by omega, ?_, by omega, by omega, ?_, ?_⟩
  · intro s hs
    have : ¬ ∃ x ∈ a.ranks, decide (x < 0 ∨ 2 < x) = true := fun ⟨x, hx, h⟩ => r2 (List.any_eq_true.2 ⟨x, hx, h⟩)
    have h5 : ¬ (a.ranks[s] < 0 ∨ 2 < a.ranks[s]) := fun h => this ⟨_, List.getElem_mem hs, by simpa using h⟩
    omega
  · intro r hr
    have h4 := rulesErr_all h2 r hr
    unfold ruleErr at h4
    split at h4
    · cases h4
    rename_i s1
    split at h4
    · cases h4
    rename_i s2
    split at h4
    · cases h4
    rename_i s3
    simp only [Bool.or_eq_true, not_or, Bool.not_eq_true] at s3
    have h6 : ∀ q ∈ r.args, badQ a.states q = false := by
      intro q hq
      have := s3.1
      rw [List.any_eq_false] at this
      simpa using this q hq
    have h7 := badQ_false s3.2
    exact ⟨by omega, by omega, Decidable.not_not.1 s2, fun q hq => badQ_false (h6 q hq), h7⟩
  · intro q hq
    have : a.final.any (badQ a.states) = false := by simpa using h3
    rw [List.any_eq_false] at this
    exact badQ_false (by simpa using this q hq)
theorem rulesOf_mem {a : Au} {s : Int} {r : Rl} (h : r ∈ rulesOf a s) : r ∈ a.rules ∧ r.sym = s := by
  simpa [rulesOf] using h
theorem addsM_inv {a : Au} {limit sym : Int} (hs : i64ok sym) : ∀ {xs : List (List Int)} {st st' : DS}, (∀ x ∈ xs, ∀ y ∈ x, i64ok y) → st.Inv limit → addsM a limit sym xs st = some st' → st'.Inv limit ∧ st.subs.length ≤ st'.subs.length
  | [], st, st', _, h, he => by cases he; exact ⟨h, Nat.le_refl _⟩
  | x :: xs, st, st', hx, h, he => by
    simp only [addsM, Option.bind_eq_some_iff] at he
    obtain ⟨st1, h1, h2⟩ := he
    have h3 := addM_inv h hs (hx x (by simp)) h1
    obtain ⟨h4, h5⟩ := addsM_inv hs (fun y hy => hx y (by simp [hy])) h3 h2
    exact ⟨h4, Nat.le_trans (addM_le h1) h5⟩
end Pal
