/-
  Library texts of the proof, put together. Own work. No statement of the seat is proved here.
-/
import Derived.Test.YtdclodapkhgabaaGreatDoorPalBk
/-
  Products of numbers by words. Own work. No statement of the seat is proved here.
-/
namespace Pal
open Go
structure MulI (xs ys os : List Nat) (i k c : Nat) : Prop where
  len : os.length = xs.length + ys.length
  ok : WordsOk os
  cl : c < 4294967296
  zer : ∀ j (h : j < os.length), i + ys.length ≤ j → os[j] = 0
  val : valW os + 4294967296 ^ (i + k) * c = valN xs i * valW ys + 4294967296 ^ i * (xs.getD i 0 * valN ys k)
theorem valN_zero (xs : List Nat) : valN xs 0 = 0 := rfl
theorem MulI.start (xs ys : List Nat) : MulI xs ys (List.replicate (xs.length + ys.length) 0) 0 0 0 :=
  ⟨by simp, fun w hw => by rw [List.mem_replicate] at hw; omega, by omega, fun j h _ => by simp, by rw [valW_zeros, valN_zero, valN_zero]; simp⟩
theorem MulI.step {xs ys os : List Nat} {i k c : Nat} (h : MulI xs ys os i k c) (hx : WordsOk xs) (hy : WordsOk ys) (hi : i < xs.length) (hk : k < ys.length) (hj : i + k < os.length) :
    xs[i] * ys[k] + os[i + k] + c < 18446744073709551616 ∧ MulI xs ys (os.set (i + k) ((xs[i] * ys[k] + os[i + k] + c) % 4294967296)) i (k + 1) ((xs[i] * ys[k] + os[i + k] + c) / 4294967296) := by
  have hx1 := hx _ (List.getElem_mem hi)
  have hy1 := hy _ (List.getElem_mem hk)
  have ho1 := h.ok _ (List.getElem_mem hj)
  obtain ⟨m1, m2⟩ := mul_step hx1 hy1 ho1 h.cl
  refine ⟨m1, by rw [List.length_set]; exact h.len, fun w hw => ?_, m2, fun j hj2 hij => ?_, ?_⟩
  · rcases List.mem_or_eq_of_mem_set hw with e | e
    · exact h.ok w e
    · rw [e]; exact Nat.mod_lt _ (by decide)
  · rw [List.getElem_set_ne (by omega)]; exact h.zer j (by simpa using hj2) hij
  · have hs := valW_set hj ((xs[i] * ys[k] + os[i + k] + c) % 4294967296)
    have hv := h.val
    have hyk : ys.getD k 0 = ys[k] := by simp [List.getD, hk]
    have hxi : xs.getD i 0 = xs[i] := by simp [List.getD, hi]
    rw [hxi] at hv ⊢
    rw [valN_succ, hyk]
    generalize xs[i] = x at *
    generalize ys[k] = y at *
    generalize hz : os[i + k] = z at *
    generalize hS : x * y + z + c = s at *
    have hdm := Nat.div_add_mod s 4294967296
    have e1 : 4294967296 ^ (i + k) * (4294967296 * (s / 4294967296)) + 4294967296 ^ (i + k) * (s % 4294967296) = 4294967296 ^ (i + k) * (x * y) + 4294967296 ^ (i + k) * z + 4294967296 ^ (i + k) * c := by
      rw [← Nat.mul_add, hdm, ← hS, Nat.mul_add, Nat.mul_add]
    have e2 : 4294967296 ^ (i + (k + 1)) * (s / 4294967296) = 4294967296 ^ (i + k) * (4294967296 * (s / 4294967296)) := by
      rw [← Nat.add_assoc, Nat.pow_succ, Nat.mul_assoc]
    have e3 : 4294967296 ^ i * (x * (valN ys k + 4294967296 ^ k * y)) = 4294967296 ^ i * (x * valN ys k) + 4294967296 ^ (i + k) * (x * y) := by
      rw [Nat.mul_add, Nat.mul_add, Nat.pow_add]
      congr 1
      rw [← Nat.mul_assoc x, Nat.mul_comm x, Nat.mul_assoc, Nat.mul_assoc]
    rw [e2, e3]
    omega
theorem MulI.next {xs ys os : List Nat} {i c : Nat} (h : MulI xs ys os i ys.length c) (hi : i < xs.length) : MulI xs ys (os.set (i + ys.length) c) (i + 1) 0 0 := by
  have hj : i + ys.length < os.length := by rw [h.len]; omega
  refine ⟨by rw [List.length_set]; exact h.len, fun w hw => ?_, by omega, fun j hj2 hij => ?_, ?_⟩
  · rcases List.mem_or_eq_of_mem_set hw with e | e
    · exact h.ok w e
    · rw [e]; exact h.cl
  · rw [List.getElem_set_ne (by omega)]; exact h.zer j (by simpa using hj2) (by omega)
  · have hs := valW_set hj c
    rw [h.zer _ hj (Nat.le_refl _), Nat.mul_zero, Nat.add_zero] at hs
    have hv := h.val
    rw [valN_all (Nat.le_refl _)] at hv
    rw [hs, valN_succ, valN_zero, Nat.mul_zero, Nat.mul_zero, Nat.mul_zero, Nat.add_mul, hv, Nat.mul_assoc]
theorem MulI.done {xs ys os : List Nat} {c : Nat} (h : MulI xs ys os xs.length 0 c) (hc : c = 0) : valW os = valW xs * valW ys := by
  subst hc
  have hv := h.val
  rw [valN_all (Nat.le_refl _), valN_zero] at hv
  omega
theorem words_put {os : List Nat} {j off v : Nat} (hj : j < os.length) (ho : off = j) : putCells (words os).toArray off (Value.int .u32 (v : Int)).cells.toList = (words (os.set j v)).toArray := by
  subst ho
  rw [show (Value.int .u32 (v : Int)).cells.toList = [Value.int .u32 (v : Int)] from rfl, putCells_one (by simpa [words] using hj)]
  simp [words, List.map_set]
theorem words_made (n : Nat) : madeCells #[.int .u32 0] (n * 1) = (words (List.replicate n 0)).toArray := by
  apply Array.ext'
  simp [madeCells, words, Nat.mod_one, List.map_const']
/-- A number below a power of the base has that many words. -/
theorem canon_len {ws : List Nat} {L : Nat} (h : Canon ws) (hv : valW ws < 4294967296 ^ L) : ws.length ≤ L := by
  rcases Nat.lt_or_ge L ws.length with h1 | h1
  · exfalso
    have hne : ws ≠ [] := by intro e; subst e; simp at h1
    obtain ⟨us, y, rfl⟩ : ∃ us y, ws = us ++ [y] := ⟨ws.dropLast, ws.getLast hne, (List.dropLast_concat_getLast hne).symm⟩
    have hy0 : y ≠ 0 := by intro e; subst e; exact h.2 (by simp)
    rw [valW_snoc] at hv
    have h2 : 4294967296 ^ L ≤ 4294967296 ^ us.length := Nat.pow_le_pow_right (by decide) (by simp at h1; omega)
    have h3 : 4294967296 ^ us.length * 1 ≤ 4294967296 ^ us.length * y := Nat.mul_le_mul_left _ (by omega)
    omega
  · exact h1
def kWords : Nat := 1048576
theorem kWords_eq : kWords = 1048576 := rfl
attribute [irreducible] kWords
def bigN : Nat := 4294967296 ^ kWords
theorem bigN_eq : bigN = 4294967296 ^ kWords := rfl
attribute [irreducible] bigN
theorem RepN.words {H : View} {v : Value} {n : Nat} (h : RepN H v n) (hn : n < bigN) : ∃ ws, UW H v ws ∧ valW ws = n ∧ ws.length ≤ 1048576 := by
  obtain ⟨ws, h1, h2, h3⟩ := h
  exact ⟨ws, h3, h2, kWords_eq ▸ canon_len h1 (by rw [h2, ← bigN_eq]; exact hn)⟩
end Pal

/-
  A tree's nodes with the number of runs for each state; the rules that apply. Own work. No statement of the seat is proved here.
-/
namespace Pal
open Go
inductive Nd where
  | mk (b lm : Nat) (l : List Nd)
def Nd.b : Nd → Nat | .mk b _ _ => b
def Nd.lm : Nd → Nat | .mk _ m _ => m
def Nd.l : Nd → List Nd | .mk _ _ l => l
mutual
/-- The maps of least runs, one for each node. -/
def Nd.maps (σ : Nat → KVs) : Nd → HL
  | .mk _ lm l => blk lm (mapOb (σ lm)) :: Nd.mapss σ l
def Nd.mapss (σ : Nat → KVs) : List Nd → HL
  | [] => []
  | n :: r => Nd.maps σ n ++ Nd.mapss σ r
end
theorem Nd.mapss_append (σ : Nat → KVs) : ∀ a b : List Nd, Nd.mapss σ (a ++ b) = Nd.mapss σ a ++ Nd.mapss σ b
  | [], b => rfl
  | n :: r, b => by simp only [List.cons_append, Nd.mapss, Nd.mapss_append σ r b, List.append_assoc]
def NatAt (H : View) (v : Value) (n : Nat) : Prop := ∃ xa k cp, v = .agg #[.slice xa k cp] ∧ RepN H (.slice xa k cp) n
theorem NatAt.mono {H H' : View} {v : Value} {n : Nat} (h : NatAt H v n) (hle : VLe H H') : NatAt H' v n := by
  obtain ⟨xa, k, cp, h1, h2⟩ := h
  exact ⟨xa, k, cp, h1, h2.mono hle⟩
def natZ : Value := .agg #[.slice none 0 0]
def RunP (H : View) (f : Int → Nat) (kvs : KVs) : Prop := (kvs.map (·.1)).Nodup ∧ ∀ q, (lookI kvs q = none → f q = 0) ∧ ∀ v, lookI kvs q = some v → 0 < f q ∧ NatAt H v (f q)
theorem RunP.mono {H H' : View} {f : Int → Nat} {kvs : KVs} (h : RunP H f kvs) (hle : VLe H H') : RunP H' f kvs := ⟨h.1, fun q => ⟨(h.2 q).1, fun v hv => ⟨((h.2 q).2 v hv).1, ((h.2 q).2 v hv).2.mono hle⟩⟩⟩
theorem RunP.nil (H : View) : RunP H (fun _ => 0) [] := ⟨by simp, fun q => ⟨fun _ => rfl, fun v hv => by simp [lookI, findI] at hv⟩⟩
theorem RunP.val {H : View} {f : Int → Nat} {kvs : KVs} (h : RunP H f kvs) (q : Int) : NatAt H ((lookI kvs q).getD natZ) (f q) := by
  cases hl : lookI kvs q with
  | none => exact ⟨none, 0, 0, rfl, by rw [(h.2 q).1 hl]; exact RepN.zero H⟩
  | some v => exact ((h.2 q).2 v hl).2
theorem RunP.isSome {H : View} {f : Int → Nat} {kvs : KVs} (h : RunP H f kvs) (q : Int) : (lookI kvs q).isSome = true ↔ 0 < f q := by
  cases hl : lookI kvs q with
  | none => have := (h.2 q).1 hl; simp; omega
  | some v => have := ((h.2 q).2 v hl).1; simp; omega
theorem RunP.set {H H' : View} {f : Int → Nat} {kvs : KVs} (h : RunP H f kvs) (hle : VLe H H') {q : Int} {n : Nat} {v : Value} (hn : 0 < n) (hv : NatAt H' v (f q + n)) : RunP H' (fun x => f x + if q = x then n else 0) (setI kvs q v) := by
  refine ⟨setI_keys q v h.1, fun x => ?_⟩
  rw [lookI_setI h.1]
  by_cases e : x = q
  · subst e
    dsimp only
    rw [if_pos rfl, if_pos rfl]
    exact ⟨fun h => (by cases h), fun u hu => by cases hu; exact ⟨by omega, hv⟩⟩
  · dsimp only
    rw [if_neg e, if_neg (fun (h : q = x) => e h.symm)]
    exact ⟨fun h1 => by have := (h.2 x).1 h1; omega, fun u hu => ⟨by have := ((h.2 x).2 u hu).1; omega, by simpa using ((h.2 x).2 u hu).2.mono hle⟩⟩
inductive RepNd (tn : TypeId) (H : View) (rs : List Rl) : Tr → Nd → Prop
  | mk (s : Int) (ts : List Tr) (b lm rb : Nat) (ns : List Nd) (a : Option Addr) (cap : Nat) (kvs : KVs) (hb : H b = some (.cells #[.slice a ts.length cap, .int .i64 s, mp rb, mp lm] tn (0, 0))) (hl : ns.length = ts.length)
    (hc : SlAt H (.slice a ts.length cap) ts.length (ns.map fun n => ptr n.b)) (hr : H rb = some (mapOb kvs)) (hq : RunP H (Tr.cnt rs (.node s ts)) kvs)
    (hch : ∀ i (h : i < ts.length) (h2 : i < ns.length), RepNd tn H rs ts[i] ns[i]) : RepNd tn H rs (.node s ts) (.mk b lm ns)
theorem RepNd.mono {tn : TypeId} {H H' : View} {rs : List Rl} {t : Tr} {nd : Nd} (h : RepNd tn H rs t nd) (hle : VLe H H') : RepNd tn H' rs t nd := by
  induction h with
  | mk s ts b lm rb ns a cap kvs hb hl hc hr hq hch ih => exact .mk s ts b lm rb ns a cap kvs (hle _ _ hb) hl (hc.mono hle) (hle _ _ hr) (hq.mono hle) ih
def cntF (rs : List Rl) (ts : List Tr) (i : Nat) (q : Int) : Nat := if h : i < ts.length then Tr.cnt rs ts[i] q else 0
/-- What is known of a node's operands. -/
def ChAt (H : View) (a : Option Addr) (n : Nat) (f : Nat → Int → Nat) (kv : Nat → KVs) : Prop :=
  ∀ i, i < n → ∃ b off cb lv sv mv rb, a = some ⟨b, off, none⟩ ∧ At H b (off + i * 1) [ptr cb] ∧ At H cb 0 [lv, sv, mp rb, mv] ∧ H rb = some (mapOb (kv i)) ∧ RunP H (f i) (kv i)
theorem ChAt.mono {H H' : View} {a : Option Addr} {n : Nat} {f : Nat → Int → Nat} {kv : Nat → KVs} (h : ChAt H a n f kv) (hle : VLe H H') : ChAt H' a n f kv := by
  intro i hi
  obtain ⟨b, off, cb, lv, sv, mv, rb, h1, h2, h3, h4, h5⟩ := h i hi
  exact ⟨b, off, cb, lv, sv, mv, rb, h1, h2.mono hle, h3.mono hle, hle _ _ h4, h5.mono hle⟩
/-- The nodes of a list of trees, in a slice. -/
theorem chAt_of {tn : TypeId} {H : View} {rs : List Rl} {ts : List Tr} {ns : List Nd} {a : Option Addr} {cap : Nat} (hl : ns.length = ts.length) (hc : SlAt H (.slice a ts.length cap) ts.length (ns.map fun n => ptr n.b))
    (hch : ∀ i (h : i < ts.length) (h2 : i < ns.length), RepNd tn H rs ts[i] ns[i]) : ∃ kv, ChAt H a ts.length (cntF rs ts) kv := by
  have key : ∀ i, ∃ k : KVs, i < ts.length → ∃ b off cb lv sv mv rb, a = some ⟨b, off, none⟩ ∧ At H b (off + i * 1) [ptr cb] ∧ At H cb 0 [lv, sv, mp rb, mv] ∧ H rb = some (mapOb k) ∧ RunP H (cntF rs ts i) k := by
    intro i
    by_cases hi : i < ts.length
    · have h2 : i < ns.length := by omega
      have hr := hch i hi h2
      obtain ⟨a', cap', e, h3⟩ := hc
      cases e
      rcases h3 with ⟨h3, _⟩ | ⟨b, off, rfl, hA⟩
      · omega
      · generalize ht : ts[i] = t at hr
        generalize hn : ns[i] = nd at hr
        cases hr with
        | mk s us cb lm rb ms a2 cap2 kvs hb hl2 hc2 hr2 hq2 hch2 =>
          refine ⟨kvs, fun _ => ⟨b, off, cb, _, _, _, rb, rfl, ?_, At.of hb, hr2, ?_⟩⟩
          · refine hA.sub (p := i * 1) fun j v hj => ?_
            cases j with
            | zero =>
              simp at hj
              subst hj
              simp [h2, hn, Nd.b]
            | succ j => simp at hj
          · have : cntF rs ts i = Tr.cnt rs (.node s us) := by
              funext q
              simp [cntF, hi, ht]
            rw [this]; exact hq2
    · exact ⟨[], fun h => absurd h hi⟩
  exact ⟨fun i => (key i).choose, fun i hi => (key i).choose_spec hi⟩
/-! ### Products and sums -/
def prodTo (f : Nat → Int → Nat) (args : List Int) : Nat → Nat
  | 0 => 1
  | j + 1 => prodTo f args j * f j (args.getD j 0)
theorem prodTo_cons (f : Nat → Int → Nat) (q : Int) (qs : List Int) : ∀ n, prodTo f (q :: qs) (n + 1) = f 0 q * prodTo (fun i => f (i + 1)) qs n
  | 0 => by simp [prodTo]
  | n + 1 => by
    rw [prodTo, prodTo_cons f q qs n, prodTo]
    simp [Nat.mul_assoc]
theorem prodTo_congr {f g : Nat → Int → Nat} {args : List Int} : ∀ {n : Nat}, (∀ i, i < n → f i = g i) → prodTo f args n = prodTo g args n
  | 0, _ => rfl
  | n + 1, h => by simp only [prodTo]; rw [prodTo_congr (n := n) fun i hi => h i (by omega), h n (by omega)]
theorem cnts_prod (rs : List Rl) : ∀ (ts : List Tr) (args : List Int), args.length = ts.length → Tr.cnts rs ts args = prodTo (cntF rs ts) args ts.length
  | [], [], _ => rfl
  | [], _ :: _, h => by simp at h
  | _ :: _, [], h => by simp at h
  | t :: ts, q :: qs, h => by
    rw [Tr.cnts, cnts_prod rs ts qs (by simpa using h), List.length_cons, prodTo_cons]
    congr 1
    refine prodTo_congr fun i hi => ?_
    funext x
    simp [cntF]
def applB (kv : Nat → KVs) (args : List Int) : Nat → Bool
  | 0 => true
  | j + 1 => applB kv args j && (lookI (kv j) (args.getD j 0)).isSome
theorem applB_false {kv : Nat → KVs} {args : List Int} {j n : Nat} (h : applB kv args j = false) (hj : j ≤ n) : applB kv args n = false := by
  induction n with
  | zero => have : j = 0 := by omega
            subst this; exact h
  | succ n ih =>
    by_cases e : j = n + 1
    · subst e; exact h
    · rw [applB, ih (by omega)]; rfl
theorem applB_at {kv : Nat → KVs} {args : List Int} {n : Nat} (h : applB kv args n = true) {i : Nat} (hi : i < n) : (lookI (kv i) (args.getD i 0)).isSome = true := by
  induction n with
  | zero => omega
  | succ n ih =>
    rw [applB, Bool.and_eq_true] at h
    by_cases e : i = n
    · subst e; exact h.2
    · exact ih h.1 (by omega)
theorem ChAt.runP {H : View} {a : Option Addr} {n : Nat} {f : Nat → Int → Nat} {kv : Nat → KVs} (h : ChAt H a n f kv) {i : Nat} (hi : i < n) : RunP H (f i) (kv i) := by
  obtain ⟨b, off, cb, lv, sv, mv, rb, h1, h2, h3, h4, h5⟩ := h i hi
  exact h5
theorem ChAt.appl {H : View} {a : Option Addr} {n : Nat} {f : Nat → Int → Nat} {kv : Nat → KVs} (h : ChAt H a n f kv) (args : List Int) : ∀ {j : Nat}, j ≤ n → (applB kv args j = true ↔ 0 < prodTo f args j)
  | 0, _ => by simp [applB, prodTo]
  | j + 1, hj => by
    rw [applB, Bool.and_eq_true, h.appl args (j := j) (by omega), (h.runP (show j < n by omega)).isSome, prodTo]
    exact ⟨fun ⟨h1, h2⟩ => Nat.mul_pos h1 h2, fun hp => ⟨Nat.pos_of_mul_pos_right hp, Nat.pos_of_mul_pos_left hp⟩⟩
def sumTo (F : Rl → Nat) (L : List Rl) (q : Int) : Nat := ((L.filter fun r => decide (r.to = q)).map F).sum
theorem sumTo_snoc (F : Rl → Nat) (L : List Rl) (r : Rl) (q : Int) : sumTo F (L ++ [r]) q = sumTo F L q + if r.to = q then F r else 0 := by
  unfold sumTo
  rw [List.filter_append, List.map_append, List.sum_append]
  by_cases h : r.to = q <;> simp [h]
theorem sumTo_filter {F : Rl → Nat} {p : Rl → Bool} : ∀ {L : List Rl} {q : Int}, (∀ r ∈ L, p r = false → F r = 0) → sumTo F (L.filter p) q = sumTo F L q
  | [], _, _ => rfl
  | r :: L, q, h => by
    have ih := sumTo_filter (L := L) (q := q) fun x hx => h x (List.mem_cons_of_mem _ hx)
    unfold sumTo at *
    rw [List.filter_filter] at ih
    by_cases hp : p r = true
    · rw [List.filter_cons_of_pos hp]
      by_cases hq : r.to = q
      · simp [hq, ih]
      · simp [hq, ih]
    · rw [List.filter_cons_of_neg hp]
      have h0 := h r List.mem_cons_self (by simpa using hp)
      by_cases hq : r.to = q
      · simp [hq, ih, h0]
      · simp [hq, ih]
theorem sumTo_le {F : Rl → Nat} {L L' : List Rl} {q : Int} (h : L <+: L') : sumTo F L q ≤ sumTo F L' q := by
  obtain ⟨r, rfl⟩ := h
  unfold sumTo
  rw [List.filter_append, List.map_append, List.sum_append]
  omega
theorem cnt_sum (rs : List Rl) (s : Int) (ts : List Tr) (q : Int) : Tr.cnt rs (.node s ts) q = sumTo (fun r => Tr.cnts rs ts r.args) (symR rs s) q := by
  rw [Tr.cnt]
  unfold sumTo symR
  rw [List.filter_filter]
  congr 2
  apply List.filter_congr
  intro r _
  by_cases h1 : r.sym = s <;> by_cases h2 : r.to = q <;> simp [h1, h2]
mutual
def Tr.fits (rs : List Rl) : Tr → Prop
  | .node s ts => (∀ r ∈ rs, r.sym = s → r.args.length = ts.length) ∧ Tr.fitss rs ts
def Tr.fitss (rs : List Rl) : List Tr → Prop
  | [] => True
  | t :: ts => Tr.fits rs t ∧ Tr.fitss rs ts
end
theorem Tr.fitss_get {rs : List Rl} : ∀ {ts : List Tr}, Tr.fitss rs ts → ∀ i (h : i < ts.length), Tr.fits rs ts[i]
  | [], _, i, h => by simp at h
  | t :: ts, hf, 0, _ => hf.1
  | t :: ts, hf, i + 1, h => Tr.fitss_get hf.2 i (by simpa using h)
/-! ### Bounds -/
theorem sum_bound {α : Type} {F : α → Nat} {B : Nat} : ∀ {l : List α}, (∀ x ∈ l, F x ≤ B) → (l.map F).sum ≤ l.length * B
  | [], _ => by simp
  | x :: l, h => by
    have ih := sum_bound (F := F) (B := B) (l := l) fun y hy => h y (List.mem_cons_of_mem _ hy)
    have h0 := h x List.mem_cons_self
    simp only [List.map_cons, List.sum_cons, List.length_cons, Nat.succ_mul]
    omega
mutual
theorem Tr.cnt_le (rs : List Rl) : ∀ (t : Tr) (q : Int), t.cnt rs q ≤ rs.length ^ t.size
  | .node s ts, q => by
    rw [Tr.cnt, Tr.size, Nat.add_comm, Nat.pow_succ, Nat.mul_comm]
    refine Nat.le_trans (sum_bound fun r _ => Tr.cnts_le rs ts r.args) ?_
    exact Nat.mul_le_mul_right _ (List.length_filter_le _ _)
theorem Tr.cnts_le (rs : List Rl) : ∀ (ts : List Tr) (qs : List Int), Tr.cnts rs ts qs ≤ rs.length ^ Tr.sizes ts
  | [], [] => by simp [Tr.cnts, Tr.sizes]
  | [], _ :: _ => by simp [Tr.cnts]
  | _ :: _, [] => by simp [Tr.cnts]
  | t :: ts, q :: qs => by
    rw [Tr.cnts, Tr.sizes, Nat.pow_add]
    exact Nat.mul_le_mul (Tr.cnt_le rs t q) (Tr.cnts_le rs ts qs)
end
theorem prodTo_le (rs : List Rl) (ts : List Tr) (args : List Int) : ∀ {j : Nat}, j ≤ ts.length → prodTo (cntF rs ts) args j ≤ rs.length ^ Tr.sizes (ts.take j)
  | 0, _ => by simp [prodTo, Tr.sizes]
  | j + 1, hj => by
    rw [prodTo, Tr.sizes_take ts j (by omega), Nat.pow_add]
    refine Nat.mul_le_mul (prodTo_le rs ts args (j := j) (by omega)) ?_
    have hj' : j < ts.length := by omega
    simp only [cntF, hj', dif_pos]
    exact Tr.cnt_le rs _ _
theorem pow_big {N k : Nat} (hN : N ≤ 65536) (hk : k ≤ 1048576) : N ^ k < bigN := by
  rw [bigN_eq]
  have hk' : k ≤ kWords := by rw [kWords_eq]; exact hk
  have h1 : N ^ k ≤ 65536 ^ k := Nat.pow_le_pow_left hN k
  have h2 : 65536 ^ k ≤ 65536 ^ kWords := Nat.pow_le_pow_right (by decide) hk'
  have h3 : 65536 ^ kWords < 4294967296 ^ kWords := Nat.pow_lt_pow_left (by decide) (by rw [kWords_eq]; decide)
  exact Nat.lt_of_le_of_lt (Nat.le_trans h1 h2) h3
def runF (rs : List Rl) (ts : List Tr) (r : Rl) : Nat := prodTo (cntF rs ts) r.args r.args.length
theorem node_cnt {H : View} {a : Option Addr} {rs : List Rl} {ts : List Tr} {s : Int} {kv : Nat → KVs} (hch : ChAt H a ts.length (cntF rs ts) kv) (hfit : ∀ r ∈ symR rs s, r.args.length = ts.length) (q : Int) :
    sumTo (runF rs ts) ((symR rs s).filter fun r => applB kv r.args r.args.length) q = Tr.cnt rs (.node s ts) q := by
  rw [sumTo_filter, cnt_sum]
  · unfold sumTo
    congr 1
    apply List.map_congr_left
    intro r hr
    have hl := hfit r (List.mem_filter.1 hr).1
    rw [cnts_prod rs ts r.args hl, runF, hl]
  · intro r hr h
    have hl := hfit r hr
    unfold runF
    rw [hl] at h ⊢
    rcases Nat.eq_zero_or_pos (prodTo (cntF rs ts) r.args ts.length) with e | e
    · exact e
    · rw [(hch.appl r.args (Nat.le_refl _)).2 e] at h; cases h
theorem sizes_ge {ts : List Tr} {j : Nat} (hj : j < ts.length) : ts[j].size ≤ Tr.sizes ts := by
  have h1 := Tr.sizes_take ts j hj
  have h2 := Tr.sizes_take_le ts (j + 1)
  omega
theorem prodTo_big {rs : List Rl} {ts : List Tr} (hN : rs.length ≤ 65536) (hs : Tr.sizes ts ≤ 1048576) (args : List Int) {j : Nat} (hj : j ≤ ts.length) : prodTo (cntF rs ts) args j < bigN :=
  Nat.lt_of_le_of_lt (prodTo_le rs ts args hj) (pow_big hN (Nat.le_trans (Tr.sizes_take_le ts j) hs))
theorem cntF_big {rs : List Rl} {ts : List Tr} (hN : rs.length ≤ 65536) (hs : Tr.sizes ts ≤ 1048576) {j : Nat} (hj : j < ts.length) (q : Int) : cntF rs ts j q < bigN := by
  simp only [cntF, hj, dif_pos]
  exact Nat.lt_of_le_of_lt (Tr.cnt_le rs _ _) (pow_big hN (Nat.le_trans (sizes_ge hj) hs))
theorem cnt_big {rs : List Rl} {t : Tr} (hN : rs.length ≤ 65536) (hs : t.size ≤ 1048576) (q : Int) : t.cnt rs q < bigN := Nat.lt_of_le_of_lt (Tr.cnt_le rs _ _) (pow_big hN hs)
theorem repNd_snoc {tn : TypeId} {V U : View} {rs : List Rl} {ts : List Tr} {ns : List Nd} {nd : Nd} {k : Nat} (hch : ∀ i (h1 : i < ts.length) (h2 : i < ns.length), RepNd tn V rs ts[i] ns[i]) (hU : VLe V U) (hns : ns.length = k) (hk : k < ts.length) (hnd : RepNd tn U rs ts[k] nd) :
    ∀ i (h1 : i < ts.length) (h2 : i < (ns ++ [nd]).length), RepNd tn U rs ts[i] (ns ++ [nd])[i] := by
  intro i h1 h2
  by_cases e : i < ns.length
  · rw [List.getElem_append_left e]; exact (hch i h1 e).mono hU
  · have e2 : i = k := by simp at h2; omega
    subst e2
    rw [List.getElem_append_right (by omega)]
    simpa [hns] using hnd
section
variable {P : Program} {n : Nat} {c : Cx} {Q : Exit → Act → World → Prop} {l : KL} {hl : HL} {H : View}
theorem Ok.many_app {w : World} {p q : HL} (h : Ok c w H (many q :: many p :: hl)) : Ok c w H (many (p ++ q) :: hl) := by
  have h1 := (h.perm (List.Perm.swap _ _ _)).many_out
  have h2 : Ok c w H (many q :: (p ++ hl)) := h1.perm List.perm_middle
  have h3 := h2.many_out
  refine Ok.many_in (p := p ++ q) (h3.perm ?_)
  rw [List.append_assoc, ← List.append_assoc, ← List.append_assoc]
  exact List.Perm.append_right _ List.perm_append_comm
theorem Ok.many_cons {w : World} {p : HL} {e : Own} (h : Ok c w H (e :: many p :: hl)) : Ok c w H (many (e :: p) :: hl) := by
  have h1 := (h.perm (List.Perm.swap _ _ _)).many_out
  exact Ok.many_in (p := e :: p) (h1.perm List.perm_middle)
theorem KQ_many_app {x : Exit} {p q : HL} (h : KQ n c Q x l (many (p ++ q) :: hl) H) : KQ n c Q x l (many q :: many p :: hl) H := fun ρ w hm ho => h ρ w hm ho.many_app
theorem KQ_many_cons {x : Exit} {p : HL} {e : Own} (h : KQ n c Q x l (many (e :: p) :: hl) H) : KQ n c Q x l (e :: many p :: hl) H := fun ρ w hm ho => h ρ w hm ho.many_cons
end
end Pal

/-
  Ranges over maps; trees that fit; states of a tree. Own work. No statement of the seat is proved here.
-/
namespace Pal
open Go
section
variable {P : Program} {n : Nat} {c : Cx} {Q : Exit → Act → World → Prop} {l : KL} {hl : HL} {H : View} {ops : Array Oper} {rest : List Oper} {d : Nat} {ty : TypeId} {pos : String} {aft : Array Edge}
theorem MapAt.perm {b : Nat} {kvs : KVs} {hl' : HL} (h : MapAt H hl b kvs) (hp : hl.Perm hl') : MapAt H hl' b kvs := h.imp id fun h => hp.mem_iff.1 h
theorem K_range {t kt et : TypeId} {x : Operand} {m : Nat} {kvs : KVs} (ht : P.underlying t = some (.map kt et)) (hx : ev l x = some (mp m)) (hm : MapAt H hl m kvs) (hdn : Nat.blt d n = true)
    (h : ∀ b, KO P n c ops Q rest ((d, ptr b) :: l) (blk b (itO m kvs.length []) :: hl) H) : KO P n c ops Q (⟨some d, .range t x, ty, pos, aft, none⟩ :: rest) l hl H :=
  KE hl [] (by rw [List.append_nil]) (E_range ht hx fun w hw => hm.heap hw) hdn (by
    rintro v H' q _ ⟨b, rfl, rfl, rfl⟩
    rw [List.append_nil]; exact h b)
theorem K_next {x : Operand} {b m : Nat} {kvs : KVs} {seen : List Nat} (j : Nat) (hj : hl[j]? = some (blk b (itO m kvs.length seen))) (hx : ev l x = some (ptr b)) (hm : MapAt H hl m kvs) (hdn : Nat.blt d n = true)
    (h0 : (∀ i, i < kvs.length → i ∈ seen) → KO P n c ops Q rest ((d, .tuple #[.bool false]) :: l) hl H)
    (h1 : ∀ i q u, kvs[i]? = some (q, u) → i ∉ seen → KO P n c ops Q rest ((d, .tuple #[.bool true, .int .i64 q, u]) :: l) (hl.set j (blk b (itO m kvs.length (seen ++ [i])))) H) :
    KO P n c ops Q (⟨some d, .next x false, ty, pos, aft, none⟩ :: rest) l hl H := by
  have hp := perm_erase hj
  have hE := E_next (P := P) (ty := ty) (p := hl.eraseIdx j) hx (H := H) fun w hw => (hm.perm hp).heap hw
  refine KE (blk b (itO m kvs.length seen) :: hl.eraseIdx j) [] (by rw [List.append_nil]; exact hp) hE hdn ?_
  rintro v H' q _ ⟨rfl, ⟨rfl, rfl, hall⟩ | ⟨i, k, u, hk, hi, rfl, rfl⟩⟩
  · rw [List.append_nil]
    exact fun ρ w hm2 ho => h0 hall ρ w hm2 (ho.perm hp.symm)
  · rw [List.append_nil]
    exact fun ρ w hm2 ho => h1 i k u hk hi ρ w hm2 (ho.perm (perm_set hj))
theorem R_entry {x : Operand} {b m i : Nat} {kvs : KVs} {seen : List Nat} {q : Int} {u : Value} (j : Nat) (hj : hl[j]? = some (blk b (itO m kvs.length (seen ++ [i])))) (hx : ev l x = some (ptr b)) (hm : MapAt H hl m kvs) (hk : kvs[i]? = some (q, u)) :
    ValOk P l H hl (.entry x) ty (.tuple #[.int .i64 q, u]) := by
  intro e w hkn hw
  have hb : w.heap[b]? = some (.mapIter (some m) kvs.length ((seen.toArray).push i) kvs.length) := by
    have h := hw.own _ (List.mem_of_getElem? hj)
    have e2 : (seen ++ [i]).toArray = seen.toArray.push i := by simp
    have h2 : w.heap[b]? = some (itO m kvs.length (seen ++ [i])) := h
    rw [itO, e2] at h2
    exact h2
  have hmm : w.heap[m]? = some (.map (mkEs kvs) kvs.length) := hm.heap hw
  have hin : (⟨.int .i64 q, u, i⟩ : MapEntry) ∈ (mkEs kvs).toList := by
    have := mkEs_get kvs i
    rw [hk] at this
    exact Array.mem_toList_iff.2 (Array.mem_of_getElem? this)
  have hnd : ((mkEs kvs).toList.map (·.born)).Nodup := by
    have : (mkEs kvs).toList.map (·.born) = List.range kvs.length := by
      apply List.ext_getElem?
      intro k
      rw [List.getElem?_map, Array.getElem?_toList, mkEs_get]
      by_cases h : k < kvs.length
      · simp [h, entO]
      · simp [h]
    rw [this]; exact List.nodup_range
  have hr := run_entry_at (P := P) w b m kvs.length seen.toArray (mkEs kvs) kvs.length ⟨.int .i64 q, u, i⟩ hb hmm hin hnd
  simp only [ex, execOp, hkn x _ hx, ptr, Sem.run_bind, hr, Result.andThen_ok, Sem.run_pure]
end
theorem length_le_of_subset {α : Type} [DecidableEq α] : ∀ {xs ys : List α}, xs.Nodup → (∀ x ∈ xs, x ∈ ys) → xs.length ≤ ys.length
  | [], _, _, _ => Nat.zero_le _
  | x :: xs, ys, hn, h => by
    have g := List.nodup_cons.1 hn
    have hx := h x List.mem_cons_self
    have ih := length_le_of_subset (xs := xs) (ys := ys.erase x) g.2 fun y hy => by
      have hne : y ≠ x := fun e => g.1 (e ▸ hy)
      exact (List.mem_erase_of_ne hne).2 (h y (List.mem_cons_of_mem _ hy))
    have := List.length_erase_of_mem hx
    have := List.length_pos_of_mem hx
    simp only [List.length_cons]
    omega
theorem cnt_pos_to {rs : List Rl} {t : Tr} {q : Int} (h : 0 < t.cnt rs q) : ∃ r ∈ rs, r.to = q := by
  cases t with
  | node s ts =>
    rw [Tr.cnt] at h
    cases hf : rs.filter (fun r => decide (r.sym = s ∧ r.to = q)) with
    | nil => rw [hf] at h; simp at h
    | cons r l =>
      have hm : r ∈ rs.filter (fun r => decide (r.sym = s ∧ r.to = q)) := by rw [hf]; exact List.mem_cons_self
      have := List.mem_filter.1 hm
      exact ⟨r, this.1, (of_decide_eq_true this.2).2⟩
mutual
theorem Tr.fits_of {a : Au} (ha : AuOk a) {rs : List Rl} (hr : ∀ r ∈ rs, r ∈ a.rules) : ∀ (t : Tr), Tr.nodesErr a.ranks t = 0 → Tr.fits rs t
  | .node s ts, h => by
    obtain ⟨h1, h2, h3⟩ := Tr.nodesErr_zero.1 h
    refine ⟨fun r hr2 he => ?_, Tr.fitss_of ha hr ts h3⟩
    have h4 := (ha.ru r (hr r hr2)).2.2.1
    rw [he] at h4
    omega
theorem Tr.fitss_of {a : Au} (ha : AuOk a) {rs : List Rl} (hr : ∀ r ∈ rs, r ∈ a.rules) : ∀ (ts : List Tr), (∀ t ∈ ts, Tr.nodesErr a.ranks t = 0) → Tr.fitss rs ts
  | [], _ => trivial
  | t :: ts, h => ⟨Tr.fits_of ha hr t (h t List.mem_cons_self), Tr.fitss_of ha hr ts fun u hu => h u (List.mem_cons_of_mem _ hu)⟩
end
def askErr (a : Au) (t : Tr) : Int := if auErr a ≠ 0 then auErr a else validErr a.ranks t
theorem validErr_zero {rk : List Int} {t : Tr} (h : validErr rk t = 0) : t.size ≤ 4096 ∧ Tr.nodesErr rk t = 0 := by
  unfold validErr at h
  split at h
  · rename_i h1; exact absurd h h1
  · split at h
    · omega
    · split at h
      · omega
      · exact ⟨by omega, h⟩
theorem askErr_zero {a : Au} {t : Tr} (h : askErr a t = 0) : AuOk a ∧ t.size ≤ 4096 ∧ Tr.nodesErr a.ranks t = 0 := by
  unfold askErr at h
  split at h
  · rename_i h1; exact absurd h h1
  · rename_i h1
    exact ⟨AuOk.of (by omega), validErr_zero h⟩
theorem perm_lt {xs ys : List Int} (hp : xs.Perm ys) (hn : ys.Nodup) (hs : xs.Pairwise (· ≤ ·)) : xs.Pairwise (· < ·) := by
  have hn2 : xs.Pairwise (· ≠ ·) := hp.nodup_iff.2 hn
  exact (hs.and hn2).imp fun ⟨h1, h2⟩ => by omega
/-- The states of a tree, in their order. -/
def IsReach (rs : List Rl) (t : Tr) (L : List Int) : Prop := L.Pairwise (· < ·) ∧ ∀ q, q ∈ L ↔ 0 < t.cnt rs q
theorem RepNd.head {tn : TypeId} {H : View} {rs : List Rl} {t : Tr} {nd : Nd} (h : RepNd tn H rs t nd) : ∃ lv sv rb kvs, At H nd.b 0 [lv, sv, mp rb, mp nd.lm] ∧ H rb = some (mapOb kvs) ∧ RunP H (Tr.cnt rs t) kvs := by
  cases h with
  | mk s ts b lm rb ns a cap kvs hb hl hc hr hq hch => exact ⟨_, _, rb, kvs, At.of hb, hr, hq⟩
theorem run_keys {H : View} {rs : List Rl} {t : Tr} {kvs : KVs} (h : RunP H (Tr.cnt rs t) kvs) : (∀ q, q ∈ kvs.map (·.1) ↔ 0 < t.cnt rs q) ∧ kvs.length ≤ rs.length := by
  have h1 : ∀ q, q ∈ kvs.map (·.1) ↔ 0 < t.cnt rs q := fun q => lookI_isSome.symm.trans (h.isSome q)
  refine ⟨h1, ?_⟩
  have := length_le_of_subset (xs := kvs.map (·.1)) (ys := rs.map (·.to)) h.1 fun q hq => by
    obtain ⟨r, hr, e⟩ := cnt_pos_to ((h1 q).1 hq)
    exact List.mem_map.2 ⟨r, hr, e⟩
  simpa using this
/-- What a range has seen, when it has seen all. -/
theorem seen_all {kvs : KVs} {seen : List Nat} (hn : seen.Nodup) (hlt : ∀ i ∈ seen, i < kvs.length) (hall : ∀ i, i < kvs.length → i ∈ seen) : (seen.map fun i => kvs.getD i (0, nilS)).Perm kvs := by
  have hp : seen.Perm (List.range kvs.length) := (List.perm_ext_iff_of_nodup hn List.nodup_range).2 fun i => ⟨fun h => List.mem_range.2 (hlt i h), fun h => hall i (List.mem_range.1 h)⟩
  refine (hp.map _).trans ?_
  have : (List.range kvs.length).map (fun i => kvs.getD i (0, nilS)) = kvs := by
    apply List.ext_getElem?
    intro k
    rw [List.getElem?_map]
    by_cases h : k < kvs.length
    · simp [h, List.getD]
    · simp [h]
  rw [this]
theorem seen_len {n : Nat} {seen : List Nat} (hn : seen.Nodup) (hlt : ∀ i ∈ seen, i < n) : seen.length ≤ n := by
  have := length_le_of_subset (ys := List.range n) hn fun i hi => List.mem_range.2 (hlt i hi)
  simpa using this
theorem seen_snoc {n i : Nat} {seen : List Nat} (hn : seen.Nodup) (hlt : ∀ i ∈ seen, i < n) (hi : i ∉ seen) (hin : i < n) : (seen ++ [i]).Nodup ∧ (∀ j ∈ seen ++ [i], j < n) ∧ seen.length + 1 ≤ n := by
  have h1 : (seen ++ [i]).Nodup := List.nodup_append.2 ⟨hn, by simp, fun a ha b hb e => by simp at hb; subst hb; subst e; exact hi ha⟩
  have h2 : ∀ j ∈ seen ++ [i], j < n := fun j hj => by
    rcases List.mem_append.1 hj with h | h
    · exact hlt j h
    · simp at h; omega
  have h3 := seen_len h1 h2
  exact ⟨h1, h2, by simpa using h3⟩
def keysAt (kvs : KVs) (seen : List Nat) : List Int := seen.map fun i => (kvs.getD i (0, nilS)).1
theorem keysAt_len (kvs : KVs) (seen : List Nat) : (keysAt kvs seen).length = seen.length := by simp [keysAt]
theorem keysAt_snoc {kvs : KVs} {seen : List Nat} {i : Nat} {q : Int} {u : Value} (h : kvs[i]? = some (q, u)) : keysAt kvs (seen ++ [i]) = keysAt kvs seen ++ [q] := by
  simp [keysAt, List.getD, h]
theorem keysAt_all {kvs : KVs} {seen : List Nat} (hn : seen.Nodup) (hlt : ∀ i ∈ seen, i < kvs.length) (hall : ∀ i, i < kvs.length → i ∈ seen) : (keysAt kvs seen).Perm (kvs.map (·.1)) := by
  have := (seen_all hn hlt hall).map (·.1)
  rwa [List.map_map] at this
end Pal
namespace Pal
open Go
/-- The program's answers. -/
def accA (a : Au) (t : Tr) : Bool := decide (askErr a t = 0) && a.final.any fun q => decide (0 < t.cnt (sortO a.rules) q)
def cntA (a : Au) (t : Tr) (fs : List Int) : Nat := (fs.map fun q => t.cnt (sortO a.rules) q).sum
theorem cntA_snoc {a : Au} {t : Tr} {fs : List Int} {k : Nat} (hk : k < fs.length) : cntA a t (fs.take (k + 1)) = cntA a t (fs.take k) + t.cnt (sortO a.rules) fs[k] := by
  unfold cntA
  rw [List.take_succ_eq_append_getElem hk, List.map_append, List.sum_append]
  simp
theorem cntA_big {a : Au} {t : Tr} {fs : List Int} (hok : AuOk a) (hf : fs.length ≤ 1099511627776) (ht : t.size ≤ 4096) : cntA a t fs < bigN := by
  have hN : (sortO a.rules).length ≤ 65536 := Nat.le_trans (sortO_len _) hok.ul
  have h1 := sum_bound (F := fun q => t.cnt (sortO a.rules) q) (l := fs) (B := 65536 ^ t.size) fun q _ => Nat.le_trans (Tr.cnt_le _ t q) (Nat.pow_le_pow_left hN _)
  have h2 : fs.length * 65536 ^ t.size ≤ 65536 ^ 3 * 65536 ^ t.size := Nat.mul_le_mul_right _ (Nat.le_trans hf (by decide))
  have h3 : 65536 ^ 3 * 65536 ^ t.size = 65536 ^ (3 + t.size) := (Nat.pow_add _ _ _).symm
  rw [h3] at h2
  exact Nat.lt_of_le_of_lt (Nat.le_trans h1 h2) (pow_big (Nat.le_refl _) (by omega))
theorem cntA_take_le {a : Au} {t : Tr} {fs : List Int} {k : Nat} : cntA a t (fs.take k) ≤ cntA a t fs := by
  unfold cntA
  have h := List.take_append_drop k fs
  conv => rhs; rw [← h]
  rw [List.map_append, List.sum_append]
  omega
theorem acc_any {rs : List Rl} {t : Tr} {L F : List Int} (h : IsReach rs t L) : L.any (fun q => decide (q ∈ F)) = F.any fun q => decide (0 < t.cnt rs q) := by
  rw [Bool.eq_iff_iff, List.any_eq_true, List.any_eq_true]
  constructor
  · rintro ⟨q, hq, hf⟩; exact ⟨q, of_decide_eq_true hf, decide_eq_true ((h.2 q).1 hq)⟩
  · rintro ⟨q, hq, hf⟩; exact ⟨q, (h.2 q).2 (of_decide_eq_true hf), decide_eq_true hq⟩
end Pal

/-
  Least runs with their memory: the maps of a tree's nodes. Own work. No statement of the seat is proved here.
-/
namespace Pal
open Go
inductive Md where
  | mk (lm : Nat) (kv : KVs) (l : List Md)
mutual
def Md.maps : Md → HL
  | .mk lm kv l => blk lm (mapOb kv) :: Md.mapss l
def Md.mapss : List Md → HL
  | [] => []
  | m :: r => Md.maps m ++ Md.mapss r
end
theorem Md.mapss_append : ∀ a b : List Md, Md.mapss (a ++ b) = Md.mapss a ++ Md.mapss b
  | [], b => rfl
  | n :: r, b => by simp only [List.cons_append, Md.mapss, Md.mapss_append r b, List.append_assoc]
def LeastP (H : View) (f : Int → Option (List Int)) (kvs : KVs) : Prop := (kvs.map (·.1)).Nodup ∧ ∀ q v, lookI kvs q = some v → ∃ x, f q = some x ∧ SI H v x
theorem LeastP.mono {H H' : View} {f : Int → Option (List Int)} {kvs : KVs} (h : LeastP H f kvs) (hle : VLe H H') : LeastP H' f kvs :=
  ⟨h.1, fun q v hv => by obtain ⟨x, h1, h2⟩ := h.2 q v hv; exact ⟨x, h1, h2.mono hle⟩⟩
theorem LeastP.set {H H' : View} {f : Int → Option (List Int)} {kvs : KVs} (h : LeastP H f kvs) (hle : VLe H H') {q : Int} {v : Value} {x : List Int} (hx : f q = some x) (hv : SI H' v x) : LeastP H' f (setI kvs q v) := by
  refine ⟨setI_keys q v h.1, fun k u hu => ?_⟩
  rw [lookI_setI h.1] at hu
  by_cases e : k = q
  · rw [if_pos e] at hu; cases hu; subst e; exact ⟨x, hx, hv⟩
  · rw [if_neg e] at hu; exact (h.mono hle).2 k u hu
inductive MdOk (H : View) (rs : List Rl) : Tr → Nd → Md → Prop
  | mk (s : Int) (ts : List Tr) (b lm : Nat) (ns : List Nd) (kv : KVs) (ms : List Md) (h1 : ns.length = ts.length) (h2 : ms.length = ts.length) (hk : LeastP H (Tr.least rs (.node s ts)) kv)
    (hch : ∀ i (h : i < ts.length) (h2 : i < ns.length) (h3 : i < ms.length), MdOk H rs ts[i] ns[i] ms[i]) : MdOk H rs (.node s ts) (.mk b lm ns) (.mk lm kv ms)
theorem MdOk.mono {H H' : View} {rs : List Rl} {t : Tr} {nd : Nd} {md : Md} (h : MdOk H rs t nd md) (hle : VLe H H') : MdOk H' rs t nd md := by
  induction h with
  | mk s ts b lm ns kv ms h1 h2 hk hch ih => exact .mk s ts b lm ns kv ms h1 h2 (hk.mono hle) ih
mutual
def Nd.md : Nd → Md
  | .mk _ lm l => .mk lm [] (Nd.mds l)
def Nd.mds : List Nd → List Md
  | [] => []
  | n :: r => Nd.md n :: Nd.mds r
end
theorem Nd.mds_eq : ∀ l : List Nd, Nd.mds l = l.map Nd.md
  | [] => rfl
  | n :: r => by rw [Nd.mds, Nd.mds_eq r]; rfl
mutual
theorem Nd.maps_md : ∀ nd : Nd, nd.maps (fun _ => []) = nd.md.maps
  | .mk b lm l => by rw [Nd.maps, Nd.md, Md.maps, Nd.mapss_md l]
theorem Nd.mapss_md : ∀ l : List Nd, Nd.mapss (fun _ => []) l = Md.mapss (Nd.mds l)
  | [] => rfl
  | n :: r => by rw [Nd.mapss, Nd.mds, Md.mapss, Nd.maps_md n, Nd.mapss_md r]
end
theorem RepNd.mdOk {tn : TypeId} {H : View} {rs : List Rl} {t : Tr} {nd : Nd} (h : RepNd tn H rs t nd) : MdOk H rs t nd nd.md := by
  induction h with
  | mk s ts b lm rb ns a cap kvs hb hl hc hr hq hch ih =>
    refine .mk s ts b lm ns [] (Nd.mds ns) hl (by rw [Nd.mds_eq]; simpa using hl) ⟨by simp, fun q v hv => by simp [lookI, findI] at hv⟩ fun i h1 h2 h3 => ?_
    have e : (Nd.mds ns)[i] = ns[i].md := by simp [Nd.mds_eq]
    rw [e]; exact ih i h1 h2
section
variable {P : Program} {n : Nat} {c : Cx} {Q : Exit → Act → World → Prop} {l : KL} {hl : HL} {H : View} {ops : Array Oper} {rest : List Oper}
theorem Ok.many_uncons {w : World} {p : HL} {e : Own} (h : Ok c w H (many (e :: p) :: hl)) : Ok c w H (e :: many p :: hl) := by
  have h1 := h.many_out
  have h2 : Ok c w H (p ++ (e :: hl)) := h1.perm (by simpa using List.perm_middle.symm)
  exact h2.many_in.perm (List.Perm.swap _ _ _)
theorem KO_many_uncons {p : HL} {e : Own} (h : KO P n c ops Q rest l (e :: many p :: hl) H) : KO P n c ops Q rest l (many (e :: p) :: hl) H := fun ρ w hm ho => h ρ w hm ho.many_uncons
theorem SatO.many_uncons {f : FuncId} {args : Array Value} {p : HL} {e : Own} {post : Value → View → HL → Prop} (h : SatO P f args H (e :: many p :: hl) post) : SatO P f args H (many (e :: p) :: hl) post := by
  intro w hw
  have hf : feet (many (e :: p) :: hl) = feet (e :: many p :: hl) := by simp [feet, many]
  have := h w (hw.ok.many_uncons).hasL
  rw [hf]; exact this
/-- One map-tree out of the list. -/
theorem mapss_out {ms : List Md} {i : Nat} (hi : i < ms.length) : (Md.mapss ms).Perm (ms[i].maps ++ (Md.mapss (ms.take i) ++ Md.mapss (ms.drop (i + 1)))) := by
  have e : ms = ms.take i ++ ms[i] :: ms.drop (i + 1) := by simp
  conv => lhs; rw [e]
  rw [Md.mapss_append, Md.mapss, ← List.append_assoc, ← List.append_assoc]
  exact List.Perm.append_right _ List.perm_append_comm
theorem mapss_in {ms : List Md} {i : Nat} (hi : i < ms.length) (m : Md) : (m.maps ++ (Md.mapss (ms.take i) ++ Md.mapss (ms.drop (i + 1)))).Perm (Md.mapss (ms.set i m)) := by
  have e : ms.set i m = ms.take i ++ m :: ms.drop (i + 1) := List.set_eq_take_append_cons_drop .. |>.trans (by rw [if_pos hi])
  rw [e, Md.mapss_append, Md.mapss, ← List.append_assoc, ← List.append_assoc]
  exact List.Perm.append_right _ List.perm_append_comm
theorem Ok.mapss_out {w : World} {ms : List Md} {i : Nat} (hi : i < ms.length) (h : Ok c w H (many (Md.mapss ms) :: hl)) : Ok c w H (many ms[i].maps :: many (Md.mapss (ms.take i) ++ Md.mapss (ms.drop (i + 1))) :: hl) := by
  have h1 := (h.many_perm (Pal.mapss_out hi)).many_out
  rw [List.append_assoc] at h1
  have h2 := h1.many_in
  have h3 : Ok c w H ((Md.mapss (ms.take i) ++ Md.mapss (ms.drop (i + 1))) ++ (many ms[i].maps :: hl)) := h2.perm List.perm_middle.symm
  exact h3.many_in.perm (List.Perm.swap _ _ _)
theorem Ok.mapss_in {w : World} {ms : List Md} {i : Nat} (hi : i < ms.length) {m : Md} (h : Ok c w H (many m.maps :: many (Md.mapss (ms.take i) ++ Md.mapss (ms.drop (i + 1))) :: hl)) : Ok c w H (many (Md.mapss (ms.set i m)) :: hl) := by
  have h1 := (h.perm (List.Perm.swap _ _ _)).many_app
  exact h1.many_perm (Pal.mapss_in hi m)
theorem KC_mapss_out {code : Code} {ms : List Md} {i : Nat} (hi : i < ms.length) (h : KC P n c code Q l (many ms[i].maps :: many (Md.mapss (ms.take i) ++ Md.mapss (ms.drop (i + 1))) :: hl) H) : KC P n c code Q l (many (Md.mapss ms) :: hl) H := fun ρ w hm ho => h ρ w hm (ho.mapss_out hi)
theorem KQ_mapss_in {x : Exit} {ms : List Md} {i : Nat} (hi : i < ms.length) {m : Md} (h : KQ n c Q x l (many (Md.mapss (ms.set i m)) :: hl) H) : KQ n c Q x l (many m.maps :: many (Md.mapss (ms.take i) ++ Md.mapss (ms.drop (i + 1))) :: hl) H := fun ρ w hm ho => h ρ w hm (ho.mapss_in hi)
end
/-! ### The plain law -/
theorem least_len {rs : List Rl} {t : Tr} {q : Int} {x : List Int} (h : Tr.least rs t q = some x) : x.length = t.size := by
  rcases Tr.least_ways rs t q with ⟨_, h2⟩ | ⟨m, h1, h2⟩
  · rw [h2] at h; cases h
  · rw [h1] at h; cases h
    exact Tr.ways_len rs t _ (List.mem_filter.1 h2.1).1
theorem least_some {rs : List Rl} {t : Tr} {q : Int} : (Tr.least rs t q).isSome = true ↔ 0 < t.cnt rs q := by
  rw [← Tr.cnt_ways, List.countP_eq_length_filter]
  rcases Tr.least_ways rs t q with ⟨h1, h2⟩ | ⟨m, h1, h2⟩
  · rw [h1, h2]; simp
  · rw [h1]
    have := List.length_pos_of_mem h2.1
    simp only [Option.isSome_some, true_iff]
    exact this
def ltAt (rs : List Rl) (ts : List Tr) (args : List Int) (i : Nat) : List Int := (if h : i < ts.length then Tr.least rs ts[i] (args.getD i 0) else none).getD []
def ltTo (rs : List Rl) (ts : List Tr) (args : List Int) : Nat → List Int
  | 0 => []
  | j + 1 => ltTo rs ts args j ++ ltAt rs ts args j
theorem ltTo_cons (rs : List Rl) (t : Tr) (ts : List Tr) (q : Int) (qs : List Int) : ∀ n, ltTo rs (t :: ts) (q :: qs) (n + 1) = (Tr.least rs t q).getD [] ++ ltTo rs ts qs n
  | 0 => by simp [ltTo, ltAt]
  | n + 1 => by
    rw [ltTo, ltTo_cons rs t ts q qs n, ltTo, List.append_assoc]
    congr 2
    simp [ltAt]
theorem leasts_to (rs : List Rl) : ∀ (ts : List Tr) (args : List Int), args.length = ts.length → (∀ i, i < ts.length → 0 < cntF rs ts i (args.getD i 0)) → Tr.leasts rs ts args = some (ltTo rs ts args ts.length)
  | [], [], _, _ => rfl
  | [], _ :: _, h, _ => by simp at h
  | _ :: _, [], h, _ => by simp at h
  | t :: ts, q :: qs, h, hp => by
    have h0 := hp 0 (by simp)
    simp only [cntF, List.length_cons, Nat.zero_lt_succ, dif_pos, List.getElem_cons_zero, List.getD_cons_zero] at h0
    have h1 := least_some.2 h0
    obtain ⟨x, hx⟩ := Option.isSome_iff_exists.1 h1
    have ih := leasts_to rs ts qs (by simpa using h) fun i hi => by
      have := hp (i + 1) (by simpa using hi)
      simpa [cntF, hi] using this
    rw [Tr.leasts, hx, ih, List.length_cons, ltTo_cons, hx]
    rfl
theorem leasts_none (rs : List Rl) : ∀ (ts : List Tr) (args : List Int), args.length = ts.length → (∃ i, i < ts.length ∧ cntF rs ts i (args.getD i 0) = 0) → Tr.leasts rs ts args = none
  | [], _, _, ⟨i, hi, _⟩ => by simp at hi
  | _ :: _, [], h, _ => by simp at h
  | t :: ts, q :: qs, h, ⟨i, hi, hz⟩ => by
    rw [Tr.leasts]
    cases i with
    | zero =>
      simp only [cntF, List.length_cons, Nat.zero_lt_succ, dif_pos, List.getElem_cons_zero, List.getD_cons_zero] at hz
      have : Tr.least rs t q = none := by
        cases hl : Tr.least rs t q with
        | none => rfl
        | some x => have := least_some.1 (by rw [hl]; rfl : (Tr.least rs t q).isSome = true); omega
      rw [this]
    | succ i =>
      have ih := leasts_none rs ts qs (by simpa using h) ⟨i, by simpa using hi, by
        have hi' : i < ts.length := by simpa using hi
        simpa [cntF, hi'] using hz⟩
      rw [ih]
      cases Tr.least rs t q <;> rfl
theorem ltAt_len {rs : List Rl} {ts : List Tr} {args : List Int} {j : Nat} (hj : j < ts.length) : (ltAt rs ts args j).length ≤ ts[j].size := by
  unfold ltAt
  rw [dif_pos hj]
  cases h : Tr.least rs ts[j] (args.getD j 0) with
  | none => simp
  | some x => rw [Option.getD_some, least_len h]; exact Nat.le_refl _
theorem ltTo_len {rs : List Rl} {ts : List Tr} {args : List Int} : ∀ {j : Nat}, j ≤ ts.length → (ltTo rs ts args j).length ≤ Tr.sizes (ts.take j)
  | 0, _ => by simp [ltTo, Tr.sizes]
  | j + 1, hj => by
    have h1 := ltTo_len (rs := rs) (args := args) (j := j) (ts := ts) (by omega)
    have h2 := ltAt_len (rs := rs) (args := args) (ts := ts) (j := j) (by omega)
    rw [ltTo, List.length_append, Tr.sizes_take ts j (by omega)]
    omega
def bestL (rs : List Rl) (ts : List Tr) (q : Int) (L : List Rl) : Option (List Int) := (((L.filter fun r => decide (r.to = q)).filterMap fun r => Tr.leasts rs ts r.args).map fun l => l ++ [q]).foldl bestO none
theorem bestL_snoc (rs : List Rl) (ts : List Tr) (q : Int) (L : List Rl) (r : Rl) : bestL rs ts q (L ++ [r]) = if r.to = q then (match Tr.leasts rs ts r.args with | some y => bestO (bestL rs ts q L) (y ++ [q]) | none => bestL rs ts q L) else bestL rs ts q L := by
  unfold bestL
  rw [List.filter_append]
  by_cases h : r.to = q
  · rw [if_pos h]
    have e : ([r].filter fun r => decide (r.to = q)) = [r] := by simp [h]
    rw [e, List.filterMap_append, List.map_append, List.foldl_append]
    cases h2 : Tr.leasts rs ts r.args <;> simp [h2]
  · rw [if_neg h]
    have e : ([r].filter fun r => decide (r.to = q)) = [] := by simp [h]
    rw [e, List.append_nil]
theorem bestL_filter {rs : List Rl} {ts : List Tr} {q : Int} {p : Rl → Bool} : ∀ {L : List Rl}, (∀ r ∈ L, p r = false → Tr.leasts rs ts r.args = none) → ((L.filter p).filter fun r => decide (r.to = q)).filterMap (fun r => Tr.leasts rs ts r.args) = (L.filter fun r => decide (r.to = q)).filterMap fun r => Tr.leasts rs ts r.args
  | [], _ => rfl
  | r :: L, h => by
    have ih := bestL_filter (q := q) (L := L) fun x hx => h x (List.mem_cons_of_mem _ hx)
    by_cases hp : p r = true
    · rw [List.filter_cons_of_pos hp]
      by_cases hq : r.to = q
      · rw [List.filter_cons_of_pos (by simpa using hq), List.filter_cons_of_pos (by simpa using hq), List.filterMap_cons, List.filterMap_cons, ih]
      · rw [List.filter_cons_of_neg (by simpa using hq), List.filter_cons_of_neg (by simpa using hq), ih]
    · rw [List.filter_cons_of_neg hp]
      have h0 := h r List.mem_cons_self (by simpa using hp)
      by_cases hq : r.to = q
      · rw [List.filter_cons_of_pos (by simpa using hq), List.filterMap_cons, h0, ih]
      · rw [List.filter_cons_of_neg (by simpa using hq), ih]
theorem node_least {H : View} {a : Option Addr} {rs : List Rl} {ts : List Tr} {s : Int} {kv : Nat → KVs} (hch : ChAt H a ts.length (cntF rs ts) kv) (hfit : ∀ r ∈ symR rs s, r.args.length = ts.length) (q : Int) :
    bestL rs ts q ((symR rs s).filter fun r => applB kv r.args r.args.length) = Tr.least rs (.node s ts) q := by
  have h1 := bestL_filter (rs := rs) (ts := ts) (q := q) (p := fun r => applB kv r.args r.args.length) (L := symR rs s) fun r hr h => by
    have hl := hfit r hr
    refine leasts_none rs ts r.args hl ?_
    rw [hl] at h
    have hz : prodTo (cntF rs ts) r.args ts.length = 0 := by
      rcases Nat.eq_zero_or_pos (prodTo (cntF rs ts) r.args ts.length) with e | e
      · exact e
      · rw [(hch.appl r.args (Nat.le_refl _)).2 e] at h; cases h
    have key : ∀ n, prodTo (cntF rs ts) r.args n = 0 → ∃ i, i < n ∧ cntF rs ts i (r.args.getD i 0) = 0 := by
      intro n
      induction n with
      | zero => intro h; simp [prodTo] at h
      | succ n ih =>
        intro h
        rw [prodTo] at h
        rcases Nat.mul_eq_zero.1 h with h | h
        · obtain ⟨i, hi, hz⟩ := ih h
          exact ⟨i, by omega, hz⟩
        · exact ⟨n, by omega, h⟩
    exact key _ hz
  unfold bestL
  rw [h1, Tr.least]
  unfold symR
  rw [List.filter_filter]
  congr 3
  apply List.filter_congr
  intro r _
  by_cases h1 : r.sym = s <;> by_cases h2 : r.to = q <;> simp [h1, h2]
/-- The best run so far, in its cell. -/
def BestW (H : View) (w : Value) (o : Option (List Int)) : Prop := (o = none ∧ w = nilS) ∨ ∃ x a cp, o = some x ∧ w = .slice (some a) x.length cp ∧ SI H w x ∧ x.length ≤ 1048577
theorem BestW.mono {H H' : View} {w : Value} {o : Option (List Int)} (h : BestW H w o) (hle : VLe H H') : BestW H' w o := by
  rcases h with h | ⟨x, a, cp, h1, h2, h3, h4⟩
  · exact .inl h
  · exact .inr ⟨x, a, cp, h1, h2, h3.mono hle, h4⟩
theorem SI.some_of {H : View} {a : Option Addr} {k cp : Nat} {x : List Int} (h : SI H (.slice a k cp) x) (hx : x ≠ []) : ∃ b, a = some b := by
  obtain ⟨a', cp', e, h2⟩ := h.1
  cases e
  rcases h2 with ⟨h2, _⟩ | ⟨b, off, rfl, _⟩
  · exact absurd (List.eq_nil_of_length_eq_zero h2) hx
  · exact ⟨_, rfl⟩
theorem KC_many_cons {P : Program} {n : Nat} {c : Cx} {Q : Exit → Act → World → Prop} {l : KL} {hl : HL} {H : View} {code : Code} {p : HL} {e : Own} (h : KC P n c code Q l (many (e :: p) :: hl) H) : KC P n c code Q l (e :: many p :: hl) H := fun ρ w hm ho => h ρ w hm ho.many_cons
theorem SatO.joinPost {P : Program} {f : FuncId} {args : Array Value} {H : View} {p : HL} {post : Value → View → Own → HL → Prop} (h : SatO P f args H p fun v H' q => ∃ e r, q = [e, many r] ∧ post v H' e r) : SatO P f args H p fun v H' q => ∃ e r, q = [many (e :: r)] ∧ post v H' e r := by
  intro w hw
  refine Calls.mono (h w hw) ?_
  rintro e' w' ⟨v, H', q, rfl, hok, e, r, rfl, hp⟩
  exact ⟨v, H', _, rfl, hok.many_cons, e, r, rfl, hp⟩
theorem ints_append (xs ys : List Int) : ints (xs ++ ys) = ints xs ++ ints ys := by simp [ints]
theorem md_set {H : View} {rs : List Rl} {ts : List Tr} {ns : List Nd} {mz : List Md} {V : View} {j : Nat} {md : Md} (h : ∀ i (h : i < ts.length) (h2 : i < ns.length) (h3 : i < mz.length), MdOk H rs ts[i] ns[i] mz[i]) (hle : VLe H V) (hjt : j < ts.length) (hjn : j < ns.length) (hm : MdOk V rs ts[j] ns[j] md) :
    ∀ i (h : i < ts.length) (h2 : i < ns.length) (h3 : i < (mz.set j md).length), MdOk V rs ts[i] ns[i] (mz.set j md)[i] := by
  intro i h1 h2 h3
  by_cases e : j = i
  · subst e; rw [List.getElem_set_self]; exact hm
  · rw [List.getElem_set_ne e]; exact (h i h1 h2 (by simpa using h3)).mono hle
end Pal

/-
  The reference's enumeration of runs: lists of pairs, their number. Own work. No statement of the seat is proved here.
-/
namespace Pal
open Go
def pairF (p : List Int × List Int) (r : List Int) : List Int × List Int := (p.1 ++ r, p.2 ++ [lastI r])
theorem combP_snoc {ps : List (List Int × List Int)} {l : List (List Int)} {k : Nat} (hk : k < ps.length) : combP (ps.take (k + 1)) l = combP (ps.take k) l ++ l.map (pairF ps[k]) := by
  unfold combP
  rw [List.take_succ_eq_append_getElem hk, List.flatMap_append]
  simp [pairF]
theorem combP_nil (l : List (List Int)) : combP [] l = [] := rfl
def foldP (rs : List Rl) (ts : List Tr) (i : Nat) : List (List Int × List Int) := (ts.take i).foldl (fun ps t => combP ps (t.ways rs)) [([], [])]
theorem foldP_pairs (rs : List Rl) (ts : List Tr) (i : Nat) : foldP rs ts i = Tr.pairs rs (ts.take i) := Tr.pairs_left rs (ts.take i)
theorem foldP_succ {rs : List Rl} {ts : List Tr} {i : Nat} (hi : i < ts.length) : foldP rs ts (i + 1) = combP (foldP rs ts i) (ts[i].ways rs) := by
  unfold foldP
  rw [List.take_succ_eq_append_getElem hi, List.foldl_append]
  rfl
theorem flatMap_bound {α β : Type} {f : α → List β} {B : Nat} : ∀ {l : List α}, (∀ x ∈ l, (f x).length ≤ B) → (l.flatMap f).length ≤ l.length * B
  | [], _ => by simp
  | x :: l, h => by
    have ih := flatMap_bound (f := f) (B := B) (l := l) fun y hy => h y (List.mem_cons_of_mem _ hy)
    have h0 := h x List.mem_cons_self
    simp only [List.flatMap_cons, List.length_append, List.length_cons, Nat.succ_mul]
    omega
mutual
theorem Tr.ways_count (rs : List Rl) : ∀ t : Tr, (t.ways rs).length ≤ rs.length ^ t.size
  | .node s ts => by
    rw [Tr.ways, Tr.size, Nat.add_comm, Nat.pow_succ]
    refine Nat.le_trans (flatMap_bound (B := rs.length) fun p _ => ?_) (Nat.mul_le_mul_right _ (Tr.pairs_count rs ts))
    rw [List.length_map]
    exact List.length_filter_le _ _
theorem Tr.pairs_count (rs : List Rl) : ∀ ts : List Tr, (Tr.pairs rs ts).length ≤ rs.length ^ Tr.sizes ts
  | [] => by simp [Tr.pairs, Tr.sizes]
  | t :: ts => by
    rw [Tr.pairs, Tr.sizes, Nat.pow_add]
    refine Nat.le_trans (flatMap_bound (B := rs.length ^ Tr.sizes ts) fun r _ => ?_) (Nat.mul_le_mul_right _ (Tr.ways_count rs t))
    rw [List.length_map]
    exact Tr.pairs_count rs ts
end
theorem pow14 {n k : Nat} (hn : n ≤ 14) (hk : k ≤ 7) : n ^ k ≤ 105413504 := by
  have h1 : n ^ k ≤ 14 ^ k := Nat.pow_le_pow_left hn k
  have h2 : 14 ^ k ≤ 14 ^ 7 := Nat.pow_le_pow_right (by decide) hk
  exact Nat.le_trans h1 h2
theorem ways_small {rs : List Rl} {t : Tr} (hn : rs.length ≤ 14) (ht : t.size ≤ 7) : (t.ways rs).length ≤ 105413504 := Nat.le_trans (Tr.ways_count rs t) (pow14 hn ht)
theorem foldP_small {rs : List Rl} {ts : List Tr} (hn : rs.length ≤ 14) (ht : Tr.sizes ts ≤ 7) (i : Nat) : (foldP rs ts i).length ≤ 105413504 := by
  rw [foldP_pairs]
  exact Nat.le_trans (Tr.pairs_count rs _) (pow14 hn (Nat.le_trans (Tr.sizes_take_le ts i) ht))
theorem foldP_item {rs : List Rl} {ts : List Tr} {i : Nat} {p : List Int × List Int} (h : p ∈ foldP rs ts i) : p.1.length ≤ Tr.sizes ts ∧ p.2.length ≤ ts.length := by
  rw [foldP_pairs] at h
  obtain ⟨h1, h2⟩ := Tr.pairs_len rs _ p h
  exact ⟨by rw [h1]; exact Tr.sizes_take_le ts i, by rw [h2, List.length_take]; omega⟩
theorem combP_le {ps : List (List Int × List Int)} {l : List (List Int)} {k : Nat} : (combP (ps.take k) l).length ≤ (combP ps l).length := by
  have h := List.take_append_drop k ps
  unfold combP
  conv => rhs; rw [← h]
  rw [List.flatMap_append, List.length_append]
  omega
def outF (rs : List Rl) (s : Int) (p : List Int × List Int) : List (List Int) := (rs.filter fun r => decide (r.sym = s ∧ r.args = p.2)).map fun r => p.1 ++ [r.to]
theorem outF_snoc {rs : List Rl} {s : Int} {p : List Int × List Int} {i : Nat} (hi : i < rs.length) : outF (rs.take (i + 1)) s p = outF (rs.take i) s p ++ if rs[i].sym = s ∧ rs[i].args = p.2 then [p.1 ++ [rs[i].to]] else [] := by
  unfold outF
  rw [List.take_succ_eq_append_getElem hi, List.filter_append, List.map_append]
  by_cases h : rs[i].sym = s ∧ rs[i].args = p.2 <;> simp [h]
theorem outF_len (rs : List Rl) (s : Int) (p : List Int × List Int) : (outF rs s p).length ≤ rs.length := by
  unfold outF; rw [List.length_map]; exact List.length_filter_le _ _
def outK (rs : List Rl) (s : Int) (ps : List (List Int × List Int)) (k : Nat) : List (List Int) := (ps.take k).flatMap (outF rs s)
theorem outK_succ {rs : List Rl} {s : Int} {ps : List (List Int × List Int)} {k : Nat} (hk : k < ps.length) : outK rs s ps (k + 1) = outK rs s ps k ++ outF rs s ps[k] := by
  unfold outK
  rw [List.take_succ_eq_append_getElem hk, List.flatMap_append]
  simp
theorem outK_le {rs : List Rl} {s : Int} {ps : List (List Int × List Int)} {k : Nat} : (outK rs s ps k).length ≤ ps.length * rs.length := by
  unfold outK
  refine Nat.le_trans (flatMap_bound (B := rs.length) fun p _ => outF_len rs s p) (Nat.mul_le_mul_right _ ?_)
  rw [List.length_take]; omega
theorem lastI_at {r : List Int} (h : 0 < r.length) : lastI r = r[r.length - 1] := by
  unfold lastI
  rw [List.getLast?_eq_getElem?, List.getElem?_eq_getElem (by omega)]
  rfl
theorem RepL.snocR {H H' : View} {xss : List (List Int)} {x : List Int} {cells : List Value} {w : Value} (h : RepL (RSI H) 1 xss cells) (hle : VLe H H') (hx : SI H' w x) : RepL (RSI H') 1 (xss ++ [x]) (cells ++ [w]) :=
  (h.impSI hle).snoc ⟨w, rfl, hx⟩ rfl
/-! ### Least and number of accepted runs -/
def bestF (rs : List Rl) (t : Tr) (F : List Int) : Option (List Int) := F.foldl (fun o q => match Tr.least rs t q with | some x => bestO o x | none => o) none
theorem bestF_snoc {rs : List Rl} {t : Tr} {F : List Int} {k : Nat} (hk : k < F.length) : bestF rs t (F.take (k + 1)) = match Tr.least rs t F[k] with | some x => bestO (bestF rs t (F.take k)) x | none => bestF rs t (F.take k) := by
  unfold bestF
  rw [List.take_succ_eq_append_getElem hk, List.foldl_append]
  rfl
def accR (rs : List Rl) (t : Tr) (F : List Int) : List (List Int) := (t.ways rs).filter fun r => decide (lastI r ∈ F)
theorem bestF_least (rs : List Rl) (t : Tr) : ∀ F : List Int, LeastO (bestF rs t F) (accR rs t F) := by
  have key : ∀ (F G : List Int) (o : Option (List Int)), LeastO o (accR rs t G) → LeastO (F.foldl (fun o q => match Tr.least rs t q with | some x => bestO o x | none => o) o) (accR rs t (G ++ F)) := by
    intro F
    induction F with
    | nil => intro G o h; simpa using h
    | cons q F ih =>
      intro G o h
      have hq := Tr.least_ways rs t q
      have hmem : ∀ x, x ∈ accR rs t (G ++ [q]) ↔ x ∈ accR rs t G ∨ x ∈ (t.ways rs).filter fun r => decide (lastI r = q) := by
        intro x
        simp only [accR, List.mem_filter, List.mem_append, List.mem_singleton, decide_eq_true_eq]
        constructor
        · rintro ⟨h1, h2 | h2⟩
          · exact .inl ⟨h1, h2⟩
          · exact .inr ⟨h1, h2⟩
        · rintro (⟨h1, h2⟩ | ⟨h1, h2⟩)
          · exact ⟨h1, .inl h2⟩
          · exact ⟨h1, .inr h2⟩
      have hstep : LeastO (match Tr.least rs t q with | some x => bestO o x | none => o) (accR rs t (G ++ [q])) := by
        rcases hq with ⟨hq1, hq2⟩ | ⟨m, hq1, hq2⟩
        · rw [hq2]
          refine h.congr fun x => ?_
          rw [hmem x, hq1]; simp
        · rw [hq1]
          rcases h with ⟨h1, rfl⟩ | ⟨b, rfl, h2⟩
          · refine .inr ⟨m, rfl, (hmem m).2 (.inr hq2.1), fun x hx => ?_⟩
            rcases (hmem x).1 hx with h | h
            · rw [h1] at h; cases h
            · exact hq2.2 x h
          · simp only [bestO]
            by_cases hlt : cmpL m b < 0
            · rw [if_pos hlt]
              refine .inr ⟨m, rfl, (hmem m).2 (.inr hq2.1), fun x hx => ?_⟩
              rcases (hmem x).1 hx with h | h
              · exact cmpL_le_trans (by omega) (h2.2 x h)
              · exact hq2.2 x h
            · rw [if_neg hlt]
              refine .inr ⟨b, rfl, (hmem b).2 (.inl h2.1), fun x hx => ?_⟩
              rcases (hmem x).1 hx with h | h
              · exact h2.2 x h
              · have := cmpL_swap m b
                exact cmpL_le_trans (by omega) (hq2.2 x h)
      have := ih (G ++ [q]) _ hstep
      simpa using this
  intro F
  have := key F [] none (.inl ⟨by simp [accR], rfl⟩)
  simpa [bestF] using this
theorem bestF_eq (rs : List Rl) (t : Tr) (F : List Int) : bestF rs t F = (accR rs t F).foldl bestO none := (bestF_least rs t F).uniq LeastO.of_best
theorem cnt_acc (rs : List Rl) (t : Tr) (F : List Int) : ((sortI F).map fun q => t.cnt rs q).sum = (accR rs t F).length := by
  have h := count_states (l := t.ways rs) (sortI_nodup F)
  have e : ((sortI F).map fun q => t.cnt rs q) = (sortI F).map fun s => (t.ways rs).countP fun r => decide (lastI r = s) := List.map_congr_left fun q _ => (Tr.cnt_ways rs t q).symm
  rw [e, h, List.countP_eq_length_filter]
  unfold accR
  congr 1
  apply List.filter_congr
  intro r _
  exact decide_eq_decide.2 sortI_mem
theorem accR_pos (rs : List Rl) (t : Tr) (F : List Int) : (0 < (accR rs t F).length) ↔ F.any (fun q => decide (0 < t.cnt rs q)) = true := by
  rw [List.length_pos_iff_exists_mem, List.any_eq_true]
  constructor
  · rintro ⟨r, hr⟩
    have h := List.mem_filter.1 hr
    refine ⟨lastI r, of_decide_eq_true h.2, decide_eq_true ?_⟩
    rw [← Tr.cnt_ways, List.countP_pos_iff]
    exact ⟨r, h.1, decide_eq_true rfl⟩
  · rintro ⟨q, hq, hc⟩
    have hc := of_decide_eq_true hc
    rw [← Tr.cnt_ways, List.countP_pos_iff] at hc
    obtain ⟨r, hr, h⟩ := hc
    have h := of_decide_eq_true h
    exact ⟨r, List.mem_filter.2 ⟨hr, decide_eq_true (by rw [h]; exact hq)⟩⟩
section
variable {P : Program} {l : KL} {hl : HL} {H : View} {ty : TypeId}
theorem R_sliceNotNil {t e yt : TypeId} {x y : Operand} {a : Option Addr} {k cap : Nat} (hS : slcOk P t e) (hx : ev l x = some (.slice a k cap)) (hy : ev l y = some (.slice none 0 0)) : ValOk P l H hl (.binOp .neq t x y yt) ty (.bool a.isSome) := by
  intro e w hk _
  have hS' : P.underlying t = some (.slice _) := hS
  have key : ∀ d, (Op.equalIn (d + 1) t (.slice a k cap) (.slice none 0 0)).run P w = .ok a.isNone w := by
    intro d
    cases a <;> simp [Op.equalIn, run_underlying hS']
  have hg : (eqGuard .neq t x y (.slice a k cap) (.slice none 0 0)).run P w = .ok () w := by
    unfold eqGuard; simp
  simp only [ex, execOp, hk x _ hx, hk y _ hy, Sem.run_bind, hg, Result.andThen_ok, binOp]
  cases a <;> simp [Op.equal, Op.maxDepth, key 9999]
end
theorem acc_len {ps : List (List Int × List Int)} {l : List (List Int)} {k j : Nat} (hk : k < ps.length) : (combP (ps.take k) l ++ (l.take j).map (pairF ps[k])).length ≤ (combP ps l).length := by
  have h1 := combP_le (ps := ps) (l := l) (k := k + 1)
  rw [combP_snoc hk] at h1
  rw [List.length_append, List.length_map] at h1 ⊢
  have : (l.take j).length ≤ l.length := by rw [List.length_take]; omega
  omega
theorem acc_snoc {ps : List (List Int × List Int)} {l : List (List Int)} {k j : Nat} (hk : k < ps.length) (hj : j < l.length) : combP (ps.take k) l ++ (l.take (j + 1)).map (pairF ps[k]) = (combP (ps.take k) l ++ (l.take j).map (pairF ps[k])) ++ [pairF ps[k] l[j]] := by
  rw [List.take_succ_eq_append_getElem hj, List.map_append, List.append_assoc]; rfl
theorem ways_out (rs : List Rl) (s : Int) (ts : List Tr) : Tr.ways rs (.node s ts) = outK rs s (foldP rs ts ts.length) (foldP rs ts ts.length).length := by
  unfold outK
  rw [List.take_length, foldP_pairs, List.take_length, Tr.ways]
  rfl
theorem ssi_get1 {H : View} {a : Option Addr} {k cap : Nat} {ps : List (List Int × List Int)} (f : List Int × List Int → List Int) (h : SSI H (.slice a k cap) (ps.map f)) {i : Nat} (hi : i < ps.length) : ∃ b off xa xcp, a = some ⟨b, off, none⟩ ∧ At H b (off + i * 1) [.slice xa (f ps[i]).length xcp] ∧ SI H (.slice xa (f ps[i]).length xcp) (f ps[i]) := by
  have := h.get (i := i) (by simpa using hi)
  simpa using this
theorem acc_len_snoc {ps : List (List Int × List Int)} {l : List (List Int)} {k j : Nat} (hk : k < ps.length) (hj : j < l.length) : (combP (ps.take k) l ++ (l.take (j + 1)).map (pairF ps[k])).length = (combP (ps.take k) l ++ (l.take j).map (pairF ps[k])).length + 1 :=
  (congrArg List.length (acc_snoc hk hj)).trans List.length_append
theorem Sat.nil {P : Program} {f : FuncId} {args : Array Value} {H : View} {post : Value → View → Prop} (h : Sat P f args H post) : SatO P f args H [] (fun v H' q => q = [] ∧ post v H') := by
  intro w hw
  refine Calls.mono (h w hw) ?_
  rintro e w' ⟨v, H', q, rfl, hok, hp⟩
  exact ⟨v, H', [], rfl, hok.sublist (List.nil_sublist _), rfl, hp⟩
/-- A call that reads something owned. -/
theorem Sat.lend {P : Program} {f : FuncId} {args : Array Value} {H : View} (en : Own) {post : Value → Prop} (h : ∀ H2, VLe H H2 → en.holds H2 → Sat P f args H2 (fun v _ => post v)) : SatO P f args H [en] (fun v H' q => H' = H ∧ q = [en] ∧ post v) := by
  have h2 := SatO.lend (P := P) (f := f) (args := args) (H := H) (hl := []) [en] (post := fun v q => q = [] ∧ post v) (fun H2 hle hh => (h H2 hle (hh en List.mem_cons_self)).nil)
  refine SatO.mono' h2 ?_
  rintro v H' q ⟨rfl, q', rfl, rfl, hp⟩
  exact ⟨rfl, rfl, hp⟩
def outR (s : Nat) (p : Nat → Bool) (fl : Bool) : List Int := subL s p ++ if fl = true then [(s : Int)] else []
theorem outR_mem {s : Nat} {p : Nat → Bool} {fl : Bool} : (s : Int) ∈ outR s p fl ↔ fl = true := by
  unfold outR
  rw [List.mem_append, mem_subL]
  cases fl <;> simp
theorem subL_rise (m : Nat) (p : Nat → Bool) : (subL m p).Pairwise (· < ·) := by
  unfold subL
  rw [List.pairwise_map]
  exact (List.pairwise_lt_range.filter _).imp fun {a b} h => by omega
theorem subL_step (s : Nat) (p : Nat → Bool) : subL (s + 1) p = outR s p (p s) := by
  unfold outR
  cases h : p s with
  | true => rw [subL_yes h, if_pos rfl]
  | false => rw [subL_no h]; simp
def hasEnd (W : List (List Int)) (q : Nat) : Bool := W.any fun r => decide (lastI r = (q : Int))
theorem hasEnd_snoc {W : List (List Int)} {i : Nat} (hi : i < W.length) (q : Nat) : hasEnd (W.take (i + 1)) q = (hasEnd (W.take i) q || decide (lastI W[i] = (q : Int))) := by
  unfold hasEnd
  rw [List.take_succ_eq_append_getElem hi, List.any_append]
  simp
theorem ways_to {a : Au} (ha : AuOk a) {t : Tr} {r : List Int} (h : r ∈ t.ways (sortO a.rules)) : 0 ≤ lastI r ∧ lastI r < a.states := by
  cases t with
  | node s ts =>
    rw [Tr.ways, List.mem_flatMap] at h
    obtain ⟨p, _, hr⟩ := h
    obtain ⟨x, hx, rfl⟩ := List.mem_map.1 hr
    rw [lastI_snoc]
    exact (ha.ru x (sortO_mem.1 (List.mem_filter.1 hx).1)).2.2.2.2
theorem reach_is {a : Au} (ha : AuOk a) (t : Tr) : IsReach (sortO a.rules) t (subL a.states.toNat (hasEnd (t.ways (sortO a.rules)))) := by
  refine ⟨subL_rise _ _, fun q => ?_⟩
  have hany : 0 < t.cnt (sortO a.rules) q ↔ ∃ r ∈ t.ways (sortO a.rules), lastI r = q := by
    rw [← Tr.cnt_ways, List.countP_pos_iff]
    simp
  rw [hany]
  constructor
  · intro h
    simp only [subL, List.mem_map, List.mem_filter, List.mem_range] at h
    obtain ⟨s, ⟨_, h2⟩, rfl⟩ := h
    unfold hasEnd at h2
    rw [List.any_eq_true] at h2
    obtain ⟨r, hr, e⟩ := h2
    exact ⟨r, hr, of_decide_eq_true e⟩
  · rintro ⟨r, hr, rfl⟩
    obtain ⟨h1, h2⟩ := ways_to ha hr
    have e : lastI r = ((lastI r).toNat : Int) := by omega
    rw [e, mem_subL]
    refine ⟨by omega, ?_⟩
    unfold hasEnd
    rw [List.any_eq_true]
    exact ⟨r, hr, decide_eq_true e⟩
theorem IsReach.uniq {rs : List Rl} {t : Tr} {L L' : List Int} (h : IsReach rs t L) (h' : IsReach rs t L') : L = L' :=
  rise_uniq (fun x => by omega) (fun x y z => by omega) h.1 h'.1 fun q => (h.2 q).trans (h'.2 q).symm
theorem accR_snoc {W : List (List Int)} {F : List Int} {k : Nat} (hk : k < W.length) : (W.take (k + 1)).filter (fun r => decide (lastI r ∈ F)) = (W.take k).filter (fun r => decide (lastI r ∈ F)) ++ if lastI W[k] ∈ F then [W[k]] else [] := by
  rw [List.take_succ_eq_append_getElem hk, List.filter_append]
  by_cases h : lastI W[k] ∈ F <;> simp [h]
theorem best_snoc {l : List (List Int)} {k : Nat} (hk : k < l.length) : (l.take (k + 1)).foldl bestO none = bestO ((l.take k).foldl bestO none) l[k] := by
  rw [List.take_succ_eq_append_getElem hk, List.foldl_append]; rfl
end Pal
