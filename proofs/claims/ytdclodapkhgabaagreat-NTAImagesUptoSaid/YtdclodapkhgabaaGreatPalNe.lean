/-
  A tree's nodes with the number of runs for each state; the rules that apply. Own work. No statement of the seat is proved here.
-/
import Derived.Test.YtdclodapkhgabaaGreatPalMl
namespace Pal
open Go
inductive Nd where
  | mk (b lm : Nat) (l : List Nd)
def Nd.b : Nd → Nat | .mk b _ _ => b
def Nd.lm : Nd → Nat | .mk _ m _ => m
def Nd.l : Nd → List Nd | .mk _ _ l => l
mutual
/-- The maps of least runs, one for each node. -/
def Nd.maps (σ : Nat → KVs) : Nd → HL
  | .mk _ lm l => blk lm (mapOb (σ lm)) :: Nd.mapss σ l
def Nd.mapss (σ : Nat → KVs) : List Nd → HL
  | [] => []
  | n :: r => Nd.maps σ n ++ Nd.mapss σ r
end
theorem Nd.mapss_append (σ : Nat → KVs) : ∀ a b : List Nd, Nd.mapss σ (a ++ b) = Nd.mapss σ a ++ Nd.mapss σ b
  | [], b => rfl
  | n :: r, b => by simp only [List.cons_append, Nd.mapss, Nd.mapss_append σ r b, List.append_assoc]
def NatAt (H : View) (v : Value) (n : Nat) : Prop := ∃ xa k cp, v = .agg #[.slice xa k cp] ∧ RepN H (.slice xa k cp) n
theorem NatAt.mono {H H' : View} {v : Value} {n : Nat} (h : NatAt H v n) (hle : VLe H H') : NatAt H' v n := by
  obtain ⟨xa, k, cp, h1, h2⟩ := h
  exact ⟨xa, k, cp, h1, h2.mono hle⟩
def natZ : Value := .agg #[.slice none 0 0]
def RunP (H : View) (f : Int → Nat) (kvs : KVs) : Prop := (kvs.map (·.1)).Nodup ∧ ∀ q, (lookI kvs q = none → f q = 0) ∧ ∀ v, lookI kvs q = some v → 0 < f q ∧ NatAt H v (f q)
theorem RunP.mono {H H' : View} {f : Int → Nat} {kvs : KVs} (h : RunP H f kvs) (hle : VLe H H') : RunP H' f kvs := ⟨h.1, fun q => ⟨(h.2 q).1, fun v hv => ⟨((h.2 q).2 v hv).1, ((h.2 q).2 v hv).2.mono hle⟩⟩⟩
theorem RunP.nil (H : View) : RunP H (fun _ => 0) [] := ⟨by simp, fun q => ⟨fun _ => rfl, fun v hv => by simp [lookI, findI] at hv⟩⟩
theorem RunP.val {H : View} {f : Int → Nat} {kvs : KVs} (h : RunP H f kvs) (q : Int) : NatAt H ((lookI kvs q).getD natZ) (f q) := by
  cases hl : lookI kvs q with
  | none => exact ⟨none, 0, 0, rfl, by rw [(h.2 q).1 hl]; exact RepN.zero H⟩
  | some v => exact ((h.2 q).2 v hl).2
theorem RunP.isSome {H : View} {f : Int → Nat} {kvs : KVs} (h : RunP H f kvs) (q : Int) : (lookI kvs q).isSome = true ↔ 0 < f q := by
  cases hl : lookI kvs q with
  | none => have := (h.2 q).1 hl; simp; omega
  | some v => have := ((h.2 q).2 v hl).1; simp; omega
theorem RunP.set {H H' : View} {f : Int → Nat} {kvs : KVs} (h : RunP H f kvs) (hle : VLe H H') {q : Int} {n : Nat} {v : Value} (hn : 0 < n) (hv : NatAt H' v (f q + n)) : RunP H' (fun x => f x + if q = x then n else 0) (setI kvs q v) := by
  refine ⟨setI_keys q v h.1, fun x => ?_⟩
  rw [lookI_setI h.1]
  by_cases e : x = q
  · subst e
    dsimp only
    rw [if_pos rfl, if_pos rfl]
    exact ⟨fun h => (by cases h), fun u hu => by cases hu; exact ⟨by omega, hv⟩⟩
  · dsimp only
    rw [if_neg e, if_neg (fun (h : q = x) => e h.symm)]
    exact ⟨fun h1 => by have := (h.2 x).1 h1; omega, fun u hu => ⟨by have := ((h.2 x).2 u hu).1; omega, by simpa using ((h.2 x).2 u hu).2.mono hle⟩⟩
inductive RepNd (tn : TypeId) (H : View) (rs : List Rl) : Tr → Nd → Prop
  | mk (s : Int) (ts : List Tr) (b lm rb : Nat) (ns : List Nd) (a : Option Addr) (cap : Nat) (kvs : KVs) (hb : H b = some (.cells #[.slice a ts.length cap, .int .i64 s, mp rb, mp lm] tn (0, 0))) (hl : ns.length = ts.length)
    (hc : SlAt H (.slice a ts.length cap) ts.length (ns.map fun n => ptr n.b)) (hr : H rb = some (mapOb kvs)) (hq : RunP H (Tr.cnt rs (.node s ts)) kvs)
    (hch : ∀ i (h : i < ts.length) (h2 : i < ns.length), RepNd tn H rs ts[i] ns[i]) : RepNd tn H rs (.node s ts) (.mk b lm ns)
theorem RepNd.mono {tn : TypeId} {H H' : View} {rs : List Rl} {t : Tr} {nd : Nd} (h : RepNd tn H rs t nd) (hle : VLe H H') : RepNd tn H' rs t nd := by
  induction h with
  | mk s ts b lm rb ns a cap kvs hb hl hc hr hq hch ih => exact .mk s ts b lm rb ns a cap kvs (hle _ _ hb) hl (hc.mono hle) (hle _ _ hr) (hq.mono hle) ih
def cntF (rs : List Rl) (ts : List Tr) (i : Nat) (q : Int) : Nat := if h : i < ts.length then Tr.cnt rs ts[i] q else 0
/-- What is known of a node's operands. -/
def ChAt (H : View) (a : Option Addr) (n : Nat) (f : Nat → Int → Nat) (kv : Nat → KVs) : Prop :=
  ∀ i, i < n → ∃ b off cb lv sv mv rb, a = some ⟨b, off, none⟩ ∧ At H b (off + i * 1) [ptr cb] ∧ At H cb 0 [lv, sv, mp rb, mv] ∧ H rb = some (mapOb (kv i)) ∧ RunP H (f i) (kv i)
theorem ChAt.mono {H H' : View} {a : Option Addr} {n : Nat} {f : Nat → Int → Nat} {kv : Nat → KVs} (h : ChAt H a n f kv) (hle : VLe H H') : ChAt H' a n f kv := by
  intro i hi
  obtain ⟨b, off, cb, lv, sv, mv, rb, h1, h2, h3, h4, h5⟩ := h i hi
  exact ⟨b, off, cb, lv, sv, mv, rb, h1, h2.mono hle, h3.mono hle, hle _ _ h4, h5.mono hle⟩
/-- The nodes of a list of trees, in a slice. -/
theorem chAt_of {tn : TypeId} {H : View} {rs : List Rl} {ts : List Tr} {ns : List Nd} {a : Option Addr} {cap : Nat} (hl : ns.length = ts.length) (hc : SlAt H (.slice a ts.length cap) ts.length (ns.map fun n => ptr n.b))
    (hch : ∀ i (h : i < ts.length) (h2 : i < ns.length), RepNd tn H rs ts[i] ns[i]) : ∃ kv, ChAt H a ts.length (cntF rs ts) kv := by
  have key : ∀ i, ∃ k : KVs, i < ts.length → ∃ b off cb lv sv mv rb, a = some ⟨b, off, none⟩ ∧ At H b (off + i * 1) [ptr cb] ∧ At H cb 0 [lv, sv, mp rb, mv] ∧ H rb = some (mapOb k) ∧ RunP H (cntF rs ts i) k := by
    intro i
    by_cases hi : i < ts.length
    · have h2 : i < ns.length := by omega
      have hr := hch i hi h2
      obtain ⟨a', cap', e, h3⟩ := hc
      cases e
      rcases h3 with ⟨h3, _⟩ | ⟨b, off, rfl, hA⟩
      · omega
      · generalize ht : ts[i] = t at hr
        generalize hn : ns[i] = nd at hr
        cases hr with
        | mk s us cb lm rb ms a2 cap2 kvs hb hl2 hc2 hr2 hq2 hch2 =>
          refine ⟨kvs, fun _ => ⟨b, off, cb, _, _, _, rb, rfl, ?_, At.of hb, hr2, ?_⟩⟩
          · refine hA.sub (p := i * 1) fun j v hj => ?_
            cases j with
            | zero =>
              simp at hj
              subst hj
              simp [h2, hn, Nd.b]
            | succ j => simp at hj
          · have : cntF rs ts i = Tr.cnt rs (.node s us) := by
              funext q
              simp [cntF, hi, ht]
            rw [this]; exact hq2
    · exact ⟨[], fun h => absurd h hi⟩
  exact ⟨fun i => (key i).choose, fun i hi => (key i).choose_spec hi⟩
/-! ### Products and sums -/
def prodTo (f : Nat → Int → Nat) (args : List Int) : Nat → Nat
  | 0 => 1
  | j + 1 => prodTo f args j * f j (args.getD j 0)
theorem prodTo_cons (f : Nat → Int → Nat) (q : Int) (qs : List Int) : ∀ n, prodTo f (q :: qs) (n + 1) = f 0 q * prodTo (fun i => f (i + 1)) qs n
  | 0 => by simp [prodTo]
  | n + 1 => by
    rw [prodTo, prodTo_cons f q qs n, prodTo]
    simp [Nat.mul_assoc]
theorem prodTo_congr {f g : Nat → Int → Nat} {args : List Int} : ∀ {n : Nat}, (∀ i, i < n → f i = g i) → prodTo f args n = prodTo g args n
  | 0, _ => rfl
  | n + 1, h => by simp only [prodTo]; rw [prodTo_congr (n := n) fun i hi => h i (by omega), h n (by omega)]
theorem cnts_prod (rs : List Rl) : ∀ (ts : List Tr) (args : List Int), args.length = ts.length → Tr.cnts rs ts args = prodTo (cntF rs ts) args ts.length
  | [], [], _ => rfl
  | [], _ :: _, h => by simp at h
  | _ :: _, [], h => by simp at h
  | t :: ts, q :: qs, h => by
    rw [Tr.cnts, cnts_prod rs ts qs (by simpa using h), List.length_cons, prodTo_cons]
    congr 1
    refine prodTo_congr fun i hi => ?_
    funext x
    simp [cntF]
def applB (kv : Nat → KVs) (args : List Int) : Nat → Bool
  | 0 => true
  | j + 1 => applB kv args j && (lookI (kv j) (args.getD j 0)).isSome
theorem applB_false {kv : Nat → KVs} {args : List Int} {j n : Nat} (h : applB kv args j = false) (hj : j ≤ n) : applB kv args n = false := by
  induction n with
  | zero => have : j = 0 := by omega
            subst this; exact h
  | succ n ih =>
    by_cases e : j = n + 1
    · subst e; exact h
    · rw [applB, ih (by omega)]; rfl
theorem applB_at {kv : Nat → KVs} {args : List Int} {n : Nat} (h : applB kv args n = true) {i : Nat} (hi : i < n) : (lookI (kv i) (args.getD i 0)).isSome = true := by
  induction n with
  | zero => omega
  | succ n ih =>
    rw [applB, Bool.and_eq_true] at h
    by_cases e : i = n
    · subst e; exact h.2
    · exact ih h.1 (by omega)
theorem ChAt.runP {H : View} {a : Option Addr} {n : Nat} {f : Nat → Int → Nat} {kv : Nat → KVs} (h : ChAt H a n f kv) {i : Nat} (hi : i < n) : RunP H (f i) (kv i) := by
  obtain ⟨b, off, cb, lv, sv, mv, rb, h1, h2, h3, h4, h5⟩ := h i hi
  exact h5
theorem ChAt.appl {H : View} {a : Option Addr} {n : Nat} {f : Nat → Int → Nat} {kv : Nat → KVs} (h : ChAt H a n f kv) (args : List Int) : ∀ {j : Nat}, j ≤ n → (applB kv args j = true ↔ 0 < prodTo f args j)
  | 0, _ => by simp [applB, prodTo]
  | j + 1, hj => by
    rw [applB, Bool.and_eq_true, h.appl args (j := j) (by omega), (h.runP (show j < n by omega)).isSome, prodTo]
    exact ⟨fun ⟨h1, h2⟩ => Nat.mul_pos h1 h2, fun hp => ⟨Nat.pos_of_mul_pos_right hp, Nat.pos_of_mul_pos_left hp⟩⟩
def sumTo (F : Rl → Nat) (L : List Rl) (q : Int) : Nat := ((L.filter fun r => decide (r.to = q)).map F).sum
theorem sumTo_snoc (F : Rl → Nat) (L : List Rl) (r : Rl) (q : Int) : sumTo F (L ++ [r]) q = sumTo F L q + if r.to = q then F r else 0 := by
  unfold sumTo
  rw [List.filter_append, List.map_append, List.sum_append]
  by_cases h : r.to = q <;> simp [h]
theorem sumTo_filter {F : Rl → Nat} {p : Rl → Bool} : ∀ {L : List Rl} {q : Int}, (∀ r ∈ L, p r = false → F r = 0) → sumTo F (L.filter p) q = sumTo F L q
  | [], _, _ => rfl
  | r :: L, q, h => by
    have ih := sumTo_filter (L := L) (q := q) fun x hx => h x (List.mem_cons_of_mem _ hx)
    unfold sumTo at *
    rw [List.filter_filter] at ih
    by_cases hp : p r = true
    · rw [List.filter_cons_of_pos hp]
      by_cases hq : r.to = q
      · simp [hq, ih]
      · simp [hq, ih]
    · rw [List.filter_cons_of_neg hp]
      have h0 := h r List.mem_cons_self (by simpa using hp)
      by_cases hq : r.to = q
      · simp [hq, ih, h0]
      · simp [hq, ih]
theorem sumTo_le {F : Rl → Nat} {L L' : List Rl} {q : Int} (h : L <+: L') : sumTo F L q ≤ sumTo F L' q := by
  obtain ⟨r, rfl⟩ := h
  unfold sumTo
  rw [List.filter_append, List.map_append, List.sum_append]
  omega
theorem cnt_sum (rs : List Rl) (s : Int) (ts : List Tr) (q : Int) : Tr.cnt rs (.node s ts) q = sumTo (fun r => Tr.cnts rs ts r.args) (symR rs s) q := by
  rw [Tr.cnt]
  unfold sumTo symR
  rw [List.filter_filter]
  congr 2
  apply List.filter_congr
  intro r _
  by_cases h1 : r.sym = s <;> by_cases h2 : r.to = q <;> simp [h1, h2]
mutual
def Tr.fits (rs : List Rl) : Tr → Prop
  | .node s ts => (∀ r ∈ rs, r.sym = s → r.args.length = ts.length) ∧ Tr.fitss rs ts
def Tr.fitss (rs : List Rl) : List Tr → Prop
  | [] => True
  | t :: ts => Tr.fits rs t ∧ Tr.fitss rs ts
end
theorem Tr.fitss_get {rs : List Rl} : ∀ {ts : List Tr}, Tr.fitss rs ts → ∀ i (h : i < ts.length), Tr.fits rs ts[i]
  | [], _, i, h => by simp at h
  | t :: ts, hf, 0, _ => hf.1
  | t :: ts, hf, i + 1, h => Tr.fitss_get hf.2 i (by simpa using h)
/-! ### Bounds -/
theorem sum_bound {α : Type} {F : α → Nat} {B : Nat} : ∀ {l : List α}, (∀ x ∈ l, F x ≤ B) → (l.map F).sum ≤ l.length * B
  | [], _ => by simp
  | x :: l, h => by
    have ih := sum_bound (F := F) (B := B) (l := l) fun y hy => h y (List.mem_cons_of_mem _ hy)
    have h0 := h x List.mem_cons_self
    simp only [List.map_cons, List.sum_cons, List.length_cons, Nat.succ_mul]
    omega
mutual
theorem Tr.cnt_le (rs : List Rl) : ∀ (t : Tr) (q : Int), t.cnt rs q ≤ rs.length ^ t.size
  | .node s ts, q => by
    rw [Tr.cnt, Tr.size, Nat.add_comm, Nat.pow_succ, Nat.mul_comm]
    refine Nat.le_trans (sum_bound fun r _ => Tr.cnts_le rs ts r.args) ?_
    exact Nat.mul_le_mul_right _ (List.length_filter_le _ _)
theorem Tr.cnts_le (rs : List Rl) : ∀ (ts : List Tr) (qs : List Int), Tr.cnts rs ts qs ≤ rs.length ^ Tr.sizes ts
  | [], [] => by simp [Tr.cnts, Tr.sizes]
  | [], _ :: _ => by simp [Tr.cnts]
  | _ :: _, [] => by simp [Tr.cnts]
  | t :: ts, q :: qs => by
    rw [Tr.cnts, Tr.sizes, Nat.pow_add]
    exact Nat.mul_le_mul (Tr.cnt_le rs t q) (Tr.cnts_le rs ts qs)
end
theorem prodTo_le (rs : List Rl) (ts : List Tr) (args : List Int) : ∀ {j : Nat}, j ≤ ts.length → prodTo (cntF rs ts) args j ≤ rs.length ^ Tr.sizes (ts.take j)
  | 0, _ => by simp [prodTo, Tr.sizes]
  | j + 1, hj => by
    rw [prodTo, Tr.sizes_take ts j (by omega), Nat.pow_add]
    refine Nat.mul_le_mul (prodTo_le rs ts args (j := j) (by omega)) ?_
    have hj' : j < ts.length := by omega
    simp only [cntF, hj', dif_pos]
    exact Tr.cnt_le rs _ _
theorem pow_big {N k : Nat} (hN : N ≤ 65536) (hk : k ≤ 1048576) : N ^ k < bigN := by
  rw [bigN_eq]
  have hk' : k ≤ kWords := by rw [kWords_eq]; exact hk
  have h1 : N ^ k ≤ 65536 ^ k := Nat.pow_le_pow_left hN k
  have h2 : 65536 ^ k ≤ 65536 ^ kWords := Nat.pow_le_pow_right (by decide) hk'
  have h3 : 65536 ^ kWords < 4294967296 ^ kWords := Nat.pow_lt_pow_left (by decide) (by rw [kWords_eq]; decide)
  exact Nat.lt_of_le_of_lt (Nat.le_trans h1 h2) h3
def runF (rs : List Rl) (ts : List Tr) (r : Rl) : Nat := prodTo (cntF rs ts) r.args r.args.length
theorem node_cnt {H : View} {a : Option Addr} {rs : List Rl} {ts : List Tr} {s : Int} {kv : Nat → KVs} (hch : ChAt H a ts.length (cntF rs ts) kv) (hfit : ∀ r ∈ symR rs s, r.args.length = ts.length) (q : Int) :
    sumTo (runF rs ts) ((symR rs s).filter fun r => applB kv r.args r.args.length) q = Tr.cnt rs (.node s ts) q := by
  rw [sumTo_filter, cnt_sum]
  · unfold sumTo
    congr 1
    apply List.map_congr_left
    intro r hr
    have hl := hfit r (List.mem_filter.1 hr).1
    rw [cnts_prod rs ts r.args hl, runF, hl]
  · intro r hr h
    have hl := hfit r hr
    unfold runF
    rw [hl] at h ⊢
    rcases Nat.eq_zero_or_pos (prodTo (cntF rs ts) r.args ts.length) with e | e
    · exact e
    · rw [(hch.appl r.args (Nat.le_refl _)).2 e] at h; cases h
theorem sizes_ge {ts : List Tr} {j : Nat} (hj : j < ts.length) : ts[j].size ≤ Tr.sizes ts := by
  have h1 := Tr.sizes_take ts j hj
  have h2 := Tr.sizes_take_le ts (j + 1)
  omega
theorem prodTo_big {rs : List Rl} {ts : List Tr} (hN : rs.length ≤ 65536) (hs : Tr.sizes ts ≤ 1048576) (args : List Int) {j : Nat} (hj : j ≤ ts.length) : prodTo (cntF rs ts) args j < bigN :=
  Nat.lt_of_le_of_lt (prodTo_le rs ts args hj) (pow_big hN (Nat.le_trans (Tr.sizes_take_le ts j) hs))
theorem cntF_big {rs : List Rl} {ts : List Tr} (hN : rs.length ≤ 65536) (hs : Tr.sizes ts ≤ 1048576) {j : Nat} (hj : j < ts.length) (q : Int) : cntF rs ts j q < bigN := by
  simp only [cntF, hj, dif_pos]
  exact Nat.lt_of_le_of_lt (Tr.cnt_le rs _ _) (pow_big hN (Nat.le_trans (sizes_ge hj) hs))
theorem cnt_big {rs : List Rl} {t : Tr} (hN : rs.length ≤ 65536) (hs : t.size ≤ 1048576) (q : Int) : t.cnt rs q < bigN := Nat.lt_of_le_of_lt (Tr.cnt_le rs _ _) (pow_big hN hs)
theorem repNd_snoc {tn : TypeId} {V U : View} {rs : List Rl} {ts : List Tr} {ns : List Nd} {nd : Nd} {k : Nat} (hch : ∀ i (h1 : i < ts.length) (h2 : i < ns.length), RepNd tn V rs ts[i] ns[i]) (hU : VLe V U) (hns : ns.length = k) (hk : k < ts.length) (hnd : RepNd tn U rs ts[k] nd) :
    ∀ i (h1 : i < ts.length) (h2 : i < (ns ++ [nd]).length), RepNd tn U rs ts[i] (ns ++ [nd])[i] := by
  intro i h1 h2
  by_cases e : i < ns.length
  · rw [List.getElem_append_left e]; exact (hch i h1 e).mono hU
  · have e2 : i = k := by simp at h2; omega
    subst e2
    rw [List.getElem_append_right (by omega)]
    simpa [hns] using hnd
section
variable {P : Program} {n : Nat} {c : Cx} {Q : Exit → Act → World → Prop} {l : KL} {hl : HL} {H : View}
theorem Ok.many_app {w : World} {p q : HL} (h : Ok c w H (many q :: many p :: hl)) : Ok c w H (many (p ++ q) :: hl) := by
  have h1 := (h.perm (List.Perm.swap _ _ _)).many_out
  have h2 : Ok c w H (many q :: (p ++ hl)) := h1.perm List.perm_middle
  have h3 := h2.many_out
  refine Ok.many_in (p := p ++ q) (h3.perm ?_)
  rw [List.append_assoc, ← List.append_assoc, ← List.append_assoc]
  exact List.Perm.append_right _ List.perm_append_comm
theorem Ok.many_cons {w : World} {p : HL} {e : Own} (h : Ok c w H (e :: many p :: hl)) : Ok c w H (many (e :: p) :: hl) := by
  have h1 := (h.perm (List.Perm.swap _ _ _)).many_out
  exact Ok.many_in (p := e :: p) (h1.perm List.perm_middle)
theorem KQ_many_app {x : Exit} {p q : HL} (h : KQ n c Q x l (many (p ++ q) :: hl) H) : KQ n c Q x l (many q :: many p :: hl) H := fun ρ w hm ho => h ρ w hm ho.many_app
theorem KQ_many_cons {x : Exit} {p : HL} {e : Own} (h : KQ n c Q x l (many (e :: p) :: hl) H) : KQ n c Q x l (e :: many p :: hl) H := fun ρ w hm ho => h ρ w hm ho.many_cons
end
end Pal
