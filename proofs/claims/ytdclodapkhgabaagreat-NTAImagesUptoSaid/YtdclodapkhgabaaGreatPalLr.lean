/-
  Least runs with their memory: the maps of a tree's nodes. Own work. No statement of the seat is proved here.
-/
import Derived.Test.YtdclodapkhgabaaGreatPalRn
namespace Pal
open Go
inductive Md where
  | mk (lm : Nat) (kv : KVs) (l : List Md)
mutual
def Md.maps : Md → HL
  | .mk lm kv l => blk lm (mapOb kv) :: Md.mapss l
def Md.mapss : List Md → HL
  | [] => []
  | m :: r => Md.maps m ++ Md.mapss r
end
theorem Md.mapss_append : ∀ a b : List Md, Md.mapss (a ++ b) = Md.mapss a ++ Md.mapss b
  | [], b => rfl
  | n :: r, b => by simp only [List.cons_append, Md.mapss, Md.mapss_append r b, List.append_assoc]
def LeastP (H : View) (f : Int → Option (List Int)) (kvs : KVs) : Prop := (kvs.map (·.1)).Nodup ∧ ∀ q v, lookI kvs q = some v → ∃ x, f q = some x ∧ SI H v x
theorem LeastP.mono {H H' : View} {f : Int → Option (List Int)} {kvs : KVs} (h : LeastP H f kvs) (hle : VLe H H') : LeastP H' f kvs :=
  ⟨h.1, fun q v hv => by obtain ⟨x, h1, h2⟩ := h.2 q v hv; exact ⟨x, h1, h2.mono hle⟩⟩
theorem LeastP.set {H H' : View} {f : Int → Option (List Int)} {kvs : KVs} (h : LeastP H f kvs) (hle : VLe H H') {q : Int} {v : Value} {x : List Int} (hx : f q = some x) (hv : SI H' v x) : LeastP H' f (setI kvs q v) := by
  refine ⟨setI_keys q v h.1, fun k u hu => ?_⟩
  rw [lookI_setI h.1] at hu
  by_cases e : k = q
  · rw [if_pos e] at hu; cases hu; subst e; exact ⟨x, hx, hv⟩
  · rw [if_neg e] at hu; exact (h.mono hle).2 k u hu
inductive MdOk (H : View) (rs : List Rl) : Tr → Nd → Md → Prop
  | mk (s : Int) (ts : List Tr) (b lm : Nat) (ns : List Nd) (kv : KVs) (ms : List Md) (h1 : ns.length = ts.length) (h2 : ms.length = ts.length) (hk : LeastP H (Tr.least rs (.node s ts)) kv)
    (hch : ∀ i (h : i < ts.length) (h2 : i < ns.length) (h3 : i < ms.length), MdOk H rs ts[i] ns[i] ms[i]) : MdOk H rs (.node s ts) (.mk b lm ns) (.mk lm kv ms)
theorem MdOk.mono {H H' : View} {rs : List Rl} {t : Tr} {nd : Nd} {md : Md} (h : MdOk H rs t nd md) (hle : VLe H H') : MdOk H' rs t nd md := by
  induction h with
  | mk s ts b lm ns kv ms h1 h2 hk hch ih => exact .mk s ts b lm ns kv ms h1 h2 (hk.mono hle) ih
mutual
def Nd.md : Nd → Md
  | .mk _ lm l => .mk lm [] (Nd.mds l)
def Nd.mds : List Nd → List Md
  | [] => []
  | n :: r => Nd.md n :: Nd.mds r
end
theorem Nd.mds_eq : ∀ l : List Nd, Nd.mds l = l.map Nd.md
  | [] => rfl
  | n :: r => by rw [Nd.mds, Nd.mds_eq r]; rfl
mutual
theorem Nd.maps_md : ∀ nd : Nd, nd.maps (fun _ => []) = nd.md.maps
  | .mk b lm l => by rw [Nd.maps, Nd.md, Md.maps, Nd.mapss_md l]
theorem Nd.mapss_md : ∀ l : List Nd, Nd.mapss (fun _ => []) l = Md.mapss (Nd.mds l)
  | [] => rfl
  | n :: r => by rw [Nd.mapss, Nd.mds, Md.mapss, Nd.maps_md n, Nd.mapss_md r]
end
theorem RepNd.mdOk {tn : TypeId} {H : View} {rs : List Rl} {t : Tr} {nd : Nd} (h : RepNd tn H rs t nd) : MdOk H rs t nd nd.md := by
  induction h with
  | mk s ts b lm rb ns a cap kvs hb hl hc hr hq hch ih =>
    refine .mk s ts b lm ns [] (Nd.mds ns) hl (by rw [Nd.mds_eq]; simpa using hl) ⟨by simp, fun q v hv => by simp [lookI, findI] at hv⟩ fun i h1 h2 h3 => ?_
    have e : (Nd.mds ns)[i] = ns[i].md := by simp [Nd.mds_eq]
    rw [e]; exact ih i h1 h2
section
variable {P : Program} {n : Nat} {c : Cx} {Q : Exit → Act → World → Prop} {l : KL} {hl : HL} {H : View} {ops : Array Oper} {rest : List Oper}
theorem Ok.many_uncons {w : World} {p : HL} {e : Own} (h : Ok c w H (many (e :: p) :: hl)) : Ok c w H (e :: many p :: hl) := by
  have h1 := h.many_out
  have h2 : Ok c w H (p ++ (e :: hl)) := h1.perm (by simpa using List.perm_middle.symm)
  exact h2.many_in.perm (List.Perm.swap _ _ _)
theorem KO_many_uncons {p : HL} {e : Own} (h : KO P n c ops Q rest l (e :: many p :: hl) H) : KO P n c ops Q rest l (many (e :: p) :: hl) H := fun ρ w hm ho => h ρ w hm ho.many_uncons
theorem SatO.many_uncons {f : FuncId} {args : Array Value} {p : HL} {e : Own} {post : Value → View → HL → Prop} (h : SatO P f args H (e :: many p :: hl) post) : SatO P f args H (many (e :: p) :: hl) post := by
  intro w hw
  have hf : feet (many (e :: p) :: hl) = feet (e :: many p :: hl) := by simp [feet, many]
  have := h w (hw.ok.many_uncons).hasL
  rw [hf]; exact this
/-- One map-tree out of the list. -/
theorem mapss_out {ms : List Md} {i : Nat} (hi : i < ms.length) : (Md.mapss ms).Perm (ms[i].maps ++ (Md.mapss (ms.take i) ++ Md.mapss (ms.drop (i + 1)))) := by
  have e : ms = ms.take i ++ ms[i] :: ms.drop (i + 1) := by simp
  conv => lhs; rw [e]
  rw [Md.mapss_append, Md.mapss, ← List.append_assoc, ← List.append_assoc]
  exact List.Perm.append_right _ List.perm_append_comm
theorem mapss_in {ms : List Md} {i : Nat} (hi : i < ms.length) (m : Md) : (m.maps ++ (Md.mapss (ms.take i) ++ Md.mapss (ms.drop (i + 1)))).Perm (Md.mapss (ms.set i m)) := by
  have e : ms.set i m = ms.take i ++ m :: ms.drop (i + 1) := List.set_eq_take_append_cons_drop .. |>.trans (by rw [if_pos hi])
  rw [e, Md.mapss_append, Md.mapss, ← List.append_assoc, ← List.append_assoc]
  exact List.Perm.append_right _ List.perm_append_comm
theorem Ok.mapss_out {w : World} {ms : List Md} {i : Nat} (hi : i < ms.length) (h : Ok c w H (many (Md.mapss ms) :: hl)) : Ok c w H (many ms[i].maps :: many (Md.mapss (ms.take i) ++ Md.mapss (ms.drop (i + 1))) :: hl) := by
  have h1 := (h.many_perm (Pal.mapss_out hi)).many_out
  rw [List.append_assoc] at h1
  have h2 := h1.many_in
  have h3 : Ok c w H ((Md.mapss (ms.take i) ++ Md.mapss (ms.drop (i + 1))) ++ (many ms[i].maps :: hl)) := h2.perm List.perm_middle.symm
  exact h3.many_in.perm (List.Perm.swap _ _ _)
theorem Ok.mapss_in {w : World} {ms : List Md} {i : Nat} (hi : i < ms.length) {m : Md} (h : Ok c w H (many m.maps :: many (Md.mapss (ms.take i) ++ Md.mapss (ms.drop (i + 1))) :: hl)) : Ok c w H (many (Md.mapss (ms.set i m)) :: hl) := by
  have h1 := (h.perm (List.Perm.swap _ _ _)).many_app
  exact h1.many_perm (Pal.mapss_in hi m)
theorem KC_mapss_out {code : Code} {ms : List Md} {i : Nat} (hi : i < ms.length) (h : KC P n c code Q l (many ms[i].maps :: many (Md.mapss (ms.take i) ++ Md.mapss (ms.drop (i + 1))) :: hl) H) : KC P n c code Q l (many (Md.mapss ms) :: hl) H := fun ρ w hm ho => h ρ w hm (ho.mapss_out hi)
theorem KQ_mapss_in {x : Exit} {ms : List Md} {i : Nat} (hi : i < ms.length) {m : Md} (h : KQ n c Q x l (many (Md.mapss (ms.set i m)) :: hl) H) : KQ n c Q x l (many m.maps :: many (Md.mapss (ms.take i) ++ Md.mapss (ms.drop (i + 1))) :: hl) H := fun ρ w hm ho => h ρ w hm (ho.mapss_in hi)
end
/-! ### The plain law -/
theorem least_len {rs : List Rl} {t : Tr} {q : Int} {x : List Int} (h : Tr.least rs t q = some x) : x.length = t.size := by
  rcases Tr.least_ways rs t q with ⟨_, h2⟩ | ⟨m, h1, h2⟩
  · rw [h2] at h; cases h
  · rw [h1] at h; cases h
    exact Tr.ways_len rs t _ (List.mem_filter.1 h2.1).1
theorem least_some {rs : List Rl} {t : Tr} {q : Int} : (Tr.least rs t q).isSome = true ↔ 0 < t.cnt rs q := by
  rw [← Tr.cnt_ways, List.countP_eq_length_filter]
  rcases Tr.least_ways rs t q with ⟨h1, h2⟩ | ⟨m, h1, h2⟩
  · rw [h1, h2]; simp
  · rw [h1]
    have := List.length_pos_of_mem h2.1
    simp only [Option.isSome_some, true_iff]
    exact this
def ltAt (rs : List Rl) (ts : List Tr) (args : List Int) (i : Nat) : List Int := (if h : i < ts.length then Tr.least rs ts[i] (args.getD i 0) else none).getD []
def ltTo (rs : List Rl) (ts : List Tr) (args : List Int) : Nat → List Int
  | 0 => []
  | j + 1 => ltTo rs ts args j ++ ltAt rs ts args j
theorem ltTo_cons (rs : List Rl) (t : Tr) (ts : List Tr) (q : Int) (qs : List Int) : ∀ n, ltTo rs (t :: ts) (q :: qs) (n + 1) = (Tr.least rs t q).getD [] ++ ltTo rs ts qs n
  | 0 => by simp [ltTo, ltAt]
  | n + 1 => by
    rw [ltTo, ltTo_cons rs t ts q qs n, ltTo, List.append_assoc]
    congr 2
    simp [ltAt]
theorem leasts_to (rs : List Rl) : ∀ (ts : List Tr) (args : List Int), args.length = ts.length → (∀ i, i < ts.length → 0 < cntF rs ts i (args.getD i 0)) → Tr.leasts rs ts args = some (ltTo rs ts args ts.length)
  | [], [], _, _ => rfl
  | [], _ :: _, h, _ => by simp at h
  | _ :: _, [], h, _ => by simp at h
  | t :: ts, q :: qs, h, hp => by
    have h0 := hp 0 (by simp)
    simp only [cntF, List.length_cons, Nat.zero_lt_succ, dif_pos, List.getElem_cons_zero, List.getD_cons_zero] at h0
    have h1 := least_some.2 h0
    obtain ⟨x, hx⟩ := Option.isSome_iff_exists.1 h1
    have ih := leasts_to rs ts qs (by simpa using h) fun i hi => by
      have := hp (i + 1) (by simpa using hi)
      simpa [cntF, hi] using this
    rw [Tr.leasts, hx, ih, List.length_cons, ltTo_cons, hx]
    rfl
theorem leasts_none (rs : List Rl) : ∀ (ts : List Tr) (args : List Int), args.length = ts.length → (∃ i, i < ts.length ∧ cntF rs ts i (args.getD i 0) = 0) → Tr.leasts rs ts args = none
  | [], _, _, ⟨i, hi, _⟩ => by simp at hi
  | _ :: _, [], h, _ => by simp at h
  | t :: ts, q :: qs, h, ⟨i, hi, hz⟩ => by
    rw [Tr.leasts]
    cases i with
    | zero =>
      simp only [cntF, List.length_cons, Nat.zero_lt_succ, dif_pos, List.getElem_cons_zero, List.getD_cons_zero] at hz
      have : Tr.least rs t q = none := by
        cases hl : Tr.least rs t q with
        | none => rfl
        | some x => have := least_some.1 (by rw [hl]; rfl : (Tr.least rs t q).isSome = true); omega
      rw [this]
    | succ i =>
      have ih := leasts_none rs ts qs (by simpa using h) ⟨i, by simpa using hi, by
        have hi' : i < ts.length := by simpa using hi
        simpa [cntF, hi'] using hz⟩
      rw [ih]
      cases Tr.least rs t q <;> rfl
theorem ltAt_len {rs : List Rl} {ts : List Tr} {args : List Int} {j : Nat} (hj : j < ts.length) : (ltAt rs ts args j).length ≤ ts[j].size := by
  unfold ltAt
  rw [dif_pos hj]
  cases h : Tr.least rs ts[j] (args.getD j 0) with
  | none => simp
  | some x => rw [Option.getD_some, least_len h]; exact Nat.le_refl _
theorem ltTo_len {rs : List Rl} {ts : List Tr} {args : List Int} : ∀ {j : Nat}, j ≤ ts.length → (ltTo rs ts args j).length ≤ Tr.sizes (ts.take j)
  | 0, _ => by simp [ltTo, Tr.sizes]
  | j + 1, hj => by
    have h1 := ltTo_len (rs := rs) (args := args) (j := j) (ts := ts) (by omega)
    have h2 := ltAt_len (rs := rs) (args := args) (ts := ts) (j := j) (by omega)
    rw [ltTo, List.length_append, Tr.sizes_take ts j (by omega)]
    omega
def bestL (rs : List Rl) (ts : List Tr) (q : Int) (L : List Rl) : Option (List Int) := (((L.filter fun r => decide (r.to = q)).filterMap fun r => Tr.leasts rs ts r.args).map fun l => l ++ [q]).foldl bestO none
theorem bestL_snoc (rs : List Rl) (ts : List Tr) (q : Int) (L : List Rl) (r : Rl) : bestL rs ts q (L ++ [r]) = if r.to = q then (match Tr.leasts rs ts r.args with | some y => bestO (bestL rs ts q L) (y ++ [q]) | none => bestL rs ts q L) else bestL rs ts q L := by
  unfold bestL
  rw [List.filter_append]
  by_cases h : r.to = q
  · rw [if_pos h]
    have e : ([r].filter fun r => decide (r.to = q)) = [r] := by simp [h]
    rw [e, List.filterMap_append, List.map_append, List.foldl_append]
    cases h2 : Tr.leasts rs ts r.args <;> simp [h2]
  · rw [if_neg h]
    have e : ([r].filter fun r => decide (r.to = q)) = [] := by simp [h]
    rw [e, List.append_nil]
theorem bestL_filter {rs : List Rl} {ts : List Tr} {q : Int} {p : Rl → Bool} : ∀ {L : List Rl}, (∀ r ∈ L, p r = false → Tr.leasts rs ts r.args = none) → ((L.filter p).filter fun r => decide (r.to = q)).filterMap (fun r => Tr.leasts rs ts r.args) = (L.filter fun r => decide (r.to = q)).filterMap fun r => Tr.leasts rs ts r.args
  | [], _ => rfl
  | r :: L, h => by
    have ih := bestL_filter (q := q) (L := L) fun x hx => h x (List.mem_cons_of_mem _ hx)
    by_cases hp : p r = true
    · rw [List.filter_cons_of_pos hp]
      by_cases hq : r.to = q
      · rw [List.filter_cons_of_pos (by simpa using hq), List.filter_cons_of_pos (by simpa using hq), List.filterMap_cons, List.filterMap_cons, ih]
      · rw [List.filter_cons_of_neg (by simpa using hq), List.filter_cons_of_neg (by simpa using hq), ih]
    · rw [List.filter_cons_of_neg hp]
      have h0 := h r List.mem_cons_self (by simpa using hp)
      by_cases hq : r.to = q
      · rw [List.filter_cons_of_pos (by simpa using hq), List.filterMap_cons, h0, ih]
      · rw [List.filter_cons_of_neg (by simpa using hq), ih]
theorem node_least {H : View} {a : Option Addr} {rs : List Rl} {ts : List Tr} {s : Int} {kv : Nat → KVs} (hch : ChAt H a ts.length (cntF rs ts) kv) (hfit : ∀ r ∈ symR rs s, r.args.length = ts.length) (q : Int) :
    bestL rs ts q ((symR rs s).filter fun r => applB kv r.args r.args.length) = Tr.least rs (.node s ts) q := by
  have h1 := bestL_filter (rs := rs) (ts := ts) (q := q) (p := fun r => applB kv r.args r.args.length) (L := symR rs s) fun r hr h => by
    have hl := hfit r hr
    refine leasts_none rs ts r.args hl ?_
    rw [hl] at h
    have hz : prodTo (cntF rs ts) r.args ts.length = 0 := by
      rcases Nat.eq_zero_or_pos (prodTo (cntF rs ts) r.args ts.length) with e | e
      · exact e
      · rw [(hch.appl r.args (Nat.le_refl _)).2 e] at h; cases h
    have key : ∀ n, prodTo (cntF rs ts) r.args n = 0 → ∃ i, i < n ∧ cntF rs ts i (r.args.getD i 0) = 0 := by
      intro n
      induction n with
      | zero => intro h; simp [prodTo] at h
      | succ n ih =>
        intro h
        rw [prodTo] at h
        rcases Nat.mul_eq_zero.1 h with h | h
        · obtain ⟨i, hi, hz⟩ := ih h
          exact ⟨i, by omega, hz⟩
        · exact ⟨n, by omega, h⟩
    exact key _ hz
  unfold bestL
  rw [h1, Tr.least]
  unfold symR
  rw [List.filter_filter]
  congr 3
  apply List.filter_congr
  intro r _
  by_cases h1 : r.sym = s <;> by_cases h2 : r.to = q <;> simp [h1, h2]
/-- The best run so far, in its cell. -/
def BestW (H : View) (w : Value) (o : Option (List Int)) : Prop := (o = none ∧ w = nilS) ∨ ∃ x a cp, o = some x ∧ w = .slice (some a) x.length cp ∧ SI H w x ∧ x.length ≤ 1048577
theorem BestW.mono {H H' : View} {w : Value} {o : Option (List Int)} (h : BestW H w o) (hle : VLe H H') : BestW H' w o := by
  rcases h with h | ⟨x, a, cp, h1, h2, h3, h4⟩
  · exact .inl h
  · exact .inr ⟨x, a, cp, h1, h2, h3.mono hle, h4⟩
theorem SI.some_of {H : View} {a : Option Addr} {k cp : Nat} {x : List Int} (h : SI H (.slice a k cp) x) (hx : x ≠ []) : ∃ b, a = some b := by
  obtain ⟨a', cp', e, h2⟩ := h.1
  cases e
  rcases h2 with ⟨h2, _⟩ | ⟨b, off, rfl, _⟩
  · exact absurd (List.eq_nil_of_length_eq_zero h2) hx
  · exact ⟨_, rfl⟩
theorem KC_many_cons {P : Program} {n : Nat} {c : Cx} {Q : Exit → Act → World → Prop} {l : KL} {hl : HL} {H : View} {code : Code} {p : HL} {e : Own} (h : KC P n c code Q l (many (e :: p) :: hl) H) : KC P n c code Q l (e :: many p :: hl) H := fun ρ w hm ho => h ρ w hm ho.many_cons
theorem SatO.joinPost {P : Program} {f : FuncId} {args : Array Value} {H : View} {p : HL} {post : Value → View → Own → HL → Prop} (h : SatO P f args H p fun v H' q => ∃ e r, q = [e, many r] ∧ post v H' e r) : SatO P f args H p fun v H' q => ∃ e r, q = [many (e :: r)] ∧ post v H' e r := by
  intro w hw
  refine Calls.mono (h w hw) ?_
  rintro e' w' ⟨v, H', q, rfl, hok, e, r, rfl, hp⟩
  exact ⟨v, H', _, rfl, hok.many_cons, e, r, rfl, hp⟩
theorem ints_append (xs ys : List Int) : ints (xs ++ ys) = ints xs ++ ints ys := by simp [ints]
theorem md_set {H : View} {rs : List Rl} {ts : List Tr} {ns : List Nd} {mz : List Md} {V : View} {j : Nat} {md : Md} (h : ∀ i (h : i < ts.length) (h2 : i < ns.length) (h3 : i < mz.length), MdOk H rs ts[i] ns[i] mz[i]) (hle : VLe H V) (hjt : j < ts.length) (hjn : j < ns.length) (hm : MdOk V rs ts[j] ns[j] md) :
    ∀ i (h : i < ts.length) (h2 : i < ns.length) (h3 : i < (mz.set j md).length), MdOk V rs ts[i] ns[i] (mz.set j md)[i] := by
  intro i h1 h2 h3
  by_cases e : j = i
  · subst e; rw [List.getElem_set_self]; exact hm
  · rw [List.getElem_set_ne e]; exact (h i h1 h2 (by simpa using h3)).mono hle
end Pal
