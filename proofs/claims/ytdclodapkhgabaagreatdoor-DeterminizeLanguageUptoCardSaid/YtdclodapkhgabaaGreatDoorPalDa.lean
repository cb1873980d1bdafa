/-
  Deterministic automata and trees as plain data: what is wrong with them, runs, relabelings. Own work. No statement of the seat is proved here.
-/
import Derived.Test.YtdclodapkhgabaaGreatDoorPalZb
namespace Pal
open Go
section
variable {P : Program} {l : KL} {hl : HL} {H : View} {ty : TypeId}
theorem R_max2 {x y : Operand} {ats : Array TypeId} {a b : Int} {k : IntKind} (hx : ev l x = some (.int k a)) (hy : ev l y = some (.int k b)) : ValOk P l H hl (.call ⟨.builtin .max, #[x, y], ats⟩) ty (.int k (if b > a then b else a)) := by
  intro e w hk _
  simp only [ex, execOp, resolve, hk x _ hx, hk y _ hy, invoke, builtin]
  simp [Builtin.max_, Builtin.max2, hk x _ hx, hk y _ hy]
end
theorem bools_one (xs : List Bool) : (bools xs).all Value.oneCell' = true := by
  induction xs with
  | nil => rfl
  | cons x r ih => exact ih
/-! ### Trees over an alphabet -/
mutual
def Tr.nodesErr (rk : List Int) : Tr → Int
  | .node s ts => if s < 0 ∨ (rk.length : Int) ≤ s then 6 else if (ts.length : Int) ≠ rk.getD s.toNat 0 then 3 else Tr.nodesErrs rk ts
def Tr.nodesErrs (rk : List Int) : List Tr → Int
  | [] => 0
  | t :: r => if Tr.nodesErr rk t ≠ 0 then Tr.nodesErr rk t else Tr.nodesErrs rk r
end
theorem Tr.nodesErrs_cons {rk : List Int} {ts : List Tr} {k : Nat} (hk : k < ts.length) : Tr.nodesErrs rk (ts.drop k) = if Tr.nodesErr rk ts[k] ≠ 0 then Tr.nodesErr rk ts[k] else Tr.nodesErrs rk (ts.drop (k + 1)) := by
  rw [List.drop_eq_getElem_cons hk]; simp only [Tr.nodesErrs]
theorem Tr.nodesErrs_zero {rk : List Int} : ∀ {ts : List Tr}, Tr.nodesErrs rk ts = 0 ↔ ∀ t ∈ ts, Tr.nodesErr rk t = 0
  | [] => by simp [Tr.nodesErrs]
  | t :: r => by
    simp only [Tr.nodesErrs, List.mem_cons, forall_eq_or_imp]
    by_cases h : Tr.nodesErr rk t = 0
    · simp [h, Tr.nodesErrs_zero (ts := r)]
    · simp [h]
theorem Tr.nodesErr_zero {rk : List Int} {s : Int} {ts : List Tr} : Tr.nodesErr rk (.node s ts) = 0 ↔ (0 ≤ s ∧ s < rk.length) ∧ (ts.length : Int) = rk.getD s.toNat 0 ∧ ∀ t ∈ ts, Tr.nodesErr rk t = 0 := by
  simp only [Tr.nodesErr]
  by_cases h : s < 0 ∨ (rk.length : Int) ≤ s
  · rw [if_pos h]
    constructor
    · intro h2; omega
    · rintro ⟨h1, _⟩; omega
  · rw [if_neg h]
    by_cases h2 : (ts.length : Int) = rk.getD s.toNat 0
    · rw [if_neg (by omega), Tr.nodesErrs_zero]
      constructor
      · intro h3; exact ⟨by omega, h2, h3⟩
      · rintro ⟨_, _, h3⟩; exact h3
    · rw [if_pos h2]
      constructor
      · intro h3; omega
      · rintro ⟨_, h3, _⟩; exact absurd h3 h2
def validErr (rk : List Int) (t : Tr) : Int := if ranksErr rk ≠ 0 then ranksErr rk else if (4096 : Int) < t.size then 2 else if (256 : Int) < t.deep then 16 else Tr.nodesErr rk t
/-! ### Deterministic automata -/
def widthBad (d : Dt) : Bool := (List.range d.to.length).any fun s => decide ((d.to.getD s []).length ≠ d.acc.length ^ (d.ranks.getD s 0).toNat)
def entryBad (d : Dt) : Bool := d.to.any fun l => l.any (badQ d.acc.length)
def dtErr (d : Dt) : Int :=
  if ranksErr d.ranks ≠ 0 then ranksErr d.ranks else if (d.acc.length : Int) < 1 ∨ (512 : Int) < d.acc.length then 2 else if (d.to.length : Int) ≠ d.ranks.length then 3
  else if widthBad d = true then 3 else if entryBad d = true then 2 else 0
theorem ranksErr_ok {rk : List Int} (h : ranksErr rk = 0) : (1 ≤ rk.length ∧ rk.length ≤ 4096) ∧ ∀ s (hs : s < rk.length), 0 ≤ rk[s] ∧ rk[s] ≤ 2 := by
  unfold ranksErr at h
  split at h
  · cases h
  · split at h
    · cases h
    · rename_i h1 h2
      refine ⟨by omega, fun s hs => ?_⟩
      have h3 := List.any_eq_false.1 (Bool.eq_false_iff.2 h2) _ (List.getElem_mem hs)
      simp only [decide_eq_true_eq] at h3
      omega
structure DtOk (d : Dt) : Prop where
  rk : ranksErr d.ranks = 0
  n : 1 ≤ d.acc.length ∧ d.acc.length ≤ 512
  tl : d.to.length = d.ranks.length
  w : ∀ s, s < d.ranks.length → (d.to.getD s []).length = d.acc.length ^ (d.ranks.getD s 0).toNat
  e : ∀ x ∈ d.to, ∀ q ∈ x, 0 ≤ q ∧ q < d.acc.length
theorem DtOk.of {d : Dt} (h : dtErr d = 0) : DtOk d := by
  unfold dtErr at h
  split at h
  · rename_i h1; exact absurd h h1
  · split at h
    · cases h
    · split at h
      · cases h
      · split at h
        · cases h
        · split at h
          · cases h
          · rename_i h1 h2 h3 h4 h5
            have htl : d.to.length = d.ranks.length := by omega
            refine ⟨Decidable.not_not.1 h1, by omega, htl, ?_, ?_⟩
            · intro s hs
              have := List.any_eq_false.1 (Bool.eq_false_iff.2 h4) s (List.mem_range.2 (by omega))
              simpa using this
            · intro x hx q hq
              have := List.any_eq_false.1 (Bool.eq_false_iff.2 h5) x hx
              have := List.any_eq_false.1 (Bool.eq_false_iff.2 this) q hq
              exact badQ_false (Bool.eq_false_iff.2 this)
theorem DtOk.err {d : Dt} (h : DtOk d) : dtErr d = 0 := by
  unfold dtErr
  have hn := h.n
  rw [if_neg (by rw [h.rk]; simp), if_neg (by omega), if_neg (by rw [h.tl]; simp)]
  have h4 : widthBad d = false := by
    unfold widthBad
    rw [List.any_eq_false]
    intro s hs
    have := h.w s (by have := List.mem_range.1 hs; rw [h.tl] at this; exact this)
    simp only [this, ne_eq, not_true_eq_false, decide_false]; simp
  have h5 : entryBad d = false := by
    unfold entryBad
    rw [List.any_eq_false]
    intro x hx
    rw [Bool.not_eq_true, List.any_eq_false]
    intro q hq
    have := h.e x hx q hq
    simp [badQ, this]
  rw [h4, h5]
  simp
/-- The place of operand states. -/
def placeM (n : Nat) (l : List Int) : Int := l.foldl (fun p s => p * (n : Int) + s) 0
theorem placeM_take {n : Nat} {l : List Int} {k : Nat} (hk : k < l.length) : placeM n (l.take (k + 1)) = placeM n (l.take k) * n + l[k] := by
  unfold placeM
  rw [List.take_succ_eq_append_getElem hk, List.foldl_append]; rfl
theorem placeM_lt {n : Nat} {l : List Int} (h : ∀ x ∈ l, 0 ≤ x ∧ x < (n : Int)) : ∀ k, k ≤ l.length → 0 ≤ placeM n (l.take k) ∧ placeM n (l.take k) < ((n ^ k : Nat) : Int)
  | 0, _ => by simp [placeM]
  | k + 1, hk => by
    obtain ⟨h1, h2⟩ := placeM_lt h k (by omega)
    obtain ⟨h3, h4⟩ := h _ (List.getElem_mem (show k < l.length by omega))
    rw [placeM_take (show k < l.length by omega)]
    have h5 : placeM n (l.take k) + 1 ≤ ((n ^ k : Nat) : Int) := by omega
    have h6 : (placeM n (l.take k) + 1) * (n : Int) ≤ ((n ^ k : Nat) : Int) * (n : Int) := Int.mul_le_mul_of_nonneg_right h5 (by omega)
    have h7 : (((n ^ (k + 1) : Nat)) : Int) = ((n ^ k : Nat) : Int) * (n : Int) := by rw [Nat.pow_succ]; exact Int.natCast_mul _ _
    have h8 : 0 ≤ placeM n (l.take k) * (n : Int) := Int.mul_nonneg h1 (by omega)
    rw [Int.add_mul, Int.one_mul] at h6
    exact ⟨by omega, by omega⟩
def atM (d : Dt) (sym : Int) (l : List Int) : Int := (d.to.getD sym.toNat []).getD (placeM d.acc.length l).toNat 0
mutual
def Tr.run (d : Dt) : Tr → Int
  | .node s ts => atM d s (Tr.runs d ts)
def Tr.runs (d : Dt) : List Tr → List Int
  | [] => []
  | t :: r => Tr.run d t :: Tr.runs d r
end
theorem Tr.runs_map (d : Dt) : ∀ ts : List Tr, Tr.runs d ts = ts.map (Tr.run d)
  | [] => rfl
  | t :: r => by simp only [Tr.runs, List.map_cons, Tr.runs_map d r]
/-- Operands of a symbol: as many as its rank, all states. -/
theorem DtOk.at_ok {d : Dt} (h : DtOk d) {s : Int} {l : List Int} (hs : 0 ≤ s ∧ s < d.ranks.length) (hl : (l.length : Int) = d.ranks.getD s.toNat 0) (hx : ∀ x ∈ l, 0 ≤ x ∧ x < (d.acc.length : Int)) :
    s.toNat < d.to.length ∧ (0 ≤ placeM d.acc.length l ∧ (placeM d.acc.length l).toNat < (d.to.getD s.toNat []).length) ∧ 0 ≤ atM d s l ∧ atM d s l < d.acc.length := by
  have hs' : s.toNat < d.ranks.length := by omega
  have hw := h.w _ hs'
  have hp := placeM_lt hx l.length (Nat.le_refl _)
  rw [List.take_length] at hp
  have hr : (d.ranks.getD s.toNat 0).toNat = l.length := by omega
  rw [hr] at hw
  have hlt : (placeM d.acc.length l).toNat < (d.to.getD s.toNat []).length := by omega
  have htl : s.toNat < d.to.length := by rw [h.tl]; exact hs'
  have hg : d.to.getD s.toNat [] = d.to[s.toNat] := by simp [List.getD, htl]
  refine ⟨htl, ⟨hp.1, hlt⟩, ?_⟩
  unfold atM
  have hg2 : (d.to.getD s.toNat []).getD (placeM d.acc.length l).toNat 0 = (d.to.getD s.toNat [])[(placeM d.acc.length l).toNat] := by
    simp only [List.getD_eq_getElem?_getD (l := d.to.getD s.toNat []), List.getElem?_eq_getElem hlt, Option.getD_some]
  rw [hg2]
  exact h.e (d.to.getD s.toNat []) (hg ▸ List.getElem_mem htl) _ (List.getElem_mem hlt)
theorem Tr.run_ok {d : Dt} (h : DtOk d) : ∀ (m : Nat) (t : Tr), t.size ≤ m → Tr.nodesErr d.ranks t = 0 → 0 ≤ Tr.run d t ∧ Tr.run d t < d.acc.length
  | 0, t, hm, _ => by have := t.size_pos; omega
  | m + 1, .node s ts, hm, he => by
    obtain ⟨h1, h2, h3⟩ := Tr.nodesErr_zero.1 he
    rw [Tr.run, Tr.runs_map]
    refine (h.at_ok h1 (by rw [List.length_map]; exact h2) ?_).2.2
    intro x hx
    obtain ⟨t, ht, rfl⟩ := List.mem_map.1 hx
    have hsz : t.size ≤ Tr.sizes ts := by
      clear h2 h3 hx he hm
      induction ts with
      | nil => cases ht
      | cons u r ih =>
        simp only [Tr.sizes]
        rcases List.mem_cons.1 ht with rfl | ht
        · omega
        · have := ih ht; omega
    simp only [Tr.size] at hm
    exact Tr.run_ok h m t (by omega) (h3 t ht)
def acceptsM (d : Dt) (t : Tr) : Bool := if dtErr d ≠ 0 then false else if validErr d.ranks t ≠ 0 then false else d.acc.getD (Tr.run d t).toNat false
/-! ### Relabelings -/
def mapsM (l src dst : List Int) : Bool := decide (l.length = src.length) && (List.range l.length).all fun i => decide ((0 ≤ l.getD i 0 ∧ l.getD i 0 < dst.length) ∧ dst.getD (l.getD i 0).toNat 0 = src.getD i 0)
def invD (d : Dt) (l rk : List Int) : Dt := ⟨rk, d.acc, l.map fun s => d.to.getD s.toNat []⟩
def invM (d : Dt) (l rk : List Int) : Int × Dt :=
  if dtErr d ≠ 0 then (dtErr d, ⟨[], [], []⟩) else if ranksErr rk ≠ 0 then (ranksErr rk, ⟨[], [], []⟩) else if mapsM l rk d.ranks = false then (3, ⟨[], [], []⟩) else (0, invD d l rk)
theorem mapsM_iff {l src dst : List Int} : mapsM l src dst = true ↔ l.length = src.length ∧ ∀ i (h : i < l.length) (h2 : i < src.length), (0 ≤ l[i] ∧ l[i] < dst.length) ∧ dst.getD l[i].toNat 0 = src[i] := by
  unfold mapsM
  simp only [Bool.and_eq_true, decide_eq_true_eq, List.all_eq_true, List.mem_range]
  constructor
  · rintro ⟨h1, h2⟩
    refine ⟨h1, fun i h h3 => ?_⟩
    have := h2 i h
    simpa [List.getD, h, h3] using this
  · rintro ⟨h1, h2⟩
    refine ⟨h1, fun i h => ?_⟩
    have := h2 i h (by omega)
    simpa [List.getD, h, show i < src.length by omega] using this
theorem invD_ok {d : Dt} (h : DtOk d) {l rk : List Int} (hr : ranksErr rk = 0) (hm : mapsM l rk d.ranks = true) : DtOk (invD d l rk) := by
  obtain ⟨h1, h2⟩ := mapsM_iff.1 hm
  refine ⟨hr, h.n, by simp [invD, h1], ?_, ?_⟩
  · intro s hs
    have hs' : s < rk.length := hs
    have hsl : s < l.length := by omega
    obtain ⟨h3, h4⟩ := h2 s hsl hs'
    have hg : (invD d l rk).to.getD s [] = d.to.getD l[s].toNat [] := by simp [invD, List.getD, hsl]
    rw [hg, h.w _ (by omega), h4]
    have : (invD d l rk).ranks.getD s 0 = rk[s] := by simp [invD, List.getD, hs']
    rw [this]; rfl
  · intro x hx q hq
    simp only [invD, List.mem_map] at hx
    obtain ⟨s, hs, rfl⟩ := hx
    cases hc : d.to[s.toNat]? with
    | none => simp [List.getD, hc] at hq
    | some y =>
      simp only [List.getD, hc, Option.getD_some] at hq
      exact h.e y (List.mem_of_getElem? hc) q hq
mutual
theorem Tr.relabel_deep {to : List Int} : ∀ (t u : Tr), Tr.relabel to t = some u → u.deep = t.deep
  | .node s ts, u, h => by
    simp only [Tr.relabel] at h
    split at h
    · cases hr : Tr.relabels to ts with
      | none => rw [hr] at h; simp at h
      | some us => rw [hr] at h; simp at h; subst h; simp only [Tr.deep, Tr.relabels_deep ts us hr]
    · cases h
theorem Tr.relabels_deep {to : List Int} : ∀ (ts us : List Tr), Tr.relabels to ts = some us → Tr.deeps us = Tr.deeps ts
  | [], us, h => by simp [Tr.relabels] at h; subst h; rfl
  | t :: r, us, h => by
    simp only [Tr.relabels] at h
    cases ht : Tr.relabel to t with
    | none => rw [ht] at h; cases h
    | some u =>
      rw [ht] at h
      cases hr : Tr.relabels to r with
      | none => rw [hr] at h; simp at h
      | some vs => rw [hr] at h; simp at h; subst h; simp only [Tr.deeps, Tr.relabel_deep t u ht, Tr.relabels_deep r vs hr]
end
mutual
/-- Relabeling a right tree: it is right again, and runs as its original does over the inverse image. -/
theorem Tr.relabel_run {d : Dt} {l rk : List Int} (hm : mapsM l rk d.ranks = true) : ∀ t : Tr, Tr.nodesErr rk t = 0 → ∃ u, Tr.relabel l t = some u ∧ Tr.nodesErr d.ranks u = 0 ∧ Tr.run d u = Tr.run (invD d l rk) t
  | .node s ts, h => by
    obtain ⟨h1, h2⟩ := mapsM_iff.1 hm
    obtain ⟨g1, g2, g3⟩ := Tr.nodesErr_zero.1 h
    obtain ⟨us, r1, r2, r3, r4⟩ := Tr.relabels_run hm ts g3
    have hsl : s.toNat < l.length := by omega
    obtain ⟨h3, h4⟩ := h2 s.toNat hsl (by omega)
    have hg : l.getD s.toNat 0 = l[s.toNat] := by simp [List.getD, hsl]
    refine ⟨.node l[s.toNat] us, ?_, ?_, ?_⟩
    · simp only [Tr.relabel]
      rw [if_pos ⟨g1.1, by omega⟩, r1, hg]; rfl
    · rw [Tr.nodesErr_zero]
      refine ⟨h3, ?_, r3⟩
      rw [h4, r4, g2]
      simp [List.getD, show s.toNat < rk.length by omega]
    · rw [Tr.run, Tr.run, r2]
      unfold atM
      have : (invD d l rk).to.getD s.toNat [] = d.to.getD l[s.toNat].toNat [] := by simp [invD, List.getD, hsl]
      rw [this]
      rfl
theorem Tr.relabels_run {d : Dt} {l rk : List Int} (hm : mapsM l rk d.ranks = true) : ∀ ts : List Tr, (∀ t ∈ ts, Tr.nodesErr rk t = 0) → ∃ us, Tr.relabels l ts = some us ∧ Tr.runs d us = Tr.runs (invD d l rk) ts ∧ (∀ u ∈ us, Tr.nodesErr d.ranks u = 0) ∧ us.length = ts.length
  | [], _ => ⟨[], rfl, rfl, by simp, rfl⟩
  | t :: r, h => by
    obtain ⟨u, h1, h2, h3⟩ := Tr.relabel_run hm t (h t (by simp))
    obtain ⟨us, g1, g2, g3, g4⟩ := Tr.relabels_run hm r (fun x hx => h x (by simp [hx]))
    refine ⟨u :: us, by simp only [Tr.relabels, h1, g1]; rfl, by simp only [Tr.runs, h3, g2], ?_, by simp [g4]⟩
    intro x hx
    rcases List.mem_cons.1 hx with rfl | hx
    · exact h2
    · exact g3 x hx
end
theorem inv_accepts {d : Dt} {l rk : List Int} {t : Tr} (hd : dtErr d = 0) (hr : ranksErr rk = 0) (hm : mapsM l rk d.ranks = true) (hv : validErr rk t = 0) : ∃ u, Tr.relabel l t = some u ∧ acceptsM (invD d l rk) t = acceptsM d u := by
  have hok := DtOk.of hd
  unfold validErr at hv
  rw [if_neg (by rw [hr]; simp)] at hv
  split at hv
  · cases hv
  · split at hv
    · cases hv
    · rename_i h1 h2
      obtain ⟨u, g1, g2, g3⟩ := Tr.relabel_run hm t hv
      refine ⟨u, g1, ?_⟩
      have hx := invD_ok hok hr hm
      have hv1 : validErr (invD d l rk).ranks t = 0 := by
        show validErr rk t = 0
        unfold validErr
        rw [if_neg (by rw [hr]; simp), if_neg h1, if_neg h2, hv]
      have hv2 : validErr d.ranks u = 0 := by
        unfold validErr
        rw [if_neg (by rw [hok.rk]; simp), Tr.relabel_size _ _ g1, Tr.relabel_deep _ _ g1, if_neg h1, if_neg h2, g2]
      unfold acceptsM
      rw [if_neg (by rw [hx.err]; simp), if_neg (by rw [hv1]; simp), if_neg (by rw [hd]; simp), if_neg (by rw [hv2]; simp), g3]
      rfl
theorem inv_ways (d : Dt) (l rk : List Int) : ∃ (E : Int) (X : Dt), invM d l rk = (E, X) ∧
    ((dtErr d ≠ 0 ∧ E = dtErr d ∧ X = ⟨[], [], []⟩) ∨ (dtErr d = 0 ∧ ranksErr rk ≠ 0 ∧ E = ranksErr rk ∧ X = ⟨[], [], []⟩) ∨ (dtErr d = 0 ∧ ranksErr rk = 0 ∧ mapsM l rk d.ranks = false ∧ E = 3 ∧ X = ⟨[], [], []⟩) ∨
      (dtErr d = 0 ∧ ranksErr rk = 0 ∧ mapsM l rk d.ranks = true ∧ E = 0 ∧ X = invD d l rk)) := by
  refine ⟨(invM d l rk).1, (invM d l rk).2, rfl, ?_⟩
  by_cases h0 : dtErr d = 0
  · by_cases h1 : ranksErr rk = 0
    · cases h2 : mapsM l rk d.ranks with
      | false =>
        have : invM d l rk = (3, ⟨[], [], []⟩) := by unfold invM; rw [if_neg (by omega), if_neg (by omega), if_pos h2]
        rw [this]; exact .inr (.inr (.inl ⟨h0, h1, rfl, rfl, rfl⟩))
      | true =>
        have : invM d l rk = (0, invD d l rk) := by unfold invM; rw [if_neg (by omega), if_neg (by omega), if_neg (by rw [h2]; simp)]
        rw [this]; exact .inr (.inr (.inr ⟨h0, h1, rfl, rfl, rfl⟩))
    · have : invM d l rk = (ranksErr rk, ⟨[], [], []⟩) := by unfold invM; rw [if_neg (by omega), if_pos h1]
      rw [this]; exact .inr (.inl ⟨h0, h1, rfl, rfl⟩)
  · have : invM d l rk = (dtErr d, ⟨[], [], []⟩) := by unfold invM; rw [if_pos h0]
    rw [this]; exact .inl ⟨h0, rfl, rfl⟩
end Pal
