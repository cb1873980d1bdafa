/-
  From the claims' reading of arguments to what the walks know: trees, slices of ints, the table; and the claims' end. Own work. No statement of the seat is proved here.
-/
import Derived.Test.YtdclodapkhgabaaGreatDoorPalO
import Derived.ChangeArms
import Derived.ChangeSame
import Derived.WideKeyArgs
import Derived.Lib.LaidTab
namespace Pal
open Go Go.ChangeShapes Go.WideShapes Go.RowKit
section
variable {H : Type} {enc : TypeId × Value → H} {P : Program} {w : World} {sp : Nat → Bool} {held : Bool}

theorem mapM_get {α β : Type} {f : α → Option β} : ∀ {l : List α} {r : List β}, l.mapM f = some r → l.length = r.length ∧ ∀ (i : Nat) (a : α), l[i]? = some a → f a = r[i]?
  | [], r, h => by simp at h; subst h; exact ⟨rfl, fun i a ha => by simp at ha⟩
  | x :: l, r, h => by
    simp only [List.mapM_cons, Option.bind_eq_bind, Option.bind_eq_some_iff, Option.pure_def, Option.some.injEq] at h
    obtain ⟨y, hy, ys, hys, rfl⟩ := h
    obtain ⟨h1, h2⟩ := mapM_get hys
    refine ⟨by simp [h1], fun i a ha => ?_⟩
    cases i with
    | zero => simp at ha; subst ha; simpa using hy
    | succ i => simp at ha; simpa using h2 i a ha
theorem cells_at {a : Addr} {n : Nat} {cs : List Value} (hn : 0 < n) (h : w.cells? 0 a n = some cs) : a = ⟨a.block, a.off, none⟩ ∧ cs.length = n ∧ At (heapOf w) a.block a.off cs := by
  unfold World.cells? at h
  rw [if_pos (Nat.zero_le _)] at h
  obtain ⟨h1, h2⟩ := mapM_get h
  have hlen : cs.length = n := by simpa using h1.symm
  have hget : ∀ i, i < n → w.cell? (a.add i) = cs[i]? := fun i hi => h2 i i (by simp [hi])
  obtain ⟨b, off, spot⟩ := a
  have h0 := hget 0 hn
  have hsome : ∃ v, cs[0]? = some v := ⟨cs[0], by simp⟩
  obtain ⟨v0, hv0⟩ := hsome
  have h0' : w.cell? ⟨b, off, spot⟩ = some v0 := by rw [← hv0]; simpa [Addr.add] using h0
  unfold World.cell? at h0'
  simp only at h0'
  split at h0'
  · rename_i c T fz hb
    cases spot with
    | some s => simp at h0'
    | none =>
      refine ⟨rfl, hlen, c, T, fz, hb, fun j v hj => ?_⟩
      have hjn : j < n := by rw [← hlen]; exact (List.getElem?_eq_some_iff.1 hj).1
      have := hget j hjn
      rw [addr_add, hj] at this
      simpa [World.cell?, hb] using this
  · cases h0'
theorem i64_of_wf {n : Int} (h : (Lit.int .i64 n).wf = true) : i64ok n := by
  simp [Lit.wf, IntKind.min, IntKind.max, IntKind.bits, IntKind.signed] at h
  simp only [i64ok]
  omega
theorem read_int {t : TypeId} {fuel : Nat} {cs : List Value} {x : DataW H × List MemPlace} (ht : P.underlying t = some (.int .i64)) (h : DataW.trod enc P w 0 sp held fuel t cs = some x) : ∃ n, cs = [.int .i64 n] ∧ i64ok n := by
  obtain ⟨n, h1, _, h3⟩ := DataW.trod_int ht h
  exact ⟨n, h1, i64_of_wf h3⟩
/-- A slice whose elements have sz cells. -/
theorem read_slice {t e : TypeId} {sz fuel : Nat} {cs : List Value} {x : DataW H × List MemPlace} (ht : P.underlying t = some (.slice e)) (hce : P.cellsOf e = sz) (hsz : 0 < sz) (h : DataW.trod enc P w 0 sp held fuel t cs = some x) :
    ∃ (a : Option Addr) (len cap b off : Nat) (elems rest : List (DataW H × List MemPlace)) (rc : Nat → List Value), cs = [.slice a len cap] ∧ elems.length = len ∧ (0 < len → a = some ⟨b, off, none⟩) ∧
      (x.1 = .nil ∧ len = 0 ∨ x.1 = .slice (elems.map (·.1)) (rest.map (·.1))) ∧
      ∀ i (hi : i < elems.length), (rc i).length = sz ∧ At (heapOf w) b (off + i * sz) (rc i) ∧ ∃ m, m < fuel ∧ DataW.trod enc P w 0 sp held m e (rc i) = some elems[i] := by
  subst hce
  rcases DataW.trod_slice ht h with ⟨rfl, rfl⟩ | ⟨a, len, cap, elems, rest, n, rfl, rfl, rfl, _, _, _, hlen, hel, _⟩
  · exact ⟨none, 0, 0, 0, 0, [], [], fun _ => [], rfl, rfl, fun h => absurd h (Nat.lt_irrefl _), .inl ⟨rfl, rfl⟩, fun i hi => absurd hi (Nat.not_lt_zero _)⟩
  · have hget : ∀ i (hi : i < elems.length), ∃ ci, w.cells? 0 (a.add (i * P.cellsOf e)) (P.cellsOf e) = some ci ∧ DataW.trod enc P w 0 sp held n e ci = some elems[i] := by
      intro i hi
      have := hel i (hlen ▸ hi)
      rw [List.getElem?_eq_getElem hi] at this
      exact Option.bind_eq_some_iff.1 this
    have hspot : 0 < len → a = ⟨a.block, a.off, none⟩ := by
      intro h0
      obtain ⟨ci, h1, _⟩ := hget 0 (hlen ▸ h0)
      have := (cells_at hsz h1).1
      simpa [Addr.add] using this
    refine ⟨some a, len, cap, a.block, a.off, elems, rest, fun i => (w.cells? 0 (a.add (i * P.cellsOf e)) (P.cellsOf e)).getD [], rfl, hlen, fun h0 => congrArg some (hspot h0), .inr rfl, fun i hi => ?_⟩
    obtain ⟨ci, h1, h2⟩ := hget i hi
    have ha := hspot (by omega)
    simp only [h1, Option.getD_some]
    obtain ⟨_, h4, h5⟩ := cells_at hsz h1
    rw [ha, addr_add] at h5
    exact ⟨h4, h5, n, Nat.lt_succ_self n, h2⟩
theorem At.join {Hv : View} {b off sz : Nat} : ∀ {n : Nat} {rc : Nat → List Value}, 0 < sz → 0 < n → (∀ i, i < n → (rc i).length = sz ∧ At Hv b (off + i * sz) (rc i)) → At Hv b off ((List.range n).flatMap rc) := by
  intro n rc hsz hn h
  obtain ⟨h1, cs, T, fz, hb, h2⟩ := h 0 hn
  refine ⟨cs, T, fz, hb, ?_⟩
  clear h2 h1
  induction n with
  | zero => omega
  | succ n ih =>
    intro j v hj
    rw [List.range_succ, List.flatMap_append] at hj
    have hl : ∀ m, m ≤ n + 1 → ((List.range m).flatMap rc).length = m * sz := by
      intro m hm
      induction m with
      | zero => simp
      | succ m ihm =>
        rw [List.range_succ, List.flatMap_append, List.length_append, ihm (by omega)]
        simp [(h m (by omega)).1, Nat.add_mul]
    have hln := hl n (by omega)
    by_cases hjn : j < n * sz
    · rw [List.getElem?_append_left (by omega)] at hj
      rcases Nat.eq_zero_or_pos n with e | e
      · subst e; simp at hjn
      · exact ih e (fun i hi => h i (by omega)) j v hj
    · rw [List.getElem?_append_right (by omega), hln] at hj
      obtain ⟨_, cs2, T2, fz2, hb2, h4⟩ := h n (by omega)
      rw [hb] at hb2
      cases hb2
      have := h4 (j - n * sz) v (by simpa using hj)
      rw [show off + n * sz + (j - n * sz) = off + j by omega] at this
      exact this
/-- A slice of ints. -/
theorem read_ints {t e : TypeId} {fuel : Nat} {cs : List Value} {x : DataW H × List MemPlace} (ht : P.underlying t = some (.slice e)) (he : P.underlying e = some (.int .i64)) (hce : P.cellsOf e = 1) (h : DataW.trod enc P w 0 sp held fuel t cs = some x) :
    ∃ v xs, cs = [v] ∧ SI (heapOf w) v xs ∧ (xs = [] ∨ ∃ es rs, x.1 = .slice es rs ∧ es.length = xs.length) := by
  obtain ⟨a, len, cap, b, off, elems, rest, rc, rfl, hlen, ha, hx, hel⟩ := read_slice ht hce (by decide) h
  have hint : ∀ i (hi : i < elems.length), ∃ n, rc i = [.int .i64 n] ∧ i64ok n := by
    intro i hi
    obtain ⟨_, _, m, _, h3⟩ := hel i hi
    exact read_int he h3
  let f : Nat → Int := fun i => match rc i with | [.int .i64 n] => n | _ => 0
  have hf : ∀ i, i < elems.length → rc i = [.int .i64 (f i)] ∧ i64ok (f i) := by
    intro i hi
    obtain ⟨n, h1, h2⟩ := hint i hi
    simp only [f, h1]
    exact ⟨trivial, h2⟩
  refine ⟨_, (List.range len).map f, rfl, ⟨⟨a, cap, by simp, ?_⟩, ?_⟩, ?_⟩
  · rcases Nat.eq_zero_or_pos len with h0 | h0
    · subst h0; exact .inl ⟨by simp, by simp [ints]⟩
    · refine .inr ⟨b, off, ha h0, ?_⟩
      have hj := At.join (Hv := heapOf w) (b := b) (off := off) (sz := 1) (n := len) (rc := rc) (by decide) h0 (fun i hi => ⟨(hel i (by omega)).1, (hel i (by omega)).2.1⟩)
      have e1 : (List.range len).flatMap rc = ints ((List.range len).map f) := by
        unfold ints
        rw [List.map_map]
        have : ∀ (l : List Nat), (∀ i ∈ l, i < len) → l.flatMap rc = l.map ((fun x => Value.int .i64 x) ∘ f) := by
          intro l hl
          induction l with
          | nil => rfl
          | cons y l ih =>
            rw [List.flatMap_cons, List.map_cons, ih (fun i hi => hl i (by simp [hi])), (hf y (by have := hl y (by simp); omega)).1]
            rfl
        exact this _ (fun i hi => List.mem_range.1 hi)
      rw [← e1]; exact hj
  · intro y hy
    obtain ⟨i, hi, rfl⟩ := List.mem_map.1 hy
    exact (hf i (by have := List.mem_range.1 hi; omega)).2
  · rcases hx with ⟨_, h0⟩ | hx
    · exact .inl (by simp [h0])
    · exact .inr ⟨_, _, hx, by simp [hlen]⟩
/-- What a measure of readings owes (the rows' own 'uptoBulk'). -/
structure Bulk (f : DataW H → Nat) (g : List (DataW H) → Nat) : Prop where
  agg : ∀ ps, f (.agg ps) = g ps + 1
  sl : ∀ es rs, f (.slice es rs) = g es + g rs + 1
  nil : g [] = 0
  cons : ∀ d r, g (d :: r) = f d + g r
structure TreeT (P : Program) (t tl ti : TypeId) : Prop where
  u : ∃ f1 f2 : Field, P.underlying t = some (.struct #[f1, f2]) ∧ (f1.type = ti ∧ f1.offset = 0) ∧ (f2.type = tl ∧ f2.offset = 1)
  ul : P.underlying tl = some (.slice t)
  ui : P.underlying ti = some (.int .i64)
  ct : P.cellsOf t = 2
  cl : P.cellsOf tl = 1
  ci : P.cellsOf ti = 1
theorem Bulk.sizes {f : DataW H → Nat} {g : List (DataW H) → Nat} (hB : Bulk f g) : ∀ {ts : List Tr} {es : List (DataW H × List MemPlace)}, ts.length = es.length → (∀ i (h : i < ts.length) (h2 : i < es.length), ts[i].size ≤ f es[i].1) → Tr.sizes ts ≤ g (es.map (·.1))
  | [], [], _, _ => by simp [Tr.sizes]
  | t :: ts, e :: es, hl, h => by
    have h0 := h 0 (by simp) (by simp)
    have ih := Bulk.sizes hB (ts := ts) (es := es) (by simpa using hl) (fun i h1 h2 => h (i + 1) (Nat.succ_lt_succ h1) (Nat.succ_lt_succ h2))
    simp only [List.getElem_cons_zero] at h0
    simp only [Tr.sizes, List.map_cons, hB.cons]
    omega
  | [], _ :: _, hl, _ => by simp at hl
  | _ :: _, [], hl, _ => by simp at hl
theorem read_tree {t tl ti : TypeId} (hT : TreeT P t tl ti) {f : DataW H → Nat} {g : List (DataW H) → Nat} (hB : Bulk f g) : ∀ (fuel : Nat) (cs : List Value) (x : DataW H × List MemPlace), DataW.trod enc P w 0 sp held fuel t cs = some x → ∃ u, RepT (heapOf w) u cs ∧ u.size ≤ f x.1 := by
  obtain ⟨f1, f2, hu, ⟨t1, o1⟩, ⟨t2, o2⟩⟩ := hT.u
  intro fuel
  induction fuel using Nat.strongRecOn with
  | _ fuel ih =>
    intro cs x h
    obtain ⟨xs, n, rfl, rfl, hcl, hxl, hxs⟩ := DataW.trod_struct hu h
    rw [hT.ct] at hcl
    obtain ⟨c0, c1, rfl⟩ : ∃ c0 c1, cs = [c0, c1] := by
      match cs, hcl with
      | [a, b], _ => exact ⟨a, b, rfl⟩
    obtain ⟨y0, y1, rfl⟩ : ∃ y0 y1, xs = [y0, y1] := by
      match xs, hxl with
      | [a, b], _ => exact ⟨a, b, rfl⟩
    have h0 := hxs 0 f1 rfl
    have h1 := hxs 1 f2 rfl
    rw [t1, o1, hT.ci] at h0
    rw [t2, o2, hT.cl] at h1
    obtain ⟨s, e0, hs⟩ := read_int hT.ui h0
    obtain ⟨a, len, cap, b, off, elems, rest, rc, e1, hlen, ha, hx, hel⟩ := read_slice hT.ul hT.ct (by decide) h1
    have e0' : c0 = .int .i64 s := by simpa using e0
    have e1' : c1 = .slice a len cap := by simpa using e1
    subst e0'
    subst e1'
    have hsub : ∀ i (hi : i < elems.length), ∃ u, RepT (heapOf w) u (rc i) ∧ u.size ≤ f elems[i].1 := by
      intro i hi
      obtain ⟨_, _, m, hm, h3⟩ := hel i hi
      exact ih m (by omega) _ _ h3
    let T : Nat → Tr := fun i => if h : i < elems.length then Classical.choose (hsub i h) else .node 0 []
    have hTs : ∀ i (hi : i < elems.length), RepT (heapOf w) (T i) (rc i) ∧ (T i).size ≤ f elems[i].1 := by
      intro i hi
      simp only [T, hi, dif_pos]
      exact Classical.choose_spec (hsub i hi)
    have htl : ((List.range len).map T).length = len := by simp
    have hsz : Tr.sizes ((List.range len).map T) ≤ g (elems.map (·.1)) := by
      refine hB.sizes (by simp [hlen]) fun i h1 h2 => ?_
      simpa using (hTs i h2).2
    refine ⟨.node s ((List.range len).map T), ?_, ?_⟩
    · have hm := RepT.mk (H := heapOf w) s ((List.range len).map T) a cap b off rc hs (fun hne => ha (by
          rcases Nat.eq_zero_or_pos len with e | e
          · subst e; exact absurd rfl hne
          · exact e)) (fun i hi => ⟨(hel i (by omega)).1, (hel i (by omega)).2.1⟩) (fun i hi => by
          have := (hTs i (by omega)).1
          simpa using this)
      rw [htl] at hm
      exact hm
    · simp only [Tr.size, List.map_cons, List.map_nil, hB.agg, hB.cons, hB.nil]
      rcases hx with ⟨_, h0⟩ | hx
      · subst h0; simp [Tr.sizes]
      · rw [hx, hB.sl]; omega
/-- The table of the row's list. -/
theorem tab_of {name : String} (h : Lib.TabIs P w name .u8 (bruijn.map fun (k : Nat) => (k : Int))) (hg : P.globalNamed name = some 0) : Tab (heapOf w) := by
  have hc : ∀ i, i < 64 → w.cell? ⟨0, i, none⟩ = some (.int .u8 ((bruijn.getD i 0 : Nat) : Int)) := by
    intro i hi
    have := h.cell hg i (by simpa [bruijn] using hi)
    rw [this]
    congr 2
    have hl : i < bruijn.length := by simpa [bruijn] using hi
    simp [List.getD, hl]
  have h0 := hc 0 (by decide)
  unfold World.cell? at h0
  split at h0
  · rename_i c T fz hb
    refine ⟨c, T, fz, hb, fun j v hj => ?_⟩
    have hjl : j < 64 := by
      have := (List.getElem?_eq_some_iff.1 hj).1
      simpa [bruijn] using this
    have h1 := hc j hjl
    have hl : j < bruijn.length := by simpa [bruijn] using hjl
    simp only [World.cell?, hb] at h1
    simp at h1
    rw [Nat.zero_add]
    simp [hl] at hj
    rw [← hj]
    simpa [List.getD, hl] using h1
  · cases h0
/-- Arguments read behind a call as they read before, where no old block was turned. -/
theorem trodAll_stays {W W' : World} (hl : laidOutB P = true) (hsame : ∀ b, b < W.heap.size → W'.heap[b]? = W.heap[b]?) {sp' : Nat → Bool} : ∀ {ts : List TypeId} {vs : List Value} {ds : List (DataW H)} {ps : List MemPlace},
    (∀ t ∈ ts, P.readableRec t = true ∧ t < P.types.size) → DataW.TrodAll enc P W 0 (fun _ => true) true ts vs ds ps → (∀ p ∈ ps, p.block < W.heap.size) → (∀ p ∈ ps, sp' p.block = true) → DataW.TrodAll enc P W' 0 sp' true ts vs ds ps
  | [], [], [], _, _, h, _, _ => h
  | t :: ts, v :: vs, d :: ds, ps, ht, h, hlt, hsp => by
    obtain ⟨p, q, h1, h2, rfl⟩ := h
    obtain ⟨hr, hrow⟩ := ht t (by simp)
    refine ⟨p, q, WideElems.Trod_stays hl hr hrow h1 (fun x hx => ?_) (fun x hx => hsp x (List.mem_append_left _ hx)), trodAll_stays hl hsame (fun t ht' => ht t (by simp [ht'])) h2 (fun x hx => hlt x (List.mem_append_right _ hx)) (fun x hx => hsp x (List.mem_append_right _ hx)), rfl⟩
    have hb := hlt x (List.mem_append_left _ hx)
    cases x with
    | cell b off =>
      have := hsame b hb
      simp [World.sameAt, World.cell?, this]
    | map b => exact hsame b hb
  | [], _ :: _, _, _, _, h, _, _ => by simp [DataW.TrodAll] at h
  | [], [], _ :: _, _, _, h, _, _ => by simp [DataW.TrodAll] at h
  | _ :: _, [], _, _, _, h, _, _ => by simp [DataW.TrodAll] at h
  | _ :: _, _ :: _, [], _, _, h, _, _ => by simp [DataW.TrodAll] at h
/-- 'It returns true; the input reads as it did.' -/
theorem true_post {fn : Func} {s : ChangeSpec} {apart fresh handsOn again : Bool} {W W' : World} {args : Array Value} {ds gs : List (DataW H)} {before : List MemPlace} {tb : TypeId} {Hv Hv' : View} {hl' : HL}
    (hl : laidOutB P = true) (hpar : ∀ t ∈ fn.params.toList, P.readableRec t = true ∧ t < P.types.size) (hrt : fn.resultTypes = #[tb]) (hu : P.underlying tb = some .bool) (hvs : s.vars = [])
    (hfn : s.fn H ds = { results := [.lit (.bool true)], args := ds }) (hW : DataW.Whole enc P fn.params.toList s.vars apart W args.toList ds gs before) (hok : Ok ⟨W, Hv, []⟩ W' Hv' hl') :
    s.post enc P fn apart fresh handsOn again W args (.bool true) W' := by
  have hsame : ∀ b, b < W.heap.size → W'.heap[b]? = W.heap[b]? := fun b hb => hok.old b hb (by simp)
  have hlt := hW.lt
  obtain ⟨pa, pv, hA, hV, hps, hz, hn⟩ := id hW
  rw [hvs] at hV
  obtain ⟨hgs, hpv⟩ := trodVars_none hV
  subst hgs
  subst hpv
  rw [List.append_nil] at hps
  subst hps
  have hfn' : s.fn H (ds ++ []) = { results := [.lit (.bool true)], args := ds } := by rw [List.append_nil]; exact hfn
  have hres : ∀ (b : Nat) (sp : Nat → Bool) (hd : Bool), DataW.TrodAll enc P W' b sp hd fn.resultTypes.toList ((Value.bool true).resultList fn.resultTypes.size) (s.fn H (ds ++ [])).results [] := by
    intro b sp hd
    rw [hfn', hrt]
    exact trodAll_mk1 ⟨1, by simp [DataW.trod, Value.cells, hu]⟩
  have hargs : ∀ sp : Nat → Bool, (∀ p ∈ before, sp p.block = true) → DataW.TrodAll enc P W' 0 sp true fn.params.toList args.toList (s.fn H (ds ++ [])).args before := by
    intro sp hsp
    rw [hfn']
    exact trodAll_stays hl hsame hpar hA hlt hsp
  have hvars : ∀ sp : Nat → Bool, DataW.TrodVars enc P W' sp s.vars (s.fn H (ds ++ [])).vars [] := by
    intro sp
    rw [hfn', hvs]
    rfl
  have hk : ∀ may : MemPlace → Prop, W.keptBut W' may := by
    intro may
    refine ⟨hok.os, hok.output, fun i hi => ?_⟩
    rw [hsame i hi]
    cases hw : W.heap[i]? with
    | none => rfl
    | some o => cases o <;> simp
  have hold : ∀ p ∈ before, (fun b => decide (b < W.heap.size)) p.block = true := fun p hp => by simpa using hlt p hp
  have hfz : ∀ b off, MemPlace.cell b off ∈ before → W'.frozen? ⟨b, off, none⟩ = false := by
    intro b off hp
    rw [← hz b off hp]
    simp [World.frozen?, hsame b (hlt _ hp)]
  refine ⟨ds, [], before, [], before, [], hW, hres _ _ _, hargs _ hold, hvars _, hk _, fun _ => ⟨ok_one hrt rfl (okWide_bool_mk hu true), _, _, ([] ++ before) ++ [], ⟨[] ++ before, [], trodAll_append (hargs _ (fun _ _ => rfl)) (hres _ _ _), hvars _, rfl, ?_, ?_⟩, ?_⟩⟩
  · intro b off hp
    exact hfz b off (by simpa using hp)
  · intro ha
    have := hn ha
    simpa using this
  · intro p hp _
    simpa using hp
end
end Pal
