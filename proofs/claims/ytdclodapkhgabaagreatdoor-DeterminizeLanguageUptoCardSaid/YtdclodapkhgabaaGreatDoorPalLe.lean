/-
  Owned blocks lent to the view for one call; sorted rows. Own work. No statement of the seat is proved here.
-/
import Derived.Test.YtdclodapkhgabaaGreatDoorPalMp
import Derived.Shelf.SlSortCmp.NoneTotal
import Derived.Shelf.SlicesE.Compact
namespace Pal
open Go
/-- What is owned is shown for one call that only reads it. -/
theorem SatO.lend {P : Program} {f : FuncId} {args : Array Value} {H : View} {hl : HL} (p : HL) {post : Value → HL → Prop}
    (h : ∀ H2, VLe H H2 → (∀ e ∈ p, e.holds H2) → SatO P f args H2 hl (fun v _ q => post v q)) : SatO P f args H (hl ++ p) (fun v H' q => H' = H ∧ ∃ q', q = q' ++ p ∧ post v q') := by
  intro w hw
  have hnd := hw.nd
  rw [feet_append, List.nodup_append] at hnd
  obtain ⟨nd1, nd2, ndx⟩ := hnd
  let H2 : View := fun b => if b ∈ feet p then w.heap[b]? else H b
  have hHn : ∀ b ∈ feet p, H b = none := fun b hb => hw.foot b (by rw [feet_append]; exact List.mem_append_right _ hb)
  have hle : VLe H H2 := by
    intro b o ho
    have : b ∉ feet p := fun hm => by rw [hHn b hm] at ho; cases ho
    simp only [H2, this, if_false]; exact ho
  have hown : ∀ e ∈ p, e.holds H2 := by
    intro e he
    refine e.loc _ _ (fun b hb => ?_) (hw.own e (List.mem_append_right _ he))
    have : b ∈ feet p := mem_feet.2 ⟨e, he, hb⟩
    simp only [H2, this, if_true]; rfl
  have hw2 : Has w H2 hl := by
    refine ⟨fun b o hb => ?_, fun e he => hw.own e (List.mem_append_left _ he), fun b hb => ?_, nd1⟩
    · by_cases hm : b ∈ feet p
      · simpa only [H2, hm, if_true] using hb
      · simp only [H2, hm, if_false] at hb; exact hw.has b o hb
    · have hm : b ∉ feet p := fun hm => ndx b hb b hm rfl
      simp only [H2, hm, if_false]
      exact hw.foot b (by rw [feet_append]; exact List.mem_append_left _ hb)
  refine Calls.mono (h H2 hle hown w hw2) ?_
  rintro e w' ⟨v, H', q, rfl, k, hpost⟩
  have hlt : ∀ b ∈ feet p, b < w.heap.size := fun b hb => hw.lt (by rw [feet_append]; exact List.mem_append_right _ hb)
  have hsame : ∀ b ∈ feet p, w'.heap[b]? = w.heap[b]? := fun b hb => k.old b (hlt b hb) (fun hm => ndx b hm b hb rfl)
  have hsome : ∀ b ∈ feet p, ∃ o, H' b = some o := by
    intro b hb
    have hb2 : H2 b = w.heap[b]? := by simp only [H2, hb, if_true]
    have := Array.getElem?_eq_getElem (hlt b hb)
    exact ⟨_, k.le b _ (by show H2 b = _; rw [hb2, this])⟩
  refine ⟨v, H, q ++ p, rfl, ⟨k.os, k.tape, k.output, k.drawn, k.size, ?_, fun _ _ _ => rfl, fun _ _ h => h, ?_, ?_, ?_, ?_⟩, rfl, q, rfl, hpost⟩
  · intro b hb hp
    exact k.old b hb (fun hm => hp (by show b ∈ feet (hl ++ p); rw [feet_append]; exact List.mem_append_left _ hm))
  · intro b o hb
    exact k.has b o (k.le b o (hle b o hb))
  · intro e he
    rcases List.mem_append.1 he with he | he
    · exact k.own e he
    · exact e.loc _ _ (fun b hb => hsame b (mem_feet.2 ⟨e, he, hb⟩)) (hw.own e (List.mem_append_right _ he))
  · intro b hb
    rw [feet_append] at hb
    show H b = none ∧ (w.heap.size ≤ b ∨ b ∈ feet (hl ++ p))
    rcases List.mem_append.1 hb with hb | hb
    · obtain ⟨h2, h3⟩ := k.foot b hb
      refine ⟨?_, ?_⟩
      · cases hH : H b with
        | none => rfl
        | some o => have := k.le b o (hle b o hH); rw [h2] at this; cases this
      · rcases h3 with h3 | h3
        · exact .inl h3
        · exact .inr (by rw [feet_append]; exact List.mem_append_left _ h3)
    · exact ⟨hHn b hb, .inr (by rw [feet_append]; exact List.mem_append_right _ hb)⟩
  · rw [feet_append, List.nodup_append]
    refine ⟨k.nd, nd2, ?_⟩
    intro b hb b' hb' e
    subst e
    obtain ⟨o, ho⟩ := hsome b hb'
    rw [(k.foot b hb).1] at ho; cases ho
theorem row_view {v : Value} {e : TypeId} {sz k : Nat} {xs : List Value} {H : View} (h : (row v e sz k xs).holds H) : rowAt H v k xs ∧ ∃ a cap, v = .slice a k cap ∧ k ≤ cap := by
  obtain ⟨h1, h2⟩ := h
  rcases h2 with ⟨rfl, rfl⟩ | ⟨g, cap, cur, rfl, hg, hk, hc, hs, ht⟩
  · exact ⟨.inl ⟨rfl, rfl, List.eq_nil_of_length_eq_zero (by simpa using h1)⟩, none, 0, rfl, Nat.le_refl _⟩
  · refine ⟨.inr ⟨g, cap, rfl, cur, e, _, hg, fun j u hj => ?_⟩, _, _, rfl, hk⟩
    rw [← ht, List.getElem?_take] at hj
    split at hj
    · simpa using hj
    · cases hj

/-! ### A row, sorted in place -/
theorem putRow_at {α : Type} [Inhabited α] {enc : α → Value} {w : World} {b : Nat} {d : Array α} {cur : Array Value} {e : TypeId} {fz : Nat × Nat} (hb : w.heap[b]? = some (.cells cur e fz)) :
    (Sort.putRow enc w b 0 d).heap[b]? = some (.cells (Sort.putCells enc 0 d cur) e fz) ∧ (∀ k, k ≠ b → (Sort.putRow enc w b 0 d).heap[k]? = w.heap[k]?) ∧ (Sort.putRow enc w b 0 d).heap.size = w.heap.size := by
  unfold Sort.putRow Sort.mapBlock
  refine ⟨?_, fun k hk => ?_, ?_⟩
  · simp [Array.getElem?_modify, hb, Sort.onCells]
  · have : b ≠ k := fun e => hk e.symm
    simp [Array.getElem?_modify, this]
  · simp
theorem putCells_take {α : Type} [Inhabited α] {enc : α → Value} {d : Array α} {cur : Array Value} (h : d.size ≤ cur.size) : (Sort.putCells enc 0 d cur).toList.take d.size = d.toList.map enc ∧ (Sort.putCells enc 0 d cur).size = cur.size := by
  refine ⟨?_, by simp [Sort.putCells]⟩
  apply List.ext_getElem?
  intro i
  rw [List.getElem?_take, List.getElem?_map]
  by_cases hi : i < d.size
  · have h2 : i < cur.size := by omega
    simp [hi, Sort.putCells, h2]
  · simp [hi]
theorem ok_sorted {α : Type} [Inhabited α] {enc : α → Value} {w : World} {H : View} {g k cap sz n : Nat} {cur : Array Value} {e : TypeId} {d : Array α} {os : Array Obj} {xs : List Value} (hw : Has w H [row (.slice (some ⟨g, 0, none⟩) k cap) e sz k xs])
    (hg : w.heap[g]? = some (.cells cur e (0, 0))) (hk : k ≤ cap) (hc : cap ≤ maxLen) (hs : cur.size = cap * sz) (hd : d.size = k * sz) :
    Ok ⟨w, H, feet [row (.slice (some ⟨g, 0, none⟩) k cap) e sz k xs]⟩ (Sort.grow (Sort.putRow enc (Sort.ahead w n) g 0 d) os) H [row (.slice (some ⟨g, 0, none⟩) k cap) e sz k (d.toList.map enc)] := by
  have hle : d.size ≤ cur.size := by rw [hd, hs]; exact Nat.mul_le_mul_right _ hk
  obtain ⟨p1, p2, p3⟩ := putRow_at (enc := enc) (w := Sort.ahead w n) (d := d) hg
  have hlt : g < w.heap.size := lt_of_heap hg
  have hsz : w.heap.size ≤ (Sort.grow (Sort.putRow enc (Sort.ahead w n) g 0 d) os).heap.size := by
    rw [Sort.size_grow, p3]; exact Nat.le_add_right _ _
  refine ok1 hw rfl rfl rfl (Nat.le_add_right _ _) hsz ?_ ?_ (fun b hb => .inl hb) (by simp [row, rowFoot])
  · intro j hj hn
    have hne : j ≠ g := fun e => hn (by subst e; simp [row, rowFoot])
    rw [Sort.heap_grow_old _ _ (by rw [p3]; exact hj), p2 j hne]; rfl
  · obtain ⟨t1, t2⟩ := putCells_take (enc := enc) hle
    refine ⟨by simp [hd], .inr ⟨g, cap, _, rfl, ?_, hk, hc, by rw [t2, hs], by rw [← hd]; exact t1⟩⟩
    show (Sort.grow _ os).heap[g]? = _
    rw [Sort.heap_grow_old _ _ (by rw [p3]; exact hlt), p1]
theorem holds_of_row {α : Type} [Inhabited α] {enc : α → Value} {w : World} {g : Nat} {cur : Array Value} {e : TypeId} {d : Array α} (hg : w.heap[g]? = some (.cells cur e (0, 0))) (hc : cur.toList.take d.size = d.toList.map enc) : Sort.Holds enc w g 0 d := by
  intro j hj
  have h1 : (cur.toList.take d.size)[j]? = (d.toList.map enc)[j]? := by rw [hc]
  rw [List.getElem?_take, if_pos hj, List.getElem?_map] at h1
  refine ⟨?_, ?_⟩
  · simp only [World.cell?, hg, Nat.zero_add]
    have : (d[j]!) = d[j] := getElem!_pos d j hj
    rw [this]
    simpa [hj] using h1
  · simp [World.frozen?, hg]
/-! ### slices.SortFunc at rules -/
/-- A rule and its slice's value. -/
def RVok (H : View) (p : Rl × Value) : Prop := SI H p.2 p.1.args ∧ p.1.args.length ≤ 1099511627776 ∧ i64ok p.1.sym ∧ i64ok p.1.to
theorem RVok.mono {H H' : View} {p : Rl × Value} (h : RVok H p) (hle : VLe H H') : RVok H' p := ⟨h.1.mono hle, h.2⟩
def cellRV (p : Rl × Value) : List Value := [.int .i64 p.1.sym, p.2, .int .i64 p.1.to]
def cellsP (ps : List (Rl × Value)) : List Value := ps.flatMap cellRV
theorem cellsP_len (ps : List (Rl × Value)) : (cellsP ps).length = ps.length * 3 := by
  induction ps with
  | nil => rfl
  | cons p ps ih => simp only [cellsP, List.flatMap_cons, List.length_append] at *; rw [ih]; simp [cellRV]; omega
theorem flatK_toList {α : Type} [Inhabited α] {enc : α → List Value} {k : Nat} (hk : ∀ x, (enc x).length = k) (d : Array α) : (Go.Sort.flatK enc k d).toList = d.toList.flatMap enc := by
  have hlen : ∀ l : List α, (l.flatMap enc).length = l.length * k := by
    intro l
    induction l with
    | nil => simp
    | cons a l ih => simp only [List.flatMap_cons, List.length_append, ih, hk, List.length_cons, Nat.succ_mul]; omega
  have hget : ∀ (l : List α) (t : Nat), t < l.length * k → ∀ (a : α), l[t / k]? = some a → (l.flatMap enc)[t]? = (enc a)[t % k]? := by
    intro l
    induction l with
    | nil => intro t h; simp at h
    | cons b l ih =>
      intro t h a ha
      rw [List.flatMap_cons, List.getElem?_append, hk]
      by_cases ht : t < k
      · rw [if_pos ht]
        rw [Nat.div_eq_of_lt ht] at ha
        simp at ha
        rw [Nat.mod_eq_of_lt ht, ha]
      · rw [if_neg ht]
        have h0 : 0 < k := by
          rcases Nat.eq_zero_or_pos k with e | e
          · subst e; simp at h
          · exact e
        have e1 : t / k = (t - k) / k + 1 := by rw [Nat.div_eq_sub_div h0 (by omega)]
        have e2 : t % k = (t - k) % k := by rw [Nat.mod_eq_sub_mod (by omega)]
        rw [e1] at ha
        rw [e2]
        refine ih (t - k) (by simp only [List.length_cons, Nat.succ_mul] at h; omega) a (by simpa using ha)
  apply List.ext_getElem?
  intro t
  by_cases ht : t < d.size * k
  · have h0 : 0 < k := by
      rcases Nat.eq_zero_or_pos k with e | e
      · subst e; simp at ht
      · exact e
    have hq : t / k < d.size := by rw [Nat.div_lt_iff_lt_mul h0]; exact ht
    rw [hget d.toList t (by simpa using ht) d[t / k] (by simp [hq])]
    have hs : t < (Go.Sort.flatK enc k d).size := by rw [Go.Sort.size_flatK]; exact ht
    have hg := Go.Sort.get_flatK enc k d t ht
    rw [getElem!_pos _ t hs] at hg
    rw [Array.getElem?_toList, Array.getElem?_eq_getElem hs, hg, getElem!_pos d _ hq]
    have hm : t % k < (enc d[t / k]).length := by rw [hk]; exact Nat.mod_lt _ h0
    rw [getElem!_pos (enc d[t / k]) (t % k) hm, List.getElem?_eq_getElem hm]
  · rw [List.getElem?_eq_none (by simp [Go.Sort.size_flatK]; omega), List.getElem?_eq_none (by rw [hlen]; simp; omega)]
section
variable {P : Program} {ρ : Go.Shelf.Ren}
open Go.Proofs Go.Shelf Go.Sort
theorem sortRules (L : SlLaysF0.n6 P ρ) (aE : ∀ w, (isAgg (ρ.t 24)).run P w = .ok true w) (zE : ∀ w, (Go.sizeOf (ρ.t 24)).run P w = .ok 3 w) (g : Nat) (hg : callable P g = true) (H : View) (e : TypeId)
    (hord : ∀ (r s : Rl) (v u : Value), RVok H (r, v) → RVok H (s, u) → Sat P g #[.agg #[.int .i64 r.sym, v, .int .i64 r.to], .agg #[.int .i64 s.sym, u, .int .i64 s.to]] H (fun x _ => x = .int .i64 (ordR r s)))
    (ps : List (Rl × Value)) (hps : ∀ p ∈ ps, RVok H p) (v : Value) (hlen : ps.length < 4611686018427387904) :
    SatO P (ρ.f 6) #[v, .func (.func g) #[] #[]] H [row v e 3 ps.length (cellsP ps)] (fun r H' q => r = .tuple #[] ∧ H' = H ∧ ∃ ps', ps'.Perm ps ∧ ps'.Pairwise (fun x y => ¬ ltR y.1 x.1) ∧ q = [row v e 3 ps'.length (cellsP ps')]) := by
  intro w hw
  obtain ⟨hl1, hrow⟩ := hw.own _ (List.mem_cons_self ..)
  rcases hrow with ⟨rfl, h0⟩ | ⟨gb, cap, cur, rfl, hgb, hk, hc, hs, ht⟩
  · have hnil : ps = [] := List.eq_nil_of_length_eq_zero h0
    subst hnil
    refine Calls.mono (AnyF.slices_SortFunc_none L none 0 _ w) ?_
    rintro e w' ⟨rfl, rfl⟩
    exact ⟨_, H, _, rfl, hw.ok, rfl, rfl, [], List.Perm.refl _, List.Pairwise.nil, rfl⟩
  · let A := { p : Rl × Value // RVok H p }
    let enc : A → List Value := fun x => cellRV x.1
    have dflt : RVok H (⟨0, [], 0⟩, nilS) := ⟨⟨⟨none, 0, rfl, .inl ⟨rfl, rfl⟩⟩, fun x hx => by cases hx⟩, by simp, (by unfold i64ok; decide), (by unfold i64ok; decide)⟩
    haveI : Inhabited A := ⟨⟨_, dflt⟩⟩
    let d : Array A := (ps.attach.map fun p => (⟨p.1, hps p.1 p.2⟩ : A)).toArray
    have hdl : d.toList.map (·.1) = ps := by simp only [d, List.map_map, Function.comp_def]; exact List.attach_map_subtype_val ps
    have hds : d.size = ps.length := by simp [d]
    let cf : A → A → Int := fun x y => ordR x.1.1 y.1.1
    have hencl : ∀ x : A, (enc x).length = 3 := fun x => rfl
    have hfl : ∀ l : List A, l.flatMap enc = cellsP (l.map (·.1)) := by
      intro l
      simp only [cellsP, List.flatMap_map]
      rfl
    have hlt : ∀ x y : A, ltOf cf x y = true ↔ ltR x.1.1 y.1.1 := fun x y => by simp [ltOf, cf, ltR]
    have hO : SWO (ltOf cf) := by
      refine ⟨fun x => ?_, fun x y z h1 h2 => ?_, fun x y z h1 h2 => ?_⟩
      · cases h : ltOf cf x x with
        | false => rfl
        | true => exact absurd ((hlt x x).1 h) (ltR_irr _)
      · exact (hlt x z).2 (ltR_trans _ _ _ ((hlt x y).1 h1) ((hlt y z).1 h2))
      · cases h : ltOf cf x z with
        | false => rfl
        | true =>
          have n1 : ¬ ltR x.1.1 y.1.1 := fun hh => by rw [(hlt x y).2 hh] at h1; cases h1
          have n2 : ¬ ltR y.1.1 z.1.1 := fun hh => by rw [(hlt y z).2 hh] at h2; cases h2
          exact absurd (ltR_htr _ _ _ ((hlt x z).1 h) n2) n1
    have hblk : gb < w.heap.size := lt_of_heap hgb
    have hFl : (Go.Sort.flatK enc 3 d).toList = cellsP ps := by rw [flatK_toList hencl, hfl, hdl]
    have hH : HoldsK enc 3 w gb 0 d := by
      refine holds_of_row hgb ?_
      rw [Go.Sort.size_flatK, hds, ht, hFl]; simp
    have hold : ∀ (w2 : World), (∀ b o, H b = some o → w2.heap[b]? = some o) → Has w2 H [] := fun w2 h => ⟨h, fun _ he => (by cases he), fun _ hb => (by simp [feet] at hb), by simp [feet]⟩
    have hHgb : H gb = none := hw.foot gb (by simp [feet, row, rowFoot])
    have hcmp : CmpLays P g #[] enc 3 cf gb 0 d.size w := by
      intro m os dk hdk x y
      have hs2 : dk.size = d.size := hdk
      obtain ⟨p1, p2, p3⟩ := putRow_at (enc := id) (w := Sort.ahead w m) (d := Go.Sort.flatK enc 3 dk) hgb
      have hhas : ∀ b o, H b = some o → (sortWorldK enc 3 w gb 0 m dk os).heap[b]? = some o := by
        intro b o hb
        have hne : b ≠ gb := fun e => by subst e; rw [hHgb] at hb; cases hb
        have h1 := hw.has b o hb
        show (Sort.grow (Sort.putRow id (Sort.ahead w m) gb 0 _) os).heap[b]? = _
        rw [Sort.heap_grow_old _ _ (by rw [p3]; exact lt_of_heap h1), p2 b hne]; exact h1
      have hcall := hord x.1.1 y.1.1 x.1.2 y.1.2 x.2 y.2 _ (hold _ hhas)
      refine Calls.mono hcall ?_
      rintro e w' ⟨v, H', q, rfl, hok, rfl⟩
      refine ⟨rfl, w'.drawn - (sortWorldK enc 3 w gb 0 m dk os).drawn, w'.heap.extract (sortWorldK enc 3 w gb 0 m dk os).heap.size w'.heap.size, ?_⟩
      generalize sortWorldK enc 3 w gb 0 m dk os = W at hok ⊢
      have e1 : w'.heap = W.heap ++ w'.heap.extract W.heap.size w'.heap.size := by
        apply Array.ext_getElem?
        intro k
        rw [Array.getElem?_append]
        have hsz := hok.size
        dsimp only at hsz
        by_cases hk : k < W.heap.size
        · rw [if_pos hk]; exact hok.old k hk (by simp [feet])
        · rw [if_neg hk, Array.getElem?_extract]
          have : Nat.min w'.heap.size w'.heap.size = w'.heap.size := Nat.min_self _
          by_cases hk2 : k < w'.heap.size
          · rw [if_pos (by omega)]; congr 1; omega
          · rw [if_neg (by omega), Array.getElem?_eq_none (by omega)]
      have e2 := hok.os
      have e3 := hok.tape
      have e4 := hok.output
      have e5 := hok.drawn
      dsimp only at e2 e3 e4 e5
      unfold Sort.grow World.drewN
      cases w'
      cases W
      simp only at e1 e2 e3 e4 e5 ⊢
      subst e2 e3 e4
      simp only [World.mk.injEq, true_and, and_true]
      exact ⟨e1, by omega⟩
    have hrun := AnyQ.slices_SortFunc (α := A) L 3 aE zE enc hencl (fun x u hu => by
      obtain ⟨a, cp, he⟩ := x.2.1.shape
      simp only [enc, cellRV, List.mem_cons, List.not_mem_nil, or_false] at hu
      rcases hu with rfl | rfl | rfl
      · rfl
      · rw [he]; rfl
      · rfl) cf hO g #[] gb 0 cap d w (callable.run hg) hcmp hH hblk (by omega)
    rw [hds] at hrun
    refine Calls.mono hrun ?_
    rintro e w' ⟨rfl, d', n, os, hperm, hsort, rfl⟩
    obtain ⟨hsz, _, hpm⟩ := hperm
    have hext : ∀ (x : Array A), x.size = ps.length → x.extract 0 ps.length = x := by
      intro x hx; rw [← hx]; exact Array.extract_size
    rw [hext d' (hsz.trans hds), hext d hds] at hpm
    have hF' : (Go.Sort.flatK enc 3 d').toList = cellsP (d'.toList.map (·.1)) := by rw [flatK_toList hencl, hfl]
    have hlen' : (d'.toList.map (·.1)).length = ps.length := by simp [hsz, hds]
    refine ⟨_, H, _, rfl, ok_sorted (enc := id) (d := Go.Sort.flatK enc 3 d') (n := n) (os := os) hw hgb hk hc hs (by rw [Go.Sort.size_flatK, hsz, hds]), rfl, rfl, d'.toList.map (·.1), ?_, ?_, ?_⟩
    · rw [← hdl]; exact hpm.map _
    · rw [List.pairwise_map, List.pairwise_iff_getElem]
      intro i j hi hj hij hlt2
      have hi2 : i < d'.size := by simpa using hi
      have hj2 : j < d'.size := by simpa using hj
      have hq := hsort i j (Nat.zero_le _) hij (by rw [← hds, ← hsz]; exact hj2)
      rw [getElem!_pos d' j hj2, getElem!_pos d' i hi2] at hq
      rw [(hlt _ _).2 (by simpa using hlt2)] at hq
      cases hq
    · rw [hlen', List.map_id, hF']
end
end Pal
