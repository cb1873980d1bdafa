/-
  Appends to a slice that is full: a fresh row, published. Own work. No statement of the seat is proved here.
-/
import Derived.Test.YtdclodapkhgabaaGreatDoorPalV
namespace Pal
open Go
section rules
variable {P : Program} {n : Nat} {c : Cx} {Q : Exit → Act → World → Prop} {l : KL} {hl : HL} {H : View}
variable {ops : Array Oper} {rest : List Oper} {d : Nat} {v : Value} {op : Op} {ty : TypeId} {pos : String} {aft : Array Edge}

/-- A slice, its length no more than its room. -/
def SlC (H : View) (v : Value) (k : Nat) (cells : List Value) : Prop := SlAt H v k cells ∧ ∃ a cap, v = .slice a k cap ∧ k ≤ cap
theorem E_appendPub {x y : Operand} {t e : TypeId} {sz bytes k m : Nat} {a : Option Addr} {xs news : List Value} {u : Value} {p : HL} (hA : App P t e sz bytes) (hx : ev l x = some (.slice a k k)) (hxs : SlAt H (.slice a k k) k xs) (hxl : xs.length = k * sz)
    (hy : ev l y = some u) (hu : ((∃ a cp, u = .slice a m cp) ∧ m = 0 ∧ news = []) ∨ ∃ b off cp, u = .slice (some ⟨b, off, none⟩) m cp ∧ (At H b off news ∨ ∃ cs T fz, p = [blk b (.cells cs T fz)] ∧ off = 0 ∧ cs.toList.take news.length = news))
    (hl' : news.length = m * sz) (hb : (k + m) * bytes ≤ 140737488355328 ∧ k + m ≤ 140737488355328) :
    Eff P l H p (.call ⟨.builtin .append, #[x, y], #[t, t]⟩) ty fun v' H' q => q = [] ∧ SlC H' v' (k + m) (xs ++ news) := by
  intro ev' w hk ho
  obtain ⟨i, z, hi, hz, hs, hzs, hby⟩ := hA.i
  subst hs
  subst hby
  have hS : P.underlying t = some (.slice e) := hA.s
  have hu' : ((∃ a cp, u = .slice a m cp) ∧ m = 0 ∧ news = []) ∨ ∃ a cp, u = .slice (some a) m cp ∧ (∀ j u, news[j]? = some u → w.cell? (a.add j) = some u) := by
    rcases hu with h | ⟨b, off, cp, h, h2⟩
    · exact .inl h
    · refine .inr ⟨_, cp, h, ?_⟩
      rcases h2 with h2 | ⟨cs, T, fz, rfl, rfl, h3⟩
      · exact h2.cell ho.has
      · have hbk : w.heap[b]? = some (.cells cs T fz) := ho.own (blk b (.cells cs T fz)) (by simp)
        intro j u hj
        rw [addr_add]
        rw [← h3, List.getElem?_take] at hj
        split at hj
        · simpa [World.cell?, hbk] using hj
        · cases hj
  have ho0 : Ok ⟨w, H, feet p⟩ w H p := ho.ok
  by_cases hm : m = 0
  · subst hm
    have hn : news = [] := List.eq_nil_of_length_eq_zero (by simpa using hl')
    subst hn
    have hx' : ∃ a cp, u = .slice a 0 cp := by
      rcases hu' with ⟨h, _⟩ | ⟨a, cp, h, _⟩
      · exact h
      · exact ⟨some a, cp, h⟩
    obtain ⟨a', cp, rfl⟩ := hx'
    have hf : (Builtin.firstCells i.size 0 (.slice a' 0 cp)).run P w = .ok #[] w := by
      cases a' <;> simp [Builtin.firstCells, loadCells, loadCellsFrom]
    have hr : (ex ev' (.call ⟨.builtin .append, #[x, y], #[t, t]⟩) ty).run P w = .ok (.value (.slice a k k)) w := by
      simp only [ex, execOp, resolve, invoke, builtin]
      cases a <;> simp [hk x _ hx, hk y _ hy, Builtin.append_, run_underlying hS, Go.sizeOf, typeInfo, hi, Builtin.lenOf, hf, storeCells]
    rw [hr]
    exact ⟨H, [], ho0.sublist (List.nil_sublist p), rfl, by simpa using hxs, a, k, rfl, by omega⟩
  · obtain ⟨a', cp, rfl, hnews⟩ := hu'.resolve_left (fun h => hm h.2.1)
    have hge := grownCap_ge w (k + m) k e
    have h63 : ((k + m : Nat) : Int) ≤ 9223372036854775807 := by omega
    have key : ∀ o : Obj, ∀ cap, k + m ≤ cap → (∃ tl, o = .cells ((xs ++ news).toArray ++ tl) e) → ∃ H' q, Ok ⟨w, H, feet p⟩ (w.drew.alloc o) H' q ∧ q = [] ∧ SlC H' (.slice (some ⟨w.heap.size, 0, none⟩) (k + m) cap) (k + m) (xs ++ news) := by
      rintro o cap hcap ⟨tl, rfl⟩
      have h1 := (ho0.drew.alloc (.cells ((xs ++ news).toArray ++ tl) e)).perm (List.Perm.refl _)
      have hnew : w.drew.heap.size ∉ feet p := fun hm => Nat.lt_irrefl _ (ho.lt hm)
      have h2 := (h1.publish hnew).sublist (List.nil_sublist p)
      refine ⟨_, [], h2, rfl, ⟨_, cap, rfl, .inr ⟨w.heap.size, 0, rfl, _, e, _, vadd_self _ _ _, ?_⟩⟩, _, cap, rfl, hcap⟩
      intro j u hj
      have hjl : j < (xs ++ news).length := (List.getElem?_eq_some_iff.1 hj).1
      rw [Nat.zero_add, Array.getElem?_append_left (by simpa using hjl)]
      simpa using hj
    have hrun : ∃ o cap, k + m ≤ cap ∧ (∃ tl, o = Obj.cells ((xs ++ news).toArray ++ tl) e) ∧ (Builtin.append_ #[t, t] ty #[.slice a k k, .slice (some a') m cp]).run P w = .ok (.slice (some ⟨w.heap.size, 0, none⟩) (k + m) cap) (w.drew.alloc o) := by
      cases a with
      | none =>
        obtain ⟨a2, cap2, h1, h2⟩ := hxs
        cases h1
        rcases h2 with ⟨h2, h3⟩ | ⟨b, off, h2, _⟩
        · subst h2; subst h3
          have hr := run_append_nil (P := P) w t ty e i z hS hi hz a' m cp news hl' hnews (by omega) (by omega) (by have := hb.1; simp only [Nat.zero_add] at this; omega)
          refine ⟨_, grownCap w m 0 e, ?_, ⟨_, by simp only [List.nil_append]; rfl⟩, by simpa using hr⟩
          have := grownCap_ge w m 0 e
          omega
        · cases h2
      | some a0 =>
        obtain ⟨a2, cap2, h1, h2⟩ := hxs
        cases h1
        have holds : ∀ j v, xs[j]? = some v → w.cell? (a0.add j) = some v := by
          rcases h2 with ⟨_, h3⟩ | ⟨b, off, h2, h3⟩
          · subst h3; intro j v hj; simp at hj
          · cases h2; exact h3.cell ho.has
        have hr := run_append_grow (P := P) w t ty e i z hS hi hz a0 k k xs hxl holds a' m cp news hl' hnews (by omega) h63 (growslice_fits (by omega) hb.1)
        exact ⟨_, _, hge, ⟨Builtin.zeroCells z.cells (grownCap w (k + m) k e - (k + m)), by rw [← List.append_toArray]⟩, hr⟩
    obtain ⟨o, cap, hcap, ho', hr⟩ := hrun
    have hrun2 : (ex ev' (.call ⟨.builtin .append, #[x, y], #[t, t]⟩) ty).run P w = .ok (.value (.slice (some ⟨w.heap.size, 0, none⟩) (k + m) cap)) (w.drew.alloc o) := by
      simp [ex, execOp, resolve, invoke, builtin, hk x _ hx, hk y _ hy]
      rw [hr]; rfl
    rw [hrun2]
    exact key o cap hcap ho'
/-- The appended value is a literal that was just made. -/
theorem K_appendPub1 {x y : Operand} {t e : TypeId} {sz bytes k m : Nat} {a : Option Addr} {xs : List Value} {b : Nat} {cs : Array Value} {fz : Nat × Nat} {tl : HL} (hA : App P t e sz bytes) (hx : ev l x = some (.slice a k k)) (hxs : SlAt H (.slice a k k) k xs) (hxl : xs.length = k * sz)
    (hy : ev l y = some (slc m b)) (hhl : hl = blk b (.cells cs e fz) :: tl) (hcs : cs.toList.length = m * sz) (hb : (k + m) * bytes ≤ 140737488355328 ∧ k + m ≤ 140737488355328) (hdn : Nat.blt d n = true)
    (h : ∀ v' H', VLe H H' → SlC H' v' (k + m) (xs ++ cs.toList) → KO P n c ops Q rest ((d, v') :: l) tl H') :
    KO P n c ops Q (⟨some d, .call ⟨.builtin .append, #[x, y], #[t, t]⟩, ty, pos, aft, none⟩ :: rest) l hl H := by
  subst hhl
  refine KE [blk b (.cells cs e fz)] tl (List.Perm.refl _) (E_appendPub hA hx hxs hxl hy (.inr ⟨b, 0, _, rfl, .inr ⟨cs, e, fz, rfl, rfl, List.take_length⟩⟩) hcs hb) hdn ?_
  rintro v' H' q hle ⟨rfl, h2⟩
  exact h v' H' hle h2
theorem K_appendPubH {x y : Operand} {t e : TypeId} {sz bytes k m : Nat} {a : Option Addr} {xs news : List Value} {u : Value} (hA : App P t e sz bytes) (hx : ev l x = some (.slice a k k)) (hxs : SlAt H (.slice a k k) k xs) (hxl : xs.length = k * sz)
    (hy : ev l y = some u) (hu : SlAt H u m news) (hul : news.length = m * sz) (hb : (k + m) * bytes ≤ 140737488355328 ∧ k + m ≤ 140737488355328) (hdn : Nat.blt d n = true)
    (h : ∀ v' H', VLe H H' → SlC H' v' (k + m) (xs ++ news) → KO P n c ops Q rest ((d, v') :: l) hl H') :
    KO P n c ops Q (⟨some d, .call ⟨.builtin .append, #[x, y], #[t, t]⟩, ty, pos, aft, none⟩ :: rest) l hl H := by
  refine KE [] hl (List.Perm.refl _) (E_appendPub (p := []) hA hx hxs hxl hy ?_ hul hb) hdn ?_
  · obtain ⟨a', cap', rfl, h2⟩ := hu
    rcases h2 with ⟨rfl, rfl⟩ | ⟨b, off, rfl, h2⟩
    · exact .inl ⟨⟨a', cap', rfl⟩, rfl, rfl⟩
    · exact .inr ⟨b, off, cap', rfl, .inl h2⟩
  · rintro v' H' q hle ⟨rfl, h2⟩
    exact h v' H' hle h2
variable {ol : List Oper} {keep : HL} {fin : Bool} {T : ST} {R : List Nat} {i : Nat} {g : Option (Nat × Bool)}
theorem D_appendPub1 {x y : Operand} {t e : TypeId} {sz bytes k m : Nat} {a : Option Addr} {xs : List Value} {b : Nat} {cs : Array Value} {fz : Nat × Nat} {tl : HL} (hA : App P t e sz bytes)
    (hi : nthO ol i = some ⟨some d, .call ⟨.builtin .append, #[x, y], #[t, t]⟩, ty, pos, aft, g⟩) (hw : wlO ol l g = some true) (hx : ev l x = some (.slice a k k)) (hxs : SlAt H (.slice a k k) k xs) (hxl : xs.length = k * sz)
    (hy : ev l y = some (slc m b)) (hhl : hl = blk b (.cells cs e fz) :: tl) (hkp : memAll keep tl) (hcs : cs.toList.length = m * sz) (hb : (k + m) * bytes ≤ 140737488355328 ∧ k + m ≤ 140737488355328)
    (h : ∀ v' H', VLe H H' → SlC H' v' (k + m) (xs ++ cs.toList) → KD P n ol.toArray keep fin T R ((d, v') :: l) tl H') : KD P n ol.toArray keep fin T (i :: R) l hl H := by
  subst hhl
  refine D_eff [blk b (.cells cs e fz)] tl hi hw rfl (List.Perm.refl _) hkp.mem (E_appendPub hA hx hxs hxl hy (.inr ⟨b, 0, _, rfl, .inr ⟨cs, e, fz, rfl, rfl, List.take_length⟩⟩) hcs hb) ?_
  rintro v' H' q hle ⟨rfl, h2⟩
  exact h v' H' hle h2
/-! ### Publishing a block where something was handed over -/
theorem Ok.publishP {w : World} {b : Nat} {o : Obj} (h : Ok c w H (blk b o :: hl)) (hsub : ∀ x ∈ c.pass, x ∈ feet hl) : Ok c w (vadd H b o) hl := by
  refine h.publish fun hm => ?_
  have hnd := h.nd
  rw [feet_cons] at hnd
  simp only [blk, List.cons_append, List.nil_append, List.nodup_cons] at hnd
  exact hnd.1 (hsub b hm)
theorem KQ_pubblk {x : Exit} {b : Nat} {o : Obj} (hsub : ∀ x ∈ c.pass, x ∈ feet hl) (h : ∀ H', VLe H H' → H' b = some o → KQ n c Q x l hl H') : KQ n c Q x l (blk b o :: hl) H := by
  intro ρ w hm ho
  have h2 := Ok.publishP ho hsub
  have hle : VLe H (vadd H b o) := by
    intro k o' hk
    by_cases e : k = b
    · subst e
      have := (ho.foot k (by simp [feet, blk])).1
      rw [this] at hk; cases hk
    · simp [vadd, e, hk]
  exact h _ hle (vadd_self _ _ _) ρ w hm h2
theorem KQ_pubnew {x : Exit} {b : Nat} {o : Obj} (hnew : b ∉ c.pass) (h : ∀ H', VLe H H' → H' b = some o → KQ n c Q x l hl H') : KQ n c Q x l (blk b o :: hl) H := by
  intro ρ w hm ho
  have h2 := ho.publish hnew
  have hle : VLe H (vadd H b o) := by
    intro k o' hk
    by_cases e : k = b
    · subst e
      have := (ho.foot k (by simp [feet, blk])).1
      rw [this] at hk; cases hk
    · simp [vadd, e, hk]
  exact h _ hle (vadd_self _ _ _) ρ w hm h2
/-- A new block, known to be new. -/
theorem KAn {mk : Nat → Value} {o : Obj} (hv : AllocOk P l op ty mk o) (hdn : Nat.blt d n = true)
    (h : ∀ b, c.w0.heap.size ≤ b → KO P n c ops Q rest ((d, mk b) :: l) (blk b o :: hl) H) : KO P n c ops Q (⟨some d, op, ty, pos, aft, none⟩ :: rest) l hl H := by
  intro ρ w hm ho
  have hs := ho.size
  refine wpList_plain rfl fun K hK => upon_wp (R := fun u w' => u = mk w.heap.size ∧ w' = w.alloc o) ?_ ?_
  · simp only [hv _ w hm.knows, Upon, and_self]
  · rintro u w' ⟨rfl, rfl⟩
    simp only [fr_put]
    exact hK _ _ (h _ hs _ _ (hm.put hdn _) (ho.alloc o))
theorem enterP {f : FuncId} {fn : Func} {body : Code} {n : Nat} {args : List Value} {post : Value → View → HL → Prop}
    (hf : P.funcs[f]? = some fn) (hb : fn.body = some body) (hnt : fn.ntmps = n) (hn : Nat.ble args.length n = true)
    (h : ∀ w0, (∀ x ∈ feet hl, x < w0.heap.size) → KC P n ⟨w0, H, feet hl⟩ body (bodyPost P fn (RS ⟨w0, H, feet hl⟩ post)) (args0 0 args) hl H) :
    SatO P f args.toArray H hl post := by
  intro w hw
  have key : SatO P f args.toArray H hl post → SatO P f args.toArray H hl post := id
  subst hnt
  have hn' := Nat.ble_eq.mp hn
  refine calls_of_wp hf hb ?_
  have key : ({ tmps := args.toArray ++ Array.replicate (fn.ntmps - args.toArray.size) undef, defers := [] } : Act) = fr fn.ntmps fun t => args.getD t undef := by
    simp only [fr, Act.mk.injEq, and_true]
    apply Array.ext
    · simp; omega
    · intro i h1 h2
      simp at h1 h2
      rw [Array.getElem_append]
      by_cases hi : i < args.length
      · simp [hi]
      · simp [hi]
  rw [key]
  refine h w (fun x hx => hw.lt hx) _ w ?_ hw.ok
  intro t v hv
  obtain ⟨_, h2⟩ := look_args0 args 0 t v hv
  simp at h2
  have : t < args.length := (List.getElem?_eq_some_iff.1 h2).1
  exact ⟨by omega, by simp [h2]⟩
theorem At.of {b : Nat} {cs : Array Value} {T : TypeId} {fz : Nat × Nat} (h : H b = some (.cells cs T fz)) : At H b 0 cs.toList := ⟨cs, T, fz, h, fun j v hj => by simpa using hj⟩
end rules

section
variable {P : Program} {n : Nat} {c : Cx} {l : KL} {hl : HL} {H : View}
theorem results_sel {fn : Func} {hl' : HL} (is : List Nat) (hs : sel is hl = some hl') {rs : List ResultVar} {vs : List Value} (hfn : fn.results = rs.toArray) {post : Value → View → HL → Prop} (h : resOk P l hl rs vs) (hp : post (tupV vs) H hl') :
    KQ n c (bodyPost P fn (RS c post)) .ret l hl H := by
  intro ρ w hm ho
  exact ⟨rfl, tupV vs, resOk.results hfn hm ho.hasL h, _, H, hl', rfl, ho.sel hs, hp⟩
end
theorem SatO.mono' {P : Program} {f : FuncId} {args : Array Value} {H : View} {p : HL} {post post' : Value → View → HL → Prop} (h : SatO P f args H p post) (hp : ∀ v H' q, post v H' q → post' v H' q) : SatO P f args H p post' :=
  fun w hw => Calls.mono (h w hw) fun _ _ ⟨v, H', q, h1, h2, h3⟩ => ⟨v, H', q, h1, h2, hp _ _ _ h3⟩
/-! ### All tuples, in their order -/
def ext (k : Nat) : Nat → List Int → List (List Int)
  | 0, xs => [xs]
  | m + 1, xs => (List.range k).flatMap fun (i : Nat) => ext k m (xs ++ [(i : Int)])
def extTo (k m : Nat) (xs : List Int) (i : Nat) : List (List Int) := (List.range i).flatMap fun (j : Nat) => ext k m (xs ++ [(j : Int)])
theorem extTo_succ (k m : Nat) (xs : List Int) (i : Nat) : extTo k m xs (i + 1) = extTo k m xs i ++ ext k m (xs ++ [(i : Int)]) := by
  unfold extTo
  rw [List.range_succ, List.flatMap_append]
  simp
theorem extTo_prefix {k m : Nat} {xs : List Int} {i j : Nat} (h : i ≤ j) : extTo k m xs i <+: extTo k m xs j := by
  induction h with
  | refl => exact List.prefix_refl _
  | step _ ih => rw [extTo_succ]; exact ih.trans (List.prefix_append _ _)
/-- What the function owes that is shown all tuples. -/
def VisitOk (P : Program) (gf : Nat) (cap : List Value) (H0 : View) (T : List (List Int)) (E : List (List Int) → HL → Prop) (F : HL → Prop) : Prop :=
  ∀ H pre xs a len cp p, xs.length = len → VLe H0 H → E pre p → (pre ++ [xs]) <+: T → SI H (.slice a len cp) xs → len ≤ cp →
    SatO P gf ([] ++ [Value.slice a len cp] ++ cap).toArray H p (fun v _ q => ∃ r : Bool, v = .bool r ∧ (r = true → E (pre ++ [xs]) q) ∧ (r = false → F q))
theorem SlAt.recap {H : View} {a : Option Addr} {k cap : Nat} {cells : List Value} (h : SlAt H (.slice a k cap) k cells) (cap' : Nat) : SlAt H (.slice a k cap') k cells := by
  obtain ⟨a', c', h1, h2⟩ := h
  cases h1
  exact ⟨a, cap', rfl, h2⟩
theorem SI.snoc {H : View} {a : Option Addr} {cp : Nat} {xs : List Int} {i : Nat} (hx : ∀ x ∈ xs, i64ok x) (hi : i ≤ 1099511627776) (h : SlAt H (.slice a (xs.length + 1) cp) (xs.length + 1) (ints xs ++ [.int .i64 (i : Int)])) :
    SI H (.slice a (xs.length + 1) cp) (xs ++ [(i : Int)]) := by
  refine ⟨by simpa [ints] using h, ?_⟩
  intro x hx'
  rcases List.mem_append.1 hx' with h1 | h1
  · exact hx x h1
  · simp at h1; subst h1; simp only [i64ok]; omega
theorem ext_prefix {k m i : Nat} {xs : List Int} {pre T : List (List Int)} (hi : i < k) (h : pre ++ ext k (m + 1) xs <+: T) : pre ++ extTo k m xs i ++ ext k m (xs ++ [(i : Int)]) <+: T := by
  refine List.IsPrefix.trans ?_ h
  rw [List.append_assoc, ← extTo_succ]
  exact (List.prefix_append_right_inj pre).2 (extTo_prefix (j := k) hi)
end Pal
