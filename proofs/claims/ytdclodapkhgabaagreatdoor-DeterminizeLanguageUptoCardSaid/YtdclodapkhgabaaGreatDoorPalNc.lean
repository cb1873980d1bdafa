/-
  Numbers of package bignat in the heap; choices of the comparison. Own work. No statement of the seat is proved here.
-/
import Derived.Test.YtdclodapkhgabaaGreatDoorPalNb
namespace Pal
open Go
def words (ws : List Nat) : List Value := ws.map fun (w : Nat) => Value.int .u32 (w : Int)
def UW (H : View) (v : Value) (ws : List Nat) : Prop := SlAt H v ws.length (words ws) ∧ WordsOk ws
theorem UW.mono {H H' : View} {v : Value} {ws : List Nat} (h : UW H v ws) (hle : VLe H H') : UW H' v ws := ⟨h.1.mono hle, h.2⟩
theorem UW.shape {H : View} {v : Value} {ws : List Nat} (h : UW H v ws) : ∃ a cap, v = .slice a ws.length cap := by
  obtain ⟨⟨a, cap, h1, _⟩, _⟩ := h
  exact ⟨a, cap, h1⟩
theorem UW.get {H : View} {a : Option Addr} {k cap : Nat} {ws : List Nat} (h : UW H (.slice a k cap) ws) {i : Nat} (hi : i < ws.length) : ∃ b off, a = some ⟨b, off, none⟩ ∧ At H b (off + i * 1) [.int .u32 (ws[i] : Int)] := by
  obtain ⟨⟨a', c', h1, h2⟩, _⟩ := h
  cases h1
  rcases h2 with ⟨h2, _⟩ | ⟨b, off, rfl, h2⟩
  · omega
  · have := h2.one (j := i) (v := .int .u32 (ws[i] : Int)) (by simp [words, hi])
    exact ⟨b, off, rfl, by simpa using this⟩
theorem words_snoc (ws : List Nat) (w : Nat) : words (ws ++ [w]) = words ws ++ [.int .u32 (w : Int)] := by simp [words]
theorem words_one (ws : List Nat) : (words ws).all Value.oneCell' = true := by
  induction ws with
  | nil => rfl
  | cons x r ih => exact ih
/-- A number. -/
def RepN (H : View) (v : Value) (n : Nat) : Prop := ∃ ws, Canon ws ∧ valW ws = n ∧ UW H v ws
theorem RepN.mono {H H' : View} {v : Value} {n : Nat} (h : RepN H v n) (hle : VLe H H') : RepN H' v n := by
  obtain ⟨ws, h1, h2, h3⟩ := h
  exact ⟨ws, h1, h2, h3.mono hle⟩
theorem RepN.zero (H : View) : RepN H (.slice none 0 0) 0 := ⟨[], ⟨(fun w hw => by cases hw), by simp⟩, rfl, ⟨none, 0, rfl, .inl ⟨rfl, rfl⟩⟩, (fun w hw => by cases hw)⟩
/-- The order of rules. -/
def ordR (r s : Rl) : Int := if r.sym < s.sym then -1 else if s.sym < r.sym then 1 else if cmpL r.args s.args ≠ 0 then cmpL r.args s.args else if r.to < s.to then -1 else if s.to < r.to then 1 else 0
theorem ordR_eq {r s : Rl} : ordR r s = 0 ↔ r = s := by
  unfold ordR
  obtain ⟨a, b, c⟩ := r
  obtain ⟨d, e, f⟩ := s
  simp only [Rl.mk.injEq]
  constructor
  · intro h
    split at h
    · cases h
    · split at h
      · cases h
      · split at h
        · rename_i h3; exact absurd h h3
        · rename_i h1 h2 h3
          split at h
          · cases h
          · split at h
            · cases h
            · rename_i h4 h5
              exact ⟨by omega, cmpL_eq.1 (Decidable.not_not.1 h3), by omega⟩
  · rintro ⟨rfl, rfl, rfl⟩
    simp [cmpL_self]
section
variable {P : Program} {l : KL} {ty : TypeId}
/-- make([]T, 0, k). -/
theorem A_makeSlice0 {t e : TypeId} {x y : Operand} {z : Value} {k sz bytes : Nat} {agg : Bool} (hA : App P t e sz bytes) (hz : zeroOk P e z) (_hT : Ty P e agg sz) (hx : ev l x = some (.int .i64 0)) (hy : ev l y = some (.int .i64 (k : Int)))
    (hb : bytes * k ≤ 281474976710656) (hk : k ≤ 9223372036854775807) : AllocOk P l (.makeSlice t x y) ty (fun b => .slice (some ⟨b, 0, none⟩) 0 k) (.cells (madeCells z.cells (k * sz)) e) := by
  obtain ⟨i, z', hi, hz', hsz, _, hbt⟩ := hA.i
  obtain ⟨i2, hi2, hz2⟩ := hz
  rw [hi] at hi2; cases hi2
  intro e w hkn
  have hS : P.underlying t = some (.slice _) := hA.s
  have hb' : (i.bytes : Int) * (k : Int) ≤ 281474976710656 := by
    rw [hbt]
    have h : ((bytes * k : Nat) : Int) ≤ 281474976710656 := by omega
    rwa [Int.natCast_mul] at h
  have h := run_make (P := P) w t _ i z hS hi hz2 .i64 .i64 (0 : Int) (k : Int) (by omega) (by omega) hb' (by omega)
  simp only [Int.toNat_natCast, Int.toNat_zero, hsz] at h
  simp only [ex, execOp, hkn x _ hx, hkn y _ hy, Sem.run_bind, h, Result.andThen_ok, Sem.run_pure]
end
section
variable {P : Program} {n : Nat} {c : Cx} {Q : Exit → Act → World → Prop} {l : KL} {H : View} {ops : Array Oper} {rest : List Oper}
/-- A made block of length 0 is a row. -/
theorem Ok.rowMade {w : World} {b cap sz : Nat} {e : TypeId} {cur : Array Value} {r : HL} (hs : cur.size = cap * sz) (hc : cap ≤ maxLen) (h : Ok c w H (blk b (.cells cur e (0, 0)) :: r)) : Ok c w H (row (.slice (some ⟨b, 0, none⟩) 0 cap) e sz 0 [] :: r) := by
  have hb : w.heap[b]? = some (.cells cur e (0, 0)) := h.own _ List.mem_cons_self
  refine ⟨h.os, h.tape, h.output, h.drawn, h.size, h.old, h.vold, h.le, h.has, ?_, fun k hk => h.foot k (by simpa [feet, row, rowFoot, blk] using hk), by simpa [feet, row, rowFoot, blk] using h.nd⟩
  intro en hen
  rcases List.mem_cons.1 hen with rfl | hen
  · exact ⟨by simp, .inr ⟨b, cap, cur, rfl, hb, Nat.zero_le _, hc, hs, by simp⟩⟩
  · exact h.own en (List.mem_cons_of_mem _ hen)
theorem KO_rowMade {b cap sz : Nat} {e : TypeId} {cur : Array Value} {r : HL} (hs : cur.size = cap * sz) (hc : cap ≤ maxLen) (h : KO P n c ops Q rest l (row (.slice (some ⟨b, 0, none⟩) 0 cap) e sz 0 [] :: r) H) : KO P n c ops Q rest l (blk b (.cells cur e (0, 0)) :: r) H :=
  fun ρ w hm ho => h ρ w hm (ho.rowMade hs hc)
theorem KQ_rowMade {x : Exit} {b cap sz : Nat} {e : TypeId} {cur : Array Value} {r : HL} (hs : cur.size = cap * sz) (hc : cap ≤ maxLen) (h : KQ n c Q x l (row (.slice (some ⟨b, 0, none⟩) 0 cap) e sz 0 [] :: r) H) : KQ n c Q x l (blk b (.cells cur e (0, 0)) :: r) H :=
  fun ρ w hm ho => h ρ w hm (ho.rowMade hs hc)
end
/-! ### Words one by one, with a carry -/
def joinF (f : Nat → Nat → Nat × Nat) : Nat → List Nat × Nat
  | 0 => ([], 0)
  | n + 1 => ((joinF f n).1 ++ [(f n (joinF f n).2).1], (f n (joinF f n).2).2)
def joinW (f : Nat → Nat → Nat × Nat) (n : Nat) : List Nat := if 0 < (joinF f n).2 then (joinF f n).1 ++ [(joinF f n).2] else (joinF f n).1
theorem joinF_len (f : Nat → Nat → Nat × Nat) : ∀ n, (joinF f n).1.length = n
  | 0 => rfl
  | n + 1 => by simp [joinF, joinF_len f n]
theorem joinF_ok {f : Nat → Nat → Nat × Nat} {m : Nat} (hf : ∀ i c, c ≤ m → (f i c).1 < 4294967296 ∧ (f i c).2 ≤ m) : ∀ n, WordsOk (joinF f n).1 ∧ (joinF f n).2 ≤ m
  | 0 => ⟨fun w hw => by simp [joinF] at hw, Nat.zero_le _⟩
  | n + 1 => by
    obtain ⟨h1, h2⟩ := joinF_ok hf n
    obtain ⟨h3, h4⟩ := hf n _ h2
    refine ⟨fun w hw => ?_, h4⟩
    rcases List.mem_append.1 hw with hw | hw
    · exact h1 w hw
    · simp at hw; subst hw; exact h3
def addF (xs ys : List Nat) (i c : Nat) : Nat × Nat := ((xs.getD i 0 + ys.getD i 0 + c) % 4294967296, (xs.getD i 0 + ys.getD i 0 + c) / 2 ^ 32)
theorem addF_val (xs ys : List Nat) : ∀ n, valW (joinF (addF xs ys) n).1 + 4294967296 ^ n * (joinF (addF xs ys) n).2 = valN xs n + valN ys n
  | 0 => by simp [joinF, valW, valN]
  | n + 1 => by
    have ih := addF_val xs ys n
    rw [valN_succ, valN_succ]
    simp only [joinF]
    rw [valW_snoc, joinF_len]
    generalize (joinF (addF xs ys) n).2 = c at ih ⊢
    simp only [addF]
    generalize xs.getD n 0 = x
    generalize ys.getD n 0 = y
    have h1 : (x + y + c) % 4294967296 + 4294967296 * ((x + y + c) / 2 ^ 32) = x + y + c := by omega
    have h2 : 4294967296 ^ n * ((x + y + c) % 4294967296) + 4294967296 ^ (n + 1) * ((x + y + c) / 2 ^ 32) = 4294967296 ^ n * (x + y + c) := by
      rw [Nat.pow_succ, Nat.mul_assoc, ← Nat.mul_add, h1]
    have h3 : 4294967296 ^ n * (x + y + c) = 4294967296 ^ n * x + 4294967296 ^ n * y + 4294967296 ^ n * c := by rw [Nat.mul_add, Nat.mul_add]
    omega
theorem joinW_val (xs ys : List Nat) (n : Nat) (hx : xs.length ≤ n) (hy : ys.length ≤ n) : valW (joinW (addF xs ys) n) = valW xs + valW ys := by
  have h := addF_val xs ys n
  rw [valN_all hx, valN_all hy] at h
  unfold joinW
  split
  · rw [valW_snoc, joinF_len]; exact h
  · have h0 : (joinF (addF xs ys) n).2 = 0 := by omega
    rw [h0] at h; simpa using h
end Pal
