/-
  Part of the proof: contracts of the functions that the statements reach. Own work. No statement of the seat is proved here.
-/
import Derived.Test.YtbelekbnjiajaaaDoorPalYF
import Derived.Test.YtbelekbnjiajaaaDoorProg
namespace Go.Proofs.X
open Go Pal Go.Proofs
attribute [local irreducible] Pal.KO Pal.KC Pal.KQ Pal.KD
theorem c2 : callable Tryd.prog 2 = true := by kernel_rfl
theorem ap47 : App Tryd.prog 47 3 1 8 := .of sl47 (by kernel_rfl)
theorem clone47_spec (xs : List Int) (v : Value) (H : View) (hv : SI H v xs) (hl : xs.length ≤ 1099511627776) : Sat Tryd.prog 45 #[v] H (fun w H' => SI H' w xs) := by
  obtain ⟨a, cp, rfl⟩ := hv.shape
  refine enterO (n := 8) (args := [.slice a xs.length cp]) Tryd.func45 rfl rfl rfl fun w0 => ?_
  refine K_seq ?_
  refine K_region ?_
  refine KV (R_assign rfl) rfl ?_
  refine K_nil ?_
  refine Q_then ?_
  refine K_seq ?_
  refine K_seq ?_
  refine K_region ?_
  refine KV (R_move rfl) rfl ?_
  refine KV (R_sliceNil sl47 rfl rfl) rfl ?_
  refine K_nil ?_
  refine Q_then ?_
  cases a with
  | none =>
    obtain ⟨a2, c2, h2, h3⟩ := hv.1
    cases h2
    have hx0 : xs = [] := by
      rcases h3 with ⟨h3, _⟩ | ⟨b, off, h3, _⟩
      · exact List.eq_nil_of_length_eq_zero h3
      · cases h3
    subst hx0
    refine K_ifT rfl ?_
    refine K_seq ?_
    refine K_region ?_
    refine KV (R_assign rfl) rfl ?_
    refine K_nil ?_
    refine Q_then ?_
    refine K_ret ?_
    refine Q_then_ret ?_
    refine results_gen (rs := [.tmp 2]) (vs := [_]) rfl ⟨rfl, trivial⟩ ?_
    exact ⟨⟨none, 0, rfl, .inl ⟨rfl, rfl⟩⟩, by simp⟩
  | some aa =>
    refine K_ifF rfl ?_
    refine K_skip ?_
    refine Q_then ?_
    refine K_seq ?_
    refine K_region ?_
    refine KA (A_buildSlice (vs := []) sl47 ty3 z3 rfl rfl (by simp) (by simp) rfl (by decide)) rfl fun b5 => ?_
    refine KV (R_move rfl) rfl ?_
    refine K_appendPubH (k := 0) (xs := []) ap47 rfl ⟨_, 0, rfl, .inl ⟨rfl, rfl⟩⟩ rfl rfl hv.1 (by simp [ints]) ⟨by omega, by omega⟩ rfl fun v7 V1 hle1 hv7 => ?_
    refine KV (R_assign rfl) rfl ?_
    refine K_nil ?_
    refine Q_then ?_
    refine K_ret ?_
    refine results_gen (rs := [.tmp 2]) (vs := [_]) rfl ⟨rfl, trivial⟩ ?_
    refine ⟨?_, hv.2⟩
    have h7 := hv7.1
    rw [Nat.zero_add, List.nil_append] at h7
    exact h7

theorem clone25_spec (xs : List Int) (v : Value) (H : View) (hv : SI H v xs) (hl : xs.length ≤ 1099511627776) : Sat Tryd.prog 65 #[v] H (fun w H' => SI H' w xs) := by
  obtain ⟨a, cp, rfl⟩ := hv.shape
  refine enterO (n := 8) (args := [.slice a xs.length cp]) Tryd.func65 rfl rfl rfl fun w0 => ?_
  refine K_seq ?_
  refine K_region ?_
  refine KV (R_assign rfl) rfl ?_
  refine K_nil ?_
  refine Q_then ?_
  refine K_seq ?_
  refine K_seq ?_
  refine K_region ?_
  refine KV (R_move rfl) rfl ?_
  refine KV (R_sliceNil sl25 rfl rfl) rfl ?_
  refine K_nil ?_
  refine Q_then ?_
  cases a with
  | none =>
    obtain ⟨a2, c2, h2, h3⟩ := hv.1
    cases h2
    have hx0 : xs = [] := by
      rcases h3 with ⟨h3, _⟩ | ⟨b, off, h3, _⟩
      · exact List.eq_nil_of_length_eq_zero h3
      · cases h3
    subst hx0
    refine K_ifT rfl ?_
    refine K_seq ?_
    refine K_region ?_
    refine KV (R_assign rfl) rfl ?_
    refine K_nil ?_
    refine Q_then ?_
    refine K_ret ?_
    refine Q_then_ret ?_
    refine results_gen (rs := [.tmp 2]) (vs := [_]) rfl ⟨rfl, trivial⟩ ?_
    exact ⟨⟨none, 0, rfl, .inl ⟨rfl, rfl⟩⟩, by simp⟩
  | some aa =>
    refine K_ifF rfl ?_
    refine K_skip ?_
    refine Q_then ?_
    refine K_seq ?_
    refine K_region ?_
    refine KA (A_buildSlice (vs := []) sl25 ty3 z3 rfl rfl (by simp) (by simp) rfl (by decide)) rfl fun b5 => ?_
    refine KV (R_move rfl) rfl ?_
    refine K_appendPubH (k := 0) (xs := []) ap25 rfl ⟨_, 0, rfl, .inl ⟨rfl, rfl⟩⟩ rfl rfl hv.1 (by simp [ints]) ⟨by omega, by omega⟩ rfl fun v7 V1 hle1 hv7 => ?_
    refine KV (R_assign rfl) rfl ?_
    refine K_nil ?_
    refine Q_then ?_
    refine K_ret ?_
    refine results_gen (rs := [.tmp 2]) (vs := [_]) rfl ⟨rfl, trivial⟩ ?_
    refine ⟨?_, hv.2⟩
    have h7 := hv7.1
    rw [Nat.zero_add, List.nil_append] at h7
    exact h7

theorem outc_spec (a : Au) (st : DS) (limit : Int) (sym : Nat) (args vals : List Int) (B m1 m2 b14 b6 b12 : Nat) (vr vu vf vrules vsub v : Value) (oa : Option Addr) (ocp : Nat) (H : View) (hinv : st.Inv limit) (hv : SI H v args) (hsym : sym ≤ 4096) (hvl : vals.length ≤ 1099511627776)
    (hb6 : At H b6 0 [ptr B]) (hb12 : At H b12 0 [.int .i64 (sym : Int)]) :
    SatO Tryd.prog 49 #[v, ptr b14, ptr b6, ptr b12] H [blk b14 (.cells #[.slice oa vals.length ocp] 25 (0, 0)), row (.slice oa vals.length ocp) 3 1 vals.length (ints vals), blk B (.cells #[vr, .int .i64 a.states, vu, vf, vrules, mp m1, vsub, mp m2] 95 (0, 0)), mapO m1 (numKV st.subs), row vsub 98 16 st.subs.length (subCells st.subs), mapO m2 (resKV st.res)]
      (fun r _ q' => r = .bool true ∧ ∃ oa' ocp', q' = [blk b14 (.cells #[.slice oa' (vals.length + 1) ocp'] 25 (0, 0)), row (.slice oa' (vals.length + 1) ocp') 3 1 (vals.length + 1) (ints (vals ++ [valM st sym args])), blk B (.cells #[vr, .int .i64 a.states, vu, vf, vrules, mp m1, vsub, mp m2] 95 (0, 0)), mapO m1 (numKV st.subs), row vsub 98 16 st.subs.length (subCells st.subs), mapO m2 (resKV st.res)]) := by
  obtain ⟨aa, acp, rfl⟩ := hv.shape
  have hsi : i64ok (sym : Int) := by simp only [i64ok]; omega
  have hko := keyM_ok hsi hv.2
  obtain ⟨kl, hkl⟩ := tri106.key hko
  refine enterO (n := 17) (args := [.slice aa args.length acp, ptr b14, ptr b6, ptr b12]) Tryd.func49 rfl rfl rfl fun w0 => ?_
  refine K_seq ?_
  refine K_region ?_
  refine KV (R_assign rfl) rfl ?_
  refine K_nil ?_
  refine Q_then ?_
  refine K_seq ?_
  refine K_regionD (fin := true) (R := [0, 1, 2, 3, 4, 5, 6, 7, 8, 9, 10, 11]) (by kernel_rfl) mixed (.cons_cons _ (.cons _ (.cons_cons _ (.cons _ (.cons _ (.cons_cons _ (List.nil_sublist _))))))) ?_
  refine D_val rfl rfl rfl (R_loadO ty25 0 rfl rfl rfl rfl (fun _ => rfl) rfl) ?_
  refine D_val rfl rfl rfl (R_loadH ty87 rfl (hb6) rfl (fun _ => rfl) rfl) ?_
  refine D_val rfl rfl rfl (R_nilCheck rfl) ?_
  refine D_val rfl rfl rfl (R_fieldAddr 7 fd95_4 rfl) ?_
  refine D_val rfl rfl rfl (R_loadO ty93 1 rfl rfl rfl rfl (fun _ => rfl) rfl) ?_
  refine D_val rfl rfl rfl (R_loadH ty3 rfl (hb12) rfl (fun _ => rfl) rfl) ?_
  refine D_val rfl rfl rfl (R_move rfl) ?_
  refine D_call rfl rfl c50 rfl ⟨⟨0, rfl⟩, ⟨2, rfl⟩, ⟨5, rfl⟩, trivial⟩ (key_spec sym args _ H hv) ?_
  rintro _ V1 hle1 rfl
  refine D_val rfl rfl rfl (R_lookup kl106 mt93 z3 2 rfl rfl rfl hkl (resKV_keys tri106 hinv.rk) (resKV_opt hinv.rn _)) ?_
  refine D_alloc rfl rfl rfl (A_buildSlice (vs := [.int .i64 (valM st sym args)]) sl25 ty3 z3 rfl rfl (by simp [Value.cells]) (by simp) rfl (by decide)) fun b15 => ?_
  refine D_append1 1 ap25 rfl rfl rfl rfl rfl rfl ⟨⟨0, rfl⟩, ⟨1, rfl⟩, ⟨4, rfl⟩, trivial⟩ rfl rfl ⟨by omega, by omega⟩ fun a16 k16 hn16 => ?_
  refine D_lastStore ty25 1 rfl rfl rfl rfl rfl rfl rfl rfl ?_
  refine Q_then ?_
  refine K_seq ?_
  refine K_region ?_
  refine KV (R_assign rfl) rfl ?_
  refine K_nil ?_
  refine Q_then ?_
  refine K_ret ?_
  refine results_sel [1, 0, 0, 0, 0, 0] rfl (rs := [.tmp 5]) (vs := [_]) rfl ⟨rfl, trivial⟩ ?_
  refine ⟨rfl, a16, k16, ?_⟩
  rw [ints_snoc]
  rfl
end Go.Proofs.X
