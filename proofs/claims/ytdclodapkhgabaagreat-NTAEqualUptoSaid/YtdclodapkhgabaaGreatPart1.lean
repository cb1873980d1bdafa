/-
  Part of the proof: rules for walks, contracts of the functions that the statements reach, plain laws. Own work. No statement of the seat is proved here.
-/
import Derived.Shelf.SlSortCmp.NoneTotal
import Derived.Shelf.SortG.Plain
import Derived.Shelf.SortG.SortNone
import Derived.Ground.SlsfProg
import Derived.Ground.SlgnProg
import Derived.Test.YtdclodapkhgabaaGreatProg
import Derived.Test.YtdclodapkhgabaaGreatPalFo
import Derived.Test.YtdclodapkhgabaaGreatPalNc
/-
  DERIVED: THE SHELF's CONTRACTS AT THIS DUMP, IN PLAIN WORDS (tools/lay-plain.mjs out of 'LayZs.lean', which tools/lay-shelf.mjs wrote): THE SAME DECLARATIONS UNDER THE SAME NAMES: 'import', 'namespace', 'open', 'def', 'theorem' AND NOTHING ELSE: no command of the shelf's: FOR A HAND-IN. Each laying: the table of numbers ('.._ren') and one theorem, a field a fact of the dump's own or the kernel's comparison; each contract: ONE APPLICATION.
-/
namespace Go.Proofs
open Go.Shelf
def Tryz.layR_ren : Go.Shelf.Ren := ⟨fun | 6 => 103 | 15 => 97 | 14 => 126 | 28 => 123 | 29 => 124 | 20 => 136 | 21 => 137 | 22 => 138 | 23 => 139 | 24 => 140 | 25 => 141 | 26 => 142 | 27 => 143 | 46 => 145 | 47 => 132 | 48 => 133 | 49 => 146 | 50 => 147 | 57 => 148 | n => n, fun | 22 => 35 | 24 => 83 | 25 => 112 | 3 => 3 | 39 => 107 | 0 => 0 | 53 => 105 | 55 => 62 | 4 => 4 | 46 => 147 | 45 => 146 | 50 => 152 | 5 => 5 | 9 => 9 | 66 => 160 | 70 => 164 | 76 => 171 | 77 => 172 | n => n, fun | n => n⟩
theorem Tryz.layR : Go.Proofs.SlLaysF0.n6 Tryz.prog Tryz.layR_ren := {
  mixed := by kernel_rfl
  f6 := ⟨Tryz.f103.name, by decide, Tryz.func103.trans (congrArg some (by kernel_rfl))⟩
  f14 := ⟨Tryz.f126.name, by decide, Tryz.func126.trans (congrArg some (by kernel_rfl))⟩
  f15 := Tryz.func97.trans (congrArg some (by kernel_rfl))
  f20 := ⟨Tryz.f136.name, by decide, Tryz.func136.trans (congrArg some (by kernel_rfl))⟩
  f21 := ⟨Tryz.f137.name, by decide, Tryz.func137.trans (congrArg some (by kernel_rfl))⟩
  f22 := ⟨Tryz.f138.name, by decide, Tryz.func138.trans (congrArg some (by kernel_rfl))⟩
  f23 := ⟨Tryz.f139.name, by decide, Tryz.func139.trans (congrArg some (by kernel_rfl))⟩
  f24 := ⟨Tryz.f140.name, by decide, Tryz.func140.trans (congrArg some (by kernel_rfl))⟩
  f25 := ⟨Tryz.f141.name, by decide, Tryz.func141.trans (congrArg some (by kernel_rfl))⟩
  f26 := ⟨Tryz.f142.name, by decide, Tryz.func142.trans (congrArg some (by kernel_rfl))⟩
  f27 := ⟨Tryz.f143.name, by decide, Tryz.func143.trans (congrArg some (by kernel_rfl))⟩
  f28 := Tryz.func123.trans (congrArg some (by kernel_rfl))
  f29 := Tryz.func124.trans (congrArg some (by kernel_rfl))
  f46 := ⟨Tryz.f145.name, by decide, Tryz.func145.trans (congrArg some (by kernel_rfl))⟩
  f47 := Tryz.func132.trans (congrArg some (by kernel_rfl))
  f48 := Tryz.func133.trans (congrArg some (by kernel_rfl))
  f49 := ⟨Tryz.f146.name, by decide, Tryz.func146.trans (congrArg some (by kernel_rfl))⟩
  f50 := ⟨Tryz.f147.name, by decide, Tryz.func147.trans (congrArg some (by kernel_rfl))⟩
  f57 := ⟨Tryz.f148.name, by decide, Tryz.func148.trans (congrArg some (by kernel_rfl))⟩
  t0 := Tryz.underlying0
  a0 := Tryz.isAgg0
  z0 := Tryz.sizeOf0
  v0 := Tryz.zeroValue0
  t3 := Tryz.underlying3
  a3 := Tryz.isAgg3
  z3 := Tryz.sizeOf3
  v3 := Tryz.zeroValue3
  t4 := Tryz.underlying4
  a4 := Tryz.isAgg4
  z4 := Tryz.sizeOf4
  v4 := Tryz.zeroValue4
  t5 := Tryz.underlying5
  a5 := Tryz.isAgg5
  z5 := Tryz.sizeOf5
  v5 := Tryz.zeroValue5
  t9 := Tryz.underlying9
  a9 := Tryz.isAgg9
  z9 := Tryz.sizeOf9
  v9 := Tryz.zeroValue9
  t22 := Tryz.underlying35
  a22 := Tryz.isAgg35
  z22 := Tryz.sizeOf35
  v22 := Tryz.zeroValue35
  t25 := Tryz.underlying112
  a25 := Tryz.isAgg112
  z25 := Tryz.sizeOf112
  v25 := Tryz.zeroValue112
  t39 := Tryz.underlying107
  a39 := Tryz.isAgg107
  z39 := Tryz.sizeOf107
  v39 := Tryz.zeroValue107
  t45 := Tryz.underlying146
  a45 := Tryz.isAgg146
  z45 := Tryz.sizeOf146
  v45 := Tryz.zeroValue146
  t46 := Tryz.underlying147
  a46 := Tryz.isAgg147
  z46 := Tryz.sizeOf147
  v46 := Tryz.zeroValue147
  t50 := Tryz.underlying152
  a50 := Tryz.isAgg152
  z50 := Tryz.sizeOf152
  v50 := Tryz.zeroValue152
  t53 := Tryz.underlying105
  a53 := Tryz.isAgg105
  z53 := Tryz.sizeOf105
  v53 := Tryz.zeroValue105
  t55 := Tryz.underlying62
  a55 := Tryz.isAgg62
  z55 := Tryz.sizeOf62
  v55 := Tryz.zeroValue62
  t66 := Tryz.underlying160
  a66 := Tryz.isAgg160
  z66 := Tryz.sizeOf160
  v66 := Tryz.zeroValue160
  t70 := Tryz.underlying164
  a70 := Tryz.isAgg164
  z70 := Tryz.sizeOf164
  v70 := Tryz.zeroValue164
  t76 := Tryz.underlying171
  a76 := Tryz.isAgg171
  z76 := Tryz.sizeOf171
  v76 := Tryz.zeroValue171
  t77 := Tryz.underlying172
  a77 := Tryz.isAgg172
  z77 := Tryz.sizeOf172
  v77 := Tryz.zeroValue172 }
def Tryz.layI_ren : Go.Shelf.Ren := ⟨fun | 53 => 53 | 64 => 97 | 63 => 96 | 78 => 123 | 79 => 124 | 70 => 114 | 71 => 115 | 72 => 116 | 73 => 117 | 74 => 118 | 75 => 119 | 59 => 120 | 76 => 121 | 77 => 122 | 88 => 131 | 89 => 132 | 90 => 133 | 91 => 134 | 92 => 135 | 68 => 125 | 96 => 144 | n => n, fun | 22 => 22 | 23 => 3 | 3 => 3 | 51 => 107 | 0 => 0 | 67 => 105 | 69 => 62 | 4 => 4 | 61 => 147 | 60 => 146 | 44 => 152 | 5 => 5 | 9 => 9 | 75 => 160 | 79 => 164 | 83 => 171 | 84 => 172 | n => n, fun | n => n⟩
theorem Tryz.layI : Go.Proofs.SlLaysN.n53 Tryz.prog Tryz.layI_ren := {
  mixed := by kernel_rfl
  f53 := ⟨Tryz.f53.name, by decide, Tryz.func53.trans (congrArg some (by kernel_rfl))⟩
  f59 := ⟨Tryz.f120.name, by decide, Tryz.func120.trans (congrArg some (by kernel_rfl))⟩
  f63 := ⟨Tryz.f96.name, by decide, Tryz.func96.trans (congrArg some (by kernel_rfl))⟩
  f64 := Tryz.func97.trans (congrArg some (by kernel_rfl))
  f68 := ⟨Tryz.f125.name, by decide, Tryz.func125.trans (congrArg some (by kernel_rfl))⟩
  f70 := ⟨Tryz.f114.name, by decide, Tryz.func114.trans (congrArg some (by kernel_rfl))⟩
  f71 := ⟨Tryz.f115.name, by decide, Tryz.func115.trans (congrArg some (by kernel_rfl))⟩
  f72 := ⟨Tryz.f116.name, by decide, Tryz.func116.trans (congrArg some (by kernel_rfl))⟩
  f73 := ⟨Tryz.f117.name, by decide, Tryz.func117.trans (congrArg some (by kernel_rfl))⟩
  f74 := ⟨Tryz.f118.name, by decide, Tryz.func118.trans (congrArg some (by kernel_rfl))⟩
  f75 := ⟨Tryz.f119.name, by decide, Tryz.func119.trans (congrArg some (by kernel_rfl))⟩
  f76 := ⟨Tryz.f121.name, by decide, Tryz.func121.trans (congrArg some (by kernel_rfl))⟩
  f77 := ⟨Tryz.f122.name, by decide, Tryz.func122.trans (congrArg some (by kernel_rfl))⟩
  f78 := Tryz.func123.trans (congrArg some (by kernel_rfl))
  f79 := Tryz.func124.trans (congrArg some (by kernel_rfl))
  f88 := ⟨Tryz.f131.name, by decide, Tryz.func131.trans (congrArg some (by kernel_rfl))⟩
  f89 := Tryz.func132.trans (congrArg some (by kernel_rfl))
  f90 := Tryz.func133.trans (congrArg some (by kernel_rfl))
  f91 := ⟨Tryz.f134.name, by decide, Tryz.func134.trans (congrArg some (by kernel_rfl))⟩
  f92 := ⟨Tryz.f135.name, by decide, Tryz.func135.trans (congrArg some (by kernel_rfl))⟩
  f96 := ⟨Tryz.f144.name, by decide, Tryz.func144.trans (congrArg some (by kernel_rfl))⟩
  t0 := Tryz.underlying0
  a0 := Tryz.isAgg0
  z0 := Tryz.sizeOf0
  v0 := Tryz.zeroValue0
  t3 := Tryz.underlying3
  a3 := Tryz.isAgg3
  z3 := Tryz.sizeOf3
  v3 := Tryz.zeroValue3
  t4 := Tryz.underlying4
  a4 := Tryz.isAgg4
  z4 := Tryz.sizeOf4
  v4 := Tryz.zeroValue4
  t5 := Tryz.underlying5
  a5 := Tryz.isAgg5
  z5 := Tryz.sizeOf5
  v5 := Tryz.zeroValue5
  t9 := Tryz.underlying9
  a9 := Tryz.isAgg9
  z9 := Tryz.sizeOf9
  v9 := Tryz.zeroValue9
  t22 := Tryz.underlying22
  a22 := Tryz.isAgg22
  z22 := Tryz.sizeOf22
  v22 := Tryz.zeroValue22
  t23 := Tryz.underlying3
  a23 := Tryz.isAgg3
  z23 := Tryz.sizeOf3
  v23 := Tryz.zeroValue3
  t44 := Tryz.underlying152
  a44 := Tryz.isAgg152
  z44 := Tryz.sizeOf152
  v44 := Tryz.zeroValue152
  t51 := Tryz.underlying107
  a51 := Tryz.isAgg107
  z51 := Tryz.sizeOf107
  v51 := Tryz.zeroValue107
  t60 := Tryz.underlying146
  a60 := Tryz.isAgg146
  z60 := Tryz.sizeOf146
  v60 := Tryz.zeroValue146
  t61 := Tryz.underlying147
  a61 := Tryz.isAgg147
  z61 := Tryz.sizeOf147
  v61 := Tryz.zeroValue147
  t67 := Tryz.underlying105
  a67 := Tryz.isAgg105
  z67 := Tryz.sizeOf105
  v67 := Tryz.zeroValue105
  t69 := Tryz.underlying62
  a69 := Tryz.isAgg62
  z69 := Tryz.sizeOf62
  v69 := Tryz.zeroValue62
  t75 := Tryz.underlying160
  a75 := Tryz.isAgg160
  z75 := Tryz.sizeOf160
  v75 := Tryz.zeroValue160
  t79 := Tryz.underlying164
  a79 := Tryz.isAgg164
  z79 := Tryz.sizeOf164
  v79 := Tryz.zeroValue164
  t83 := Tryz.underlying171
  a83 := Tryz.isAgg171
  z83 := Tryz.sizeOf171
  v83 := Tryz.zeroValue171
  t84 := Tryz.underlying172
  a84 := Tryz.isAgg172
  z84 := Tryz.sizeOf172
  v84 := Tryz.zeroValue172 }
end Go.Proofs

/-
  The numbers that functions and types have in this seat, under names that are the same in every seat. Own work.
-/
namespace Go.Proofs.X
open Go
abbrev F2 : FuncId := 2
abbrev F15 : FuncId := 13
abbrev F17 : FuncId := 15
abbrev F30 : FuncId := 49
abbrev F45 : FuncId := 78
abbrev F51 : FuncId := 71
abbrev F54 : FuncId := 72
abbrev F60 : FuncId := 21
abbrev F62 : FuncId := 61
abbrev F65 : FuncId := 79
abbrev F67 : FuncId := 60
abbrev F68 : FuncId := 92
abbrev F69 : FuncId := 93
abbrev F72 : FuncId := 67
abbrev F77 : FuncId := 30
abbrev F86 : FuncId := 56
abbrev F95 : FuncId := 107
abbrev F96 : FuncId := 108
abbrev F97 : FuncId := 109
abbrev F98 : FuncId := 94
abbrev F100 : FuncId := 68
abbrev F101 : FuncId := 69
abbrev F110 : FuncId := 98
abbrev F112 : FuncId := 127
abbrev F113 : FuncId := 128
abbrev F114 : FuncId := 111
abbrev F115 : FuncId := 112
abbrev F118 : FuncId := 129
abbrev F119 : FuncId := 130
abbrev F2008 : FuncId := 11
abbrev F2009 : FuncId := 12
abbrev F2011 : FuncId := 16
abbrev F2012 : FuncId := 20
abbrev F2015 : FuncId := 24
abbrev F2016 : FuncId := 25
abbrev F2018 : FuncId := 27
abbrev F2019 : FuncId := 28
abbrev F2020 : FuncId := 29
abbrev F2022 : FuncId := 32
abbrev F2029 : FuncId := 40
abbrev F2031 : FuncId := 42
abbrev F2032 : FuncId := 43
abbrev F2035 : FuncId := 46
abbrev F2036 : FuncId := 47
abbrev F2037 : FuncId := 48
abbrev F2038 : FuncId := 52
abbrev F2039 : FuncId := 53
abbrev F2040 : FuncId := 57
abbrev F2041 : FuncId := 58
abbrev F2043 : FuncId := 62
abbrev F2044 : FuncId := 63
abbrev F2045 : FuncId := 64
abbrev F2046 : FuncId := 65
abbrev F2047 : FuncId := 66
abbrev F2048 : FuncId := 73
abbrev F2049 : FuncId := 74
abbrev F2050 : FuncId := 75
abbrev F2053 : FuncId := 80
abbrev F2054 : FuncId := 81
abbrev F2055 : FuncId := 82
abbrev F2056 : FuncId := 83
abbrev F2057 : FuncId := 84
abbrev F2058 : FuncId := 85
abbrev F2059 : FuncId := 86
abbrev F2061 : FuncId := 88
abbrev F2062 : FuncId := 89
abbrev F2063 : FuncId := 90
abbrev F2064 : FuncId := 91
abbrev F2065 : FuncId := 95
abbrev F2068 : FuncId := 99
abbrev F2069 : FuncId := 100
abbrev F2070 : FuncId := 101
abbrev F2071 : FuncId := 102
abbrev F2072 : FuncId := 103
abbrev F2073 : FuncId := 104
abbrev F2074 : FuncId := 105
abbrev F2075 : FuncId := 106
abbrev F2076 : FuncId := 110
abbrev F2077 : FuncId := 113
abbrev F2089 : FuncId := 125
abbrev T1 : TypeId := 1
abbrev T2 : TypeId := 2
abbrev T3 : TypeId := 3
abbrev T4 : TypeId := 4
abbrev T25 : TypeId := 22
abbrev T28 : TypeId := 40
abbrev T30 : TypeId := 42
abbrev T40 : TypeId := 23
abbrev T42 : TypeId := 25
abbrev T47 : TypeId := 34
abbrev T48 : TypeId := 35
abbrev T50 : TypeId := 37
abbrev T52 : TypeId := 119
abbrev T85 : TypeId := 83
abbrev T100 : TypeId := 84
abbrev T164 : TypeId := 105
abbrev T2007 : TypeId := 54
abbrev T2009 : TypeId := 56
abbrev T2029 : TypeId := 87
abbrev T2031 : TypeId := 89
abbrev T2034 : TypeId := 92
abbrev T2035 : TypeId := 93
abbrev T2036 : TypeId := 94
abbrev T2038 : TypeId := 96
abbrev T2048 : TypeId := 120
end Go.Proofs.X

namespace Go.Proofs.X
open Go Pal Go.Proofs
attribute [local irreducible] Pal.KO Pal.KC Pal.KQ Pal.KD
theorem mixed : Tryz.prog.follows .mixedOrders = true := by kernel_rfl
theorem ty3 : Ty Tryz.prog T3 false 1 := .of (by kernel_rfl)
theorem ty25 : Ty Tryz.prog T25 false 1 := .of (by kernel_rfl)
theorem ty47 : Ty Tryz.prog T47 false 1 := .of (by kernel_rfl)
theorem ty48 : Ty Tryz.prog T48 false 1 := .of (by kernel_rfl)
theorem ty50 : Ty Tryz.prog T50 true 4 := .of (by kernel_rfl)
theorem ty85 : Ty Tryz.prog T85 true 3 := .of (by kernel_rfl)
theorem sl25 : slcOk Tryz.prog T25 T3 := by unfold slcOk; kernel_rfl
theorem sl47 : slcOk Tryz.prog T47 T3 := by unfold slcOk; kernel_rfl
theorem sl48 : slcOk Tryz.prog T48 T85 := by unfold slcOk; kernel_rfl
theorem fd50_0 : fldOk Tryz.prog T50 0 0 = true := by kernel_rfl
theorem fd50_1 : fldOk Tryz.prog T50 1 1 = true := by kernel_rfl
theorem fd50_2 : fldOk Tryz.prog T50 2 2 = true := by kernel_rfl
theorem fd50_3 : fldOk Tryz.prog T50 3 3 = true := by kernel_rfl
theorem fd85_0 : fldOk Tryz.prog T85 0 0 = true := by kernel_rfl
theorem fd85_1 : fldOk Tryz.prog T85 1 1 = true := by kernel_rfl
theorem fd85_2 : fldOk Tryz.prog T85 2 2 = true := by kernel_rfl
theorem z85 : zeroOk Tryz.prog T85 (.agg #[.int .i64 0, .slice none 0 0, .int .i64 0]) := .of (by kernel_rfl)
theorem c72 : callable Tryz.prog F72 = true := by kernel_rfl
theorem c86 : callable Tryz.prog F86 = true := by kernel_rfl
theorem c95 : callable Tryz.prog F95 = true := by kernel_rfl
theorem c96 : callable Tryz.prog F96 = true := by kernel_rfl
theorem c97 : callable Tryz.prog F97 = true := by kernel_rfl
theorem c100 : callable Tryz.prog F100 = true := by kernel_rfl
theorem c101 : callable Tryz.prog F101 = true := by kernel_rfl
theorem c110 : callable Tryz.prog F110 = true := by kernel_rfl
theorem c112 : callable Tryz.prog F112 = true := by kernel_rfl
theorem c113 : callable Tryz.prog F113 = true := by kernel_rfl
theorem siidx_spec (f : Nat) (cap : List Value) (p : Int → Bool) (xs : List Int) (v : Value) (H : View) (hv : SI H v xs) (hl : xs.length ≤ 1099511627776) (hcal : callable Tryz.prog f = true)
    (hp : ∀ x V, x ∈ xs → VLe H V → Sat Tryz.prog f ([] ++ [Value.int .i64 x] ++ cap).toArray V (fun r _ => r = .bool (p x))) :
    Sat Tryz.prog F110 #[v, .func (.func f) #[] cap.toArray] H (fun r _ => ∃ i : Int, r = .int .i64 i ∧ (0 ≤ i ↔ ∃ x ∈ xs, p x = true)) := by
  obtain ⟨a, cp, rfl⟩ := hv.shape
  refine enterO (n := 19) (args := [.slice a xs.length cp, .func (.func f) #[] cap.toArray]) Tryz.func98 rfl rfl rfl fun w0 => ?_
  refine K_seq ?_
  refine K_region ?_
  refine KV (R_assign rfl) rfl ?_
  refine K_nil ?_
  refine Q_then ?_
  refine K_seq ?_
  refine K_seq ?_
  refine K_region ?_
  refine KV (R_move rfl) rfl ?_
  refine KV (R_len sl25 rfl) rfl ?_
  refine KV (R_move rfl) rfl ?_
  refine K_nil ?_
  refine Q_then ?_
  refine K_block ?_
  refine K_loop (G := Nat × View) ⟨fun g => [(0, .slice a xs.length cp), (1, .func (.func f) #[] cap.toArray), (7, .int .i64 xs.length), (8, .int .i64 (g.1 : Int))], fun g => [], fun g => g.2, fun g => g.1 ≤ xs.length ∧ VLe H g.2 ∧ ∀ j (h : j < xs.length), j < g.1 → p xs[j] = false, fun g => xs.length - g.1⟩ (0, H) ⟨Nat.zero_le _, VLe.refl H, fun j _ h => by simp at h⟩ ⟨rfl, rfl, rfl, rfl, trivial⟩ rfl rfl ?_
  rintro ⟨k, V⟩ ⟨hk, hV, hno⟩
  dsimp only at hk hV hno ⊢
  refine K_seq ?_
  refine K_region ?_
  refine KV (R_cmp rfl rfl rfl) rfl ?_
  refine K_nil ?_
  refine Q_then ?_
  refine K_seq ?_
  refine K_if rfl (fun h9 => ?_) (fun h9 => ?_)
  ·
    have hk' : k < xs.length := by omega
    obtain ⟨tb, to_, rfl, hta⟩ := (hv.mono hV).get hk'
    refine K_skip ?_
    refine Q_then ?_
    refine K_seq ?_
    refine K_block ?_
    refine K_seq ?_
    refine K_region ?_
    refine KV (R_move rfl) rfl ?_
    refine KV (R_assign rfl) rfl ?_
    refine K_nil ?_
    refine Q_then ?_
    refine K_seq ?_
    refine K_region ?_
    refine KV (R_move rfl) rfl ?_
    refine KV (R_move rfl) rfl ?_
    refine KV (R_move rfl) rfl ?_
    refine KV (R_indexN sl25 ty3 rfl rfl (by omega)) rfl ?_
    refine KV (R_loadH ty3 rfl (hta) rfl (fun _ => rfl) rfl) rfl ?_
    refine K_callO (first := []) [] [] (List.Perm.refl _) hcal rfl rfl rfl (hp xs[k] V (List.getElem_mem hk') hV) ?_
    rintro _ V' q hle rfl
    refine KO_own [] (List.nil_sublist _) ?_
    refine K_nil ?_
    refine Q_then ?_
    refine K_ifB rfl (fun h16 => ?_) (fun h16 => ?_)
    ·
      refine K_seq ?_
      refine K_region ?_
      refine KV (R_move rfl) rfl ?_
      refine KV (R_assign rfl) rfl ?_
      refine K_nil ?_
      refine Q_then ?_
      refine K_ret ?_
      refine Q_block_ret ?_
      refine Q_then_ret ?_
      refine Q_then_ret ?_
      refine Q_block_ret ?_
      refine Q_then_ret ?_
      refine results_gen (rs := [.tmp 4]) (vs := [_]) rfl ⟨rfl, trivial⟩ ?_
      exact ⟨k, rfl, ⟨fun _ => ⟨_, List.getElem_mem hk', h16⟩, fun _ => by omega⟩⟩
    ·
      have hno2 : ∀ j (h : j < xs.length), j < k + 1 → p xs[j] = false := by
        intro j h hj
        by_cases e : j = k
        · subst e; exact h16
        · exact hno j h (by omega)
      refine K_skip ?_
      refine Q_block ?_
      refine Q_then ?_
      refine K_region ?_
      refine KV (R_add rfl rfl (by omega)) rfl ?_
      refine KV (R_move rfl) rfl ?_
      refine K_nil ?_
      exact Q_next (k + 1, V') ⟨hk', hV.trans hle, hno2⟩ (by dsimp only; omega) ⟨rfl, rfl, rfl, rfl, trivial⟩ rfl rfl
  ·
    have hk' : k = xs.length := by omega
    refine K_exit ?_
    refine Q_then_exit ?_
    refine Q_then_exit ?_
    refine Q_block_exit ?_
    refine Q_then ?_
    refine K_seq ?_
    refine K_region ?_
    refine KV (R_assign rfl) rfl ?_
    refine K_nil ?_
    refine Q_then ?_
    refine K_ret ?_
    refine results_gen (rs := [.tmp 4]) (vs := [_]) rfl ⟨rfl, trivial⟩ ?_
    refine ⟨-1, rfl, ⟨fun h => by omega, ?_⟩⟩
    rintro ⟨x, hx, hpx⟩
    obtain ⟨j, hj, rfl⟩ := List.getElem_of_mem hx
    rw [hno j hj (by omega)] at hpx; cases hpx

theorem sicon_spec (f : Nat) (cap : List Value) (p : Int → Bool) (xs : List Int) (v : Value) (H : View) (hv : SI H v xs) (hl : xs.length ≤ 1099511627776) (hcal : callable Tryz.prog f = true)
    (hp : ∀ x V, x ∈ xs → VLe H V → Sat Tryz.prog f ([] ++ [Value.int .i64 x] ++ cap).toArray V (fun r _ => r = .bool (p x))) :
    Sat Tryz.prog F86 #[v, .func (.func f) #[] cap.toArray] H (fun r _ => r = .bool (xs.any p)) := by
  obtain ⟨a, cp, rfl⟩ := hv.shape
  refine enterO (n := 9) (args := [.slice a xs.length cp, .func (.func f) #[] cap.toArray]) Tryz.func56 rfl rfl rfl fun w0 => ?_
  refine K_seq ?_
  refine K_region ?_
  refine KV (R_assign rfl) rfl ?_
  refine K_nil ?_
  refine Q_then ?_
  refine K_seq ?_
  refine K_region ?_
  refine KV (R_move rfl) rfl ?_
  refine KV (R_move rfl) rfl ?_
  refine K_call c110 rfl rfl (siidx_spec f cap p xs _ H hv hl hcal hp) ?_
  rintro _ V' hle ⟨i, rfl, hi⟩
  refine KV (R_cmp rfl rfl rfl) rfl ?_
  refine KV (R_assign rfl) rfl ?_
  refine K_nil ?_
  refine Q_then ?_
  refine K_ret ?_
  refine results_gen (rs := [.tmp 4]) (vs := [_]) rfl ⟨rfl, trivial⟩ ?_
  refine congrArg Value.bool ?_
  by_cases h : 0 ≤ i
  · rw [decide_eq_true h]; exact (List.any_eq_true.2 (hi.1 h)).symm
  · rw [decide_eq_false h]; exact (Bool.eq_false_iff.2 fun h2 => h (hi.2 (List.any_eq_true.1 h2))).symm

theorem saidx_spec (f : Nat) (cap : List Value) (p : Int → Bool) (xs : List Int) (v : Value) (H : View) (hv : SI H v xs) (hl : xs.length ≤ 1099511627776) (hcal : callable Tryz.prog f = true)
    (hp : ∀ x V, x ∈ xs → VLe H V → Sat Tryz.prog f ([] ++ [Value.int .i64 x] ++ cap).toArray V (fun r _ => r = .bool (p x))) :
    Sat Tryz.prog F112 #[v, .func (.func f) #[] cap.toArray] H (fun r _ => ∃ i : Int, r = .int .i64 i ∧ (0 ≤ i ↔ ∃ x ∈ xs, p x = true)) := by
  obtain ⟨a, cp, rfl⟩ := hv.shape
  refine enterO (n := 19) (args := [.slice a xs.length cp, .func (.func f) #[] cap.toArray]) Tryz.func127 rfl rfl rfl fun w0 => ?_
  refine K_seq ?_
  refine K_region ?_
  refine KV (R_assign rfl) rfl ?_
  refine K_nil ?_
  refine Q_then ?_
  refine K_seq ?_
  refine K_seq ?_
  refine K_region ?_
  refine KV (R_move rfl) rfl ?_
  refine KV (R_len sl47 rfl) rfl ?_
  refine KV (R_move rfl) rfl ?_
  refine K_nil ?_
  refine Q_then ?_
  refine K_block ?_
  refine K_loop (G := Nat × View) ⟨fun g => [(0, .slice a xs.length cp), (1, .func (.func f) #[] cap.toArray), (7, .int .i64 xs.length), (8, .int .i64 (g.1 : Int))], fun g => [], fun g => g.2, fun g => g.1 ≤ xs.length ∧ VLe H g.2 ∧ ∀ j (h : j < xs.length), j < g.1 → p xs[j] = false, fun g => xs.length - g.1⟩ (0, H) ⟨Nat.zero_le _, VLe.refl H, fun j _ h => by simp at h⟩ ⟨rfl, rfl, rfl, rfl, trivial⟩ rfl rfl ?_
  rintro ⟨k, V⟩ ⟨hk, hV, hno⟩
  dsimp only at hk hV hno ⊢
  refine K_seq ?_
  refine K_region ?_
  refine KV (R_cmp rfl rfl rfl) rfl ?_
  refine K_nil ?_
  refine Q_then ?_
  refine K_seq ?_
  refine K_if rfl (fun h9 => ?_) (fun h9 => ?_)
  ·
    have hk' : k < xs.length := by omega
    obtain ⟨tb, to_, rfl, hta⟩ := (hv.mono hV).get hk'
    refine K_skip ?_
    refine Q_then ?_
    refine K_seq ?_
    refine K_block ?_
    refine K_seq ?_
    refine K_region ?_
    refine KV (R_move rfl) rfl ?_
    refine KV (R_assign rfl) rfl ?_
    refine K_nil ?_
    refine Q_then ?_
    refine K_seq ?_
    refine K_region ?_
    refine KV (R_move rfl) rfl ?_
    refine KV (R_move rfl) rfl ?_
    refine KV (R_move rfl) rfl ?_
    refine KV (R_indexN sl47 ty3 rfl rfl (by omega)) rfl ?_
    refine KV (R_loadH ty3 rfl (hta) rfl (fun _ => rfl) rfl) rfl ?_
    refine K_callO (first := []) [] [] (List.Perm.refl _) hcal rfl rfl rfl (hp xs[k] V (List.getElem_mem hk') hV) ?_
    rintro _ V' q hle rfl
    refine KO_own [] (List.nil_sublist _) ?_
    refine K_nil ?_
    refine Q_then ?_
    refine K_ifB rfl (fun h16 => ?_) (fun h16 => ?_)
    ·
      refine K_seq ?_
      refine K_region ?_
      refine KV (R_move rfl) rfl ?_
      refine KV (R_assign rfl) rfl ?_
      refine K_nil ?_
      refine Q_then ?_
      refine K_ret ?_
      refine Q_block_ret ?_
      refine Q_then_ret ?_
      refine Q_then_ret ?_
      refine Q_block_ret ?_
      refine Q_then_ret ?_
      refine results_gen (rs := [.tmp 4]) (vs := [_]) rfl ⟨rfl, trivial⟩ ?_
      exact ⟨k, rfl, ⟨fun _ => ⟨_, List.getElem_mem hk', h16⟩, fun _ => by omega⟩⟩
    ·
      have hno2 : ∀ j (h : j < xs.length), j < k + 1 → p xs[j] = false := by
        intro j h hj
        by_cases e : j = k
        · subst e; exact h16
        · exact hno j h (by omega)
      refine K_skip ?_
      refine Q_block ?_
      refine Q_then ?_
      refine K_region ?_
      refine KV (R_add rfl rfl (by omega)) rfl ?_
      refine KV (R_move rfl) rfl ?_
      refine K_nil ?_
      exact Q_next (k + 1, V') ⟨hk', hV.trans hle, hno2⟩ (by dsimp only; omega) ⟨rfl, rfl, rfl, rfl, trivial⟩ rfl rfl
  ·
    have hk' : k = xs.length := by omega
    refine K_exit ?_
    refine Q_then_exit ?_
    refine Q_then_exit ?_
    refine Q_block_exit ?_
    refine Q_then ?_
    refine K_seq ?_
    refine K_region ?_
    refine KV (R_assign rfl) rfl ?_
    refine K_nil ?_
    refine Q_then ?_
    refine K_ret ?_
    refine results_gen (rs := [.tmp 4]) (vs := [_]) rfl ⟨rfl, trivial⟩ ?_
    refine ⟨-1, rfl, ⟨fun h => by omega, ?_⟩⟩
    rintro ⟨x, hx, hpx⟩
    obtain ⟨j, hj, rfl⟩ := List.getElem_of_mem hx
    rw [hno j hj (by omega)] at hpx; cases hpx

theorem sacon_spec (f : Nat) (cap : List Value) (p : Int → Bool) (xs : List Int) (v : Value) (H : View) (hv : SI H v xs) (hl : xs.length ≤ 1099511627776) (hcal : callable Tryz.prog f = true)
    (hp : ∀ x V, x ∈ xs → VLe H V → Sat Tryz.prog f ([] ++ [Value.int .i64 x] ++ cap).toArray V (fun r _ => r = .bool (p x))) :
    Sat Tryz.prog F95 #[v, .func (.func f) #[] cap.toArray] H (fun r _ => r = .bool (xs.any p)) := by
  obtain ⟨a, cp, rfl⟩ := hv.shape
  refine enterO (n := 9) (args := [.slice a xs.length cp, .func (.func f) #[] cap.toArray]) Tryz.func107 rfl rfl rfl fun w0 => ?_
  refine K_seq ?_
  refine K_region ?_
  refine KV (R_assign rfl) rfl ?_
  refine K_nil ?_
  refine Q_then ?_
  refine K_seq ?_
  refine K_region ?_
  refine KV (R_move rfl) rfl ?_
  refine KV (R_move rfl) rfl ?_
  refine K_call c112 rfl rfl (saidx_spec f cap p xs _ H hv hl hcal hp) ?_
  rintro _ V' hle ⟨i, rfl, hi⟩
  refine KV (R_cmp rfl rfl rfl) rfl ?_
  refine KV (R_assign rfl) rfl ?_
  refine K_nil ?_
  refine Q_then ?_
  refine K_ret ?_
  refine results_gen (rs := [.tmp 4]) (vs := [_]) rfl ⟨rfl, trivial⟩ ?_
  refine congrArg Value.bool ?_
  by_cases h : 0 ≤ i
  · rw [decide_eq_true h]; exact (List.any_eq_true.2 (hi.1 h)).symm
  · rw [decide_eq_false h]; exact (Bool.eq_false_iff.2 fun h2 => h (hi.2 (List.any_eq_true.1 h2))).symm

theorem rank_spec (x : Int) (H : View) : Sat Tryz.prog F96 #[.int .i64 x] H (fun v _ => v = .bool (decide (x < 0 ∨ 2 < x))) := by
  refine enterO (n := 9) (args := [.int .i64 x]) Tryz.func108 rfl rfl rfl fun w0 => ?_
  refine K_seq ?_
  refine K_region ?_
  refine KV (R_assign rfl) rfl ?_
  refine K_nil ?_
  refine Q_then ?_
  refine K_seq ?_
  refine K_region ?_
  refine KV (R_move rfl) rfl ?_
  refine KV (R_cmp rfl rfl rfl) rfl ?_
  refine KV (R_move rfl) rfl ?_
  refine K_split ?_ ?_
  ·
    intro h5
    refine K_gno rfl rfl rfl rfl ?_
    refine K_gno rfl rfl rfl rfl ?_
    refine KV (R_pickT rfl rfl) rfl ?_
    refine KV (R_assign rfl) rfl ?_
    refine K_nil ?_
    refine Q_then ?_
    refine K_ret ?_
    refine results_gen (rs := [.tmp 2]) (vs := [_]) rfl ⟨rfl, trivial⟩ ?_
    simp [tupV, h5]
  ·
    intro h5
    refine K_gyes rfl rfl ?_
    refine KV (R_move rfl) rfl ?_
    refine K_gyes rfl rfl ?_
    refine KV (R_cmp rfl rfl rfl) rfl ?_
    refine KV (R_pickF rfl rfl) rfl ?_
    refine KV (R_assign rfl) rfl ?_
    refine K_nil ?_
    refine Q_then ?_
    refine K_ret ?_
    refine results_gen (rs := [.tmp 2]) (vs := [_]) rfl ⟨rfl, trivial⟩ ?_
    simp [tupV, h5]

theorem idx_spec (y : Int) (xs : List Int) (v : Value) (H : View) (hv : SI H v xs) (hl : xs.length ≤ 1099511627776) : Sat Tryz.prog F113 #[v, .int .i64 y] H (fun r _ => ∃ i : Int, r = .int .i64 i ∧ (0 ≤ i ↔ y ∈ xs)) := by
  obtain ⟨a, cp, rfl⟩ := hv.shape
  refine enterO (n := 19) (args := [.slice a xs.length cp, .int .i64 y]) Tryz.func128 rfl rfl rfl fun w0 => ?_
  refine K_seq ?_
  refine K_region ?_
  refine KV (R_assign rfl) rfl ?_
  refine K_nil ?_
  refine Q_then ?_
  refine K_seq ?_
  refine K_seq ?_
  refine K_region ?_
  refine KV (R_move rfl) rfl ?_
  refine KV (R_len sl47 rfl) rfl ?_
  refine KV (R_move rfl) rfl ?_
  refine K_nil ?_
  refine Q_then ?_
  refine K_block ?_
  refine K_loop (G := Nat) ⟨fun g => [(0, .slice a xs.length cp), (1, .int .i64 y), (7, .int .i64 xs.length), (8, .int .i64 (g : Int))], fun g => [], fun g => H, fun g => g ≤ xs.length ∧ ∀ j (h : j < xs.length), j < g → xs[j] ≠ y, fun g => xs.length - g⟩ 0 ⟨Nat.zero_le _, fun j _ h => by simp at h⟩ ⟨rfl, rfl, rfl, rfl, trivial⟩ rfl rfl ?_
  rintro k ⟨hk, hno⟩
  dsimp only at hk hno ⊢
  refine K_seq ?_
  refine K_region ?_
  refine KV (R_cmp rfl rfl rfl) rfl ?_
  refine K_nil ?_
  refine Q_then ?_
  refine K_seq ?_
  refine K_if rfl (fun h9 => ?_) (fun h9 => ?_)
  ·
    have hk' : k < xs.length := by omega
    obtain ⟨tb, to_, rfl, hta⟩ := hv.get hk'
    refine K_skip ?_
    refine Q_then ?_
    refine K_seq ?_
    refine K_block ?_
    refine K_seq ?_
    refine K_region ?_
    refine KV (R_move rfl) rfl ?_
    refine KV (R_assign rfl) rfl ?_
    refine K_nil ?_
    refine Q_then ?_
    refine K_seq ?_
    refine K_region ?_
    refine KV (R_move rfl) rfl ?_
    refine KV (R_move rfl) rfl ?_
    refine KV (R_move rfl) rfl ?_
    refine KV (R_indexN sl47 ty3 rfl rfl (by omega)) rfl ?_
    refine KV (R_loadH ty3 rfl (hta) rfl (fun _ => rfl) rfl) rfl ?_
    refine KV (R_cmp rfl rfl rfl) rfl ?_
    refine K_nil ?_
    refine Q_then ?_
    refine K_if rfl (fun h16 => ?_) (fun h16 => ?_)
    ·
      refine K_seq ?_
      refine K_region ?_
      refine KV (R_move rfl) rfl ?_
      refine KV (R_assign rfl) rfl ?_
      refine K_nil ?_
      refine Q_then ?_
      refine K_ret ?_
      refine Q_block_ret ?_
      refine Q_then_ret ?_
      refine Q_then_ret ?_
      refine Q_block_ret ?_
      refine Q_then_ret ?_
      refine results_gen (rs := [.tmp 4]) (vs := [_]) rfl ⟨rfl, trivial⟩ ?_
      exact ⟨k, rfl, ⟨fun _ => h16 ▸ List.getElem_mem hk', fun _ => by omega⟩⟩
    ·
      have hno2 : ∀ j (h : j < xs.length), j < k + 1 → xs[j] ≠ y := by
        intro j h hj
        by_cases e : j = k
        · subst e; exact fun e => h16 e.symm
        · exact hno j h (by omega)
      refine K_skip ?_
      refine Q_block ?_
      refine Q_then ?_
      refine K_region ?_
      refine KV (R_add rfl rfl (by omega)) rfl ?_
      refine KV (R_move rfl) rfl ?_
      refine K_nil ?_
      exact Q_next (k + 1) ⟨hk', hno2⟩ (by dsimp only; omega) ⟨rfl, rfl, rfl, rfl, trivial⟩ rfl rfl
  ·
    have hk' : k = xs.length := by omega
    refine K_exit ?_
    refine Q_then_exit ?_
    refine Q_then_exit ?_
    refine Q_block_exit ?_
    refine Q_then ?_
    refine K_seq ?_
    refine K_region ?_
    refine KV (R_assign rfl) rfl ?_
    refine K_nil ?_
    refine Q_then ?_
    refine K_ret ?_
    refine results_gen (rs := [.tmp 4]) (vs := [_]) rfl ⟨rfl, trivial⟩ ?_
    refine ⟨-1, rfl, ⟨fun h => by omega, ?_⟩⟩
    intro hx
    obtain ⟨j, hj, e⟩ := List.getElem_of_mem hx
    exact absurd e (hno j hj (by omega))

theorem mem_spec (y : Int) (xs : List Int) (v : Value) (H : View) (hv : SI H v xs) (hl : xs.length ≤ 1099511627776) : Sat Tryz.prog F97 #[v, .int .i64 y] H (fun r _ => r = .bool (decide (y ∈ xs))) := by
  obtain ⟨a, cp, rfl⟩ := hv.shape
  refine enterO (n := 9) (args := [.slice a xs.length cp, .int .i64 y]) Tryz.func109 rfl rfl rfl fun w0 => ?_
  refine K_seq ?_
  refine K_region ?_
  refine KV (R_assign rfl) rfl ?_
  refine K_nil ?_
  refine Q_then ?_
  refine K_seq ?_
  refine K_region ?_
  refine KV (R_move rfl) rfl ?_
  refine KV (R_move rfl) rfl ?_
  refine K_call c113 rfl rfl (idx_spec y xs _ H hv hl) ?_
  rintro _ V' hle ⟨i, rfl, hi⟩
  refine KV (R_cmp rfl rfl rfl) rfl ?_
  refine KV (R_assign rfl) rfl ?_
  refine K_nil ?_
  refine Q_then ?_
  refine K_ret ?_
  refine results_gen (rs := [.tmp 4]) (vs := [_]) rfl ⟨rfl, trivial⟩ ?_
  refine congrArg Value.bool ?_
  simp only [decide_eq_decide]
  exact hi

theorem acheck_spec (xs : List Int) (v : Value) (H : View) (hv : SI H v xs) (hl : xs.length ≤ 1099511627776) : Sat Tryz.prog F72 #[v] H (fun r _ => r = .int .i64 (ranksErr xs)) := by
  obtain ⟨a, cp, rfl⟩ := hv.shape
  refine enterO (n := 19) (args := [.slice a xs.length cp]) Tryz.func67 rfl rfl rfl fun w0 => ?_
  refine K_seq ?_
  refine K_region ?_
  refine KV (R_assign rfl) rfl ?_
  refine K_nil ?_
  refine Q_then ?_
  refine K_seq ?_
  refine K_block ?_
  refine K_seq ?_
  refine K_region ?_
  refine KV (R_move rfl) rfl ?_
  refine KV (R_len sl47 rfl) rfl ?_
  refine KV (R_cmp rfl rfl rfl) rfl ?_
  refine KV (R_move rfl) rfl ?_
  refine K_split ?_ ?_
  ·
    intro h7
    refine K_gno rfl rfl rfl rfl ?_
    refine K_gno rfl rfl rfl rfl ?_
    refine K_gno rfl rfl rfl rfl ?_
    refine KV (R_pickT rfl rfl) rfl ?_
    refine KV (R_assign rfl) rfl ?_
    refine K_nil ?_
    refine Q_then ?_
    refine K_ifT rfl ?_
    refine K_seq ?_
    refine K_region ?_
    refine KV (R_assign rfl) rfl ?_
    refine K_nil ?_
    refine Q_then ?_
    refine K_ret ?_
    refine Q_block_ret ?_
    refine Q_then_ret ?_
    refine results_gen (rs := [.tmp 2]) (vs := [_]) rfl ⟨rfl, trivial⟩ ?_
    simp only [tupV, ranksErr]
    rw [if_pos (.inl h7)]
  ·
    intro h7
    refine K_gyes rfl rfl ?_
    refine KV (R_move rfl) rfl ?_
    refine K_gyes rfl rfl ?_
    refine KV (R_len sl47 rfl) rfl ?_
    refine K_gyes rfl rfl ?_
    refine KV (R_cmp rfl rfl rfl) rfl ?_
    refine KV (R_pickF rfl rfl) rfl ?_
    refine K_split ?_ ?_
    ·
      intro h11
      refine KV (R_assign rfl) rfl ?_
      refine K_nil ?_
      refine Q_then ?_
      refine K_ifT rfl ?_
      refine K_seq ?_
      refine K_region ?_
      refine KV (R_assign rfl) rfl ?_
      refine K_nil ?_
      refine Q_then ?_
      refine K_ret ?_
      refine Q_block_ret ?_
      refine Q_then_ret ?_
      refine results_gen (rs := [.tmp 2]) (vs := [_]) rfl ⟨rfl, trivial⟩ ?_
      simp only [tupV, ranksErr]
      rw [if_pos (.inr h11)]
    ·
      intro h11
      refine KV (R_assign rfl) rfl ?_
      refine K_nil ?_
      refine Q_then ?_
      refine K_ifF rfl ?_
      refine K_seq ?_
      refine K_region ?_
      refine KV (R_move rfl) rfl ?_
      refine K_call c95 rfl rfl (sacon_spec F96 [] (fun x => decide (x < 0 ∨ 2 < x)) xs _ H hv hl c96 (fun x V _ _ => rank_spec x V)) ?_
      rintro _ V1 hle1 rfl
      refine KV (R_assign rfl) rfl ?_
      refine K_nil ?_
      refine Q_then ?_
      refine K_ifB rfl (fun h12 => ?_) (fun h12 => ?_)
      ·
        refine K_seq ?_
        refine K_region ?_
        refine KV (R_assign rfl) rfl ?_
        refine K_nil ?_
        refine Q_then ?_
        refine K_ret ?_
        refine Q_block_ret ?_
        refine Q_then_ret ?_
        refine results_gen (rs := [.tmp 2]) (vs := [_]) rfl ⟨rfl, trivial⟩ ?_
        simp only [tupV, ranksErr]
        rw [if_neg (by omega), if_pos h12]
      ·
        refine K_seq ?_
        refine K_region ?_
        refine KV (R_move rfl) rfl ?_
        refine K_call c97 rfl rfl (mem_spec 0 xs _ V1 (hv.mono hle1) hl) ?_
        rintro _ V2 hle2 rfl
        refine KV (R_notP rfl) rfl ?_
        refine KV (R_assign rfl) rfl ?_
        refine K_nil ?_
        refine Q_then ?_
        refine K_if rfl (fun h15 => ?_) (fun h15 => ?_)
        ·
          refine K_seq ?_
          refine K_region ?_
          refine KV (R_assign rfl) rfl ?_
          refine K_nil ?_
          refine Q_then ?_
          refine K_ret ?_
          refine Q_block_ret ?_
          refine Q_then_ret ?_
          refine results_gen (rs := [.tmp 2]) (vs := [_]) rfl ⟨rfl, trivial⟩ ?_
          simp only [tupV, ranksErr]
          rw [if_neg (by omega), if_neg (by rw [h12]; simp), if_pos h15]
        ·
          refine K_skip ?_
          refine Q_block ?_
          refine Q_then ?_
          refine K_seq ?_
          refine K_region ?_
          refine KV (R_assign rfl) rfl ?_
          refine K_nil ?_
          refine Q_then ?_
          refine K_ret ?_
          refine results_gen (rs := [.tmp 2]) (vs := [_]) rfl ⟨rfl, trivial⟩ ?_
          simp only [tupV, ranksErr]
          rw [if_neg (by omega), if_neg (by rw [h12]; simp), if_neg h15]

theorem nhas_spec (vr vu vf : Value) (n q : Int) (H : View) : Sat Tryz.prog F101 #[.agg #[vr, .int .i64 n, vu, vf], .int .i64 q] H (fun r _ => r = .bool (decide (0 ≤ q ∧ q < n))) := by
  refine enterO (n := 13) (args := [.agg #[vr, .int .i64 n, vu, vf], .int .i64 q]) Tryz.func69 rfl rfl rfl fun w0 => ?_
  refine K_seq ?_
  refine K_region ?_
  refine KA (A_box rfl) rfl fun b2 => ?_
  refine KV (R_assign rfl) rfl ?_
  refine K_nil ?_
  refine Q_then ?_
  refine K_seq ?_
  refine K_region ?_
  refine KV (R_move rfl) rfl ?_
  refine KV (R_cmp rfl rfl rfl) rfl ?_
  refine KV (R_move rfl) rfl ?_
  refine K_split ?_ ?_
  ·
    intro h7
    refine K_gyes rfl rfl ?_
    refine KV (R_move rfl) rfl ?_
    refine K_gyes rfl rfl ?_
    refine KV (R_fieldAddr 1 fd50_1 rfl) rfl ?_
    refine K_gyes rfl rfl ?_
    refine KV (R_loadO ty3 0 rfl rfl rfl rfl (fun _ => rfl) rfl) rfl ?_
    refine K_gyes rfl rfl ?_
    refine KV (R_cmp rfl rfl rfl) rfl ?_
    refine KV (R_pickT rfl rfl) rfl ?_
    refine KV (R_assign rfl) rfl ?_
    refine K_nil ?_
    refine Q_then ?_
    refine K_ret ?_
    refine results_gen (rs := [.tmp 4]) (vs := [_]) rfl ⟨rfl, trivial⟩ ?_
    simp [tupV, h7]
  ·
    intro h7
    refine K_gno rfl rfl rfl rfl ?_
    refine K_gno rfl rfl rfl rfl ?_
    refine K_gno rfl rfl rfl rfl ?_
    refine K_gno rfl rfl rfl rfl ?_
    refine KV (R_pickF rfl rfl) rfl ?_
    refine KV (R_assign rfl) rfl ?_
    refine K_nil ?_
    refine Q_then ?_
    refine K_ret ?_
    refine results_gen (rs := [.tmp 4]) (vs := [_]) rfl ⟨rfl, trivial⟩ ?_
    simp [tupV, h7]

theorem nbad_spec (vr vu vf : Value) (n : Int) (b : Nat) (q : Int) (H : View) (hb : At H b 0 [vr, .int .i64 n, vu, vf]) : Sat Tryz.prog F100 #[.int .i64 q, ptr b] H (fun r _ => r = .bool (badQ n q)) := by
  refine enterO (n := 8) (args := [.int .i64 q, ptr b]) Tryz.func68 rfl rfl rfl fun w0 => ?_
  refine K_seq ?_
  refine K_region ?_
  refine KV (R_assign rfl) rfl ?_
  refine K_nil ?_
  refine Q_then ?_
  refine K_seq ?_
  refine K_region ?_
  refine KV (R_loadH ty50 rfl (hb) rfl (fun e => by cases e) rfl) rfl ?_
  refine KV (R_move rfl) rfl ?_
  refine K_call c101 rfl rfl (nhas_spec vr vu vf n q H) ?_
  rintro _ V' hle rfl
  refine KV (R_not rfl) rfl ?_
  refine KV (R_assign rfl) rfl ?_
  refine K_nil ?_
  refine Q_then ?_
  refine K_ret ?_
  refine results_gen (rs := [.tmp 3]) (vs := [_]) rfl ⟨rfl, trivial⟩ ?_
  rfl

theorem ncheck_spec (a : Au) (vr vu vf : Value) (H : View) (ha : RepAu H a vr vu vf) : Sat Tryz.prog F77 #[.agg #[vr, .int .i64 a.states, vu, vf]] H (fun r _ => r = .int .i64 (auErr a)) := by
  obtain ⟨ra, rcp, rfl⟩ := ha.r.shape
  obtain ⟨fa, fcp, rfl⟩ := ha.f.shape
  obtain ⟨ua, ucp, rfl⟩ := ha.ushape
  have hrl := ha.rl
  have hul := ha.ul
  have hfl := ha.fl
  refine enterO (n := 74) (args := [.agg #[.slice ra a.ranks.length rcp, .int .i64 a.states, .slice ua a.rules.length ucp, .slice fa a.final.length fcp]]) Tryz.func30 rfl rfl rfl fun w0 => ?_
  refine K_seq ?_
  refine K_region ?_
  refine KA (A_box rfl) rfl fun b1 => ?_
  refine KV (R_assign rfl) rfl ?_
  refine K_nil ?_
  refine KQ_pubblk (by intro x hx; simp [feet] at hx) fun V0 hle0 hb1 => ?_
  have hA := At.of hb1
  have hA0 := hA.one (j := 0) rfl
  have hA1 := hA.one (j := 1) rfl
  have hA2 := hA.one (j := 2) rfl
  have hA3 := hA.one (j := 3) rfl
  refine Q_then ?_
  refine K_seq ?_
  refine K_seq ?_
  refine K_region ?_
  refine KV (R_fieldAddr 0 fd50_0 rfl) rfl ?_
  refine KV (R_loadH ty47 rfl (hA0) rfl (fun _ => rfl) rfl) rfl ?_
  refine K_call c72 rfl rfl (acheck_spec a.ranks _ V0 (ha.r.mono hle0) hrl) ?_
  rintro _ V1 hle1 rfl
  refine KV (R_assign rfl) rfl ?_
  refine K_nil ?_
  refine Q_then ?_
  refine K_seq ?_
  refine K_region ?_
  refine KV (R_move rfl) rfl ?_
  refine KV (R_cmp rfl rfl rfl) rfl ?_
  refine K_nil ?_
  refine Q_then ?_
  refine K_if rfl (fun h11 => ?_) (fun h11 => ?_)
  ·
    refine K_seq ?_
    refine K_region ?_
    refine KV (R_move rfl) rfl ?_
    refine KV (R_assign rfl) rfl ?_
    refine K_nil ?_
    refine Q_then ?_
    refine K_ret ?_
    refine Q_then_ret ?_
    refine results_gen (rs := [.tmp 2]) (vs := [_]) rfl ⟨rfl, trivial⟩ ?_
    simp only [tupV, auErr]
    rw [if_pos h11]
  ·
    refine K_skip ?_
    refine Q_then ?_
    refine K_seq ?_
    refine K_seq ?_
    refine K_region ?_
    refine KV (R_fieldAddr 1 fd50_1 rfl) rfl ?_
    refine KV (R_loadH ty3 rfl (hA1.mono hle1) rfl (fun _ => rfl) rfl) rfl ?_
    refine KV (R_cmp rfl rfl rfl) rfl ?_
    refine KV (R_move rfl) rfl ?_
    refine K_split ?_ ?_
    ·
      intro h16
      refine K_gno rfl rfl rfl rfl ?_
      refine K_gno rfl rfl rfl rfl ?_
      refine K_gno rfl rfl rfl rfl ?_
      refine KV (R_pickT rfl rfl) rfl ?_
      refine KV (R_move rfl) rfl ?_
      refine K_gno rfl rfl rfl rfl ?_
      refine K_gno rfl rfl rfl rfl ?_
      refine K_gno rfl rfl rfl rfl ?_
      refine K_gno rfl rfl rfl rfl ?_
      refine KV (R_pickT rfl rfl) rfl ?_
      refine K_nil ?_
      refine Q_then ?_
      refine K_ifT rfl ?_
      refine K_seq ?_
      refine K_region ?_
      refine KV (R_assign rfl) rfl ?_
      refine K_nil ?_
      refine Q_then ?_
      refine K_ret ?_
      refine Q_then_ret ?_
      refine results_gen (rs := [.tmp 2]) (vs := [_]) rfl ⟨rfl, trivial⟩ ?_
      simp only [tupV, auErr]
      rw [if_neg h11, if_pos (.inl h16)]
    ·
      intro h16
      refine K_gyes rfl rfl ?_
      refine KV (R_fieldAddr 1 fd50_1 rfl) rfl ?_
      refine K_gyes rfl rfl ?_
      refine KV (R_loadH ty3 rfl (hA1.mono hle1) rfl (fun _ => rfl) rfl) rfl ?_
      refine K_gyes rfl rfl ?_
      refine KV (R_cmp rfl rfl rfl) rfl ?_
      refine KV (R_pickF rfl rfl) rfl ?_
      refine KV (R_move rfl) rfl ?_
      refine K_split ?_ ?_
      ·
        intro h21
        refine K_gno rfl rfl rfl rfl ?_
        refine K_gno rfl rfl rfl rfl ?_
        refine K_gno rfl rfl rfl rfl ?_
        refine K_gno rfl rfl rfl rfl ?_
        refine KV (R_pickT rfl rfl) rfl ?_
        refine K_nil ?_
        refine Q_then ?_
        refine K_ifT rfl ?_
        refine K_seq ?_
        refine K_region ?_
        refine KV (R_assign rfl) rfl ?_
        refine K_nil ?_
        refine Q_then ?_
        refine K_ret ?_
        refine Q_then_ret ?_
        refine results_gen (rs := [.tmp 2]) (vs := [_]) rfl ⟨rfl, trivial⟩ ?_
        simp only [tupV, auErr]
        rw [if_neg h11, if_pos (.inr (.inl h21))]
      ·
        intro h21
        refine K_gyes rfl rfl ?_
        refine KV (R_fieldAddr 2 fd50_2 rfl) rfl ?_
        refine K_gyes rfl rfl ?_
        refine KV (R_loadH ty48 rfl (hA2.mono hle1) rfl (fun _ => rfl) rfl) rfl ?_
        refine K_gyes rfl rfl ?_
        refine KV (R_len sl48 rfl) rfl ?_
        refine K_gyes rfl rfl ?_
        refine KV (R_cmp rfl rfl rfl) rfl ?_
        refine KV (R_pickF rfl rfl) rfl ?_
        refine K_nil ?_
        refine Q_then ?_
        refine K_if rfl (fun h26 => ?_) (fun h26 => ?_)
        ·
          refine K_seq ?_
          refine K_region ?_
          refine KV (R_assign rfl) rfl ?_
          refine K_nil ?_
          refine Q_then ?_
          refine K_ret ?_
          refine Q_then_ret ?_
          refine results_gen (rs := [.tmp 2]) (vs := [_]) rfl ⟨rfl, trivial⟩ ?_
          simp only [tupV, auErr]
          rw [if_neg h11, if_pos (.inr (.inr h26))]
        ·
          refine K_skip ?_
          refine Q_then ?_
          refine K_seq ?_
          refine K_region ?_
          refine KV (R_makeFunc rfl rfl) rfl ?_
          refine KV (R_assign rfl) rfl ?_
          refine K_nil ?_
          refine Q_then ?_
          refine K_seq ?_
          refine K_seq ?_
          refine K_region ?_
          refine KV (R_fieldAddr 2 fd50_2 rfl) rfl ?_
          refine KV (R_loadH ty48 rfl (hA2.mono hle1) rfl (fun _ => rfl) rfl) rfl ?_
          refine KV (R_len sl48 rfl) rfl ?_
          refine KV (R_move rfl) rfl ?_
          refine K_nil ?_
          refine Q_then ?_
          refine K_block ?_
          refine K_loop (G := Nat × View) ⟨fun g => [(1, ptr b1), (4, .func (.func F100) #[] #[ptr b1]), (29, .slice ua a.rules.length ucp), (30, .int .i64 a.rules.length), (31, .int .i64 (g.1 : Int))], fun g => [], fun g => g.2, fun g => g.1 ≤ a.rules.length ∧ VLe V0 g.2 ∧ ∀ j (hj : j < a.rules.length), j < g.1 → ruleErr a a.rules[j] = 0, fun g => a.rules.length - g.1⟩ (0, V1) ⟨Nat.zero_le _, hle1, fun j _ h => by simp at h⟩ ⟨rfl, rfl, rfl, rfl, rfl, trivial⟩ rfl rfl ?_
          rintro ⟨k, V⟩ ⟨hk, hV, hno⟩
          dsimp only at hk hV hno ⊢
          have hbase : auErr a = if rulesErr a a.rules ≠ 0 then rulesErr a a.rules else if (a.final.any (badQ a.states)) = true then 2 else 0 := by
            unfold auErr
            rw [if_neg h11, if_neg (by omega)]
          refine K_seq ?_
          refine K_region ?_
          refine KV (R_cmp rfl rfl rfl) rfl ?_
          refine K_nil ?_
          refine Q_then ?_
          refine K_seq ?_
          refine K_if rfl (fun h32 => ?_) (fun h32 => ?_)
          ·
            have hk' : k < a.rules.length := by omega
            obtain ⟨ub, uo, ucp2, xa, xcp, hue, hrc, hsr, hsym, hto, hal⟩ := (ha.mono (hle0.trans hV)).rule hk'
            cases hue
            have hre : ruleErr a a.rules[k] ≠ 0 → auErr a = ruleErr a a.rules[k] := fun h => by rw [hbase, rulesErr_take hno hk' h, if_pos h]
            refine K_skip ?_
            refine Q_then ?_
            refine K_seq ?_
            refine K_block ?_
            refine K_seq ?_
            refine K_region ?_
            refine KV (R_indexN sl48 ty85 rfl rfl (by omega)) rfl ?_
            refine KV (R_loadH ty85 rfl (hrc) rfl (fun e => by cases e) rfl) rfl ?_
            refine KA (A_alloc z85) rfl fun b6 => ?_
            refine K_store ty85 0 rfl rfl rfl rfl rfl rfl ?_
            refine K_nil ?_
            refine Q_then ?_
            refine K_block ?_
            refine K_seq ?_
            refine K_region ?_
            refine KV (R_fieldAddr 0 fd85_0 rfl) rfl ?_
            refine KV (R_loadO ty3 0 rfl rfl rfl rfl (fun _ => rfl) rfl) rfl ?_
            refine KV (R_cmp rfl rfl rfl) rfl ?_
            refine KV (R_move rfl) rfl ?_
            refine K_split ?_ ?_
            ·
              intro h39
              refine K_gno rfl rfl rfl rfl ?_
              refine K_gno rfl rfl rfl rfl ?_
              refine K_gno rfl rfl rfl rfl ?_
              refine K_gno rfl rfl rfl rfl ?_
              refine K_gno rfl rfl rfl rfl ?_
              refine K_gno rfl rfl rfl rfl ?_
              refine KV (R_pickT rfl rfl) rfl ?_
              refine KV (R_assign rfl) rfl ?_
              refine K_nil ?_
              refine Q_then ?_
              refine K_ifT rfl ?_
              refine K_seq ?_
              refine K_region ?_
              refine KV (R_assign rfl) rfl ?_
              refine K_nil ?_
              refine Q_then ?_
              refine K_ret ?_
              refine Q_block_ret ?_
              refine Q_block_ret ?_
              refine Q_then_ret ?_
              refine Q_then_ret ?_
              refine Q_block_ret ?_
              refine Q_then_ret ?_
              refine results_gen (rs := [.tmp 2]) (vs := [_]) rfl ⟨rfl, trivial⟩ ?_
              have e : ruleErr a a.rules[k] = 6 := by
                simp only [ruleErr]
                rw [if_pos (.inl h39)]
              rw [hre (by rw [e]; decide), e]
              rfl
            ·
              intro h39
              have hs0 : 0 ≤ a.rules[k].sym := by omega
              refine K_gyes rfl rfl ?_
              refine KV (R_fieldAddr 0 fd85_0 rfl) rfl ?_
              refine K_gyes rfl rfl ?_
              refine KV (R_loadO ty3 0 rfl rfl rfl rfl (fun _ => rfl) rfl) rfl ?_
              refine K_gyes rfl rfl ?_
              refine KV (R_fieldAddr 0 fd50_0 rfl) rfl ?_
              refine K_gyes rfl rfl ?_
              refine KV (R_loadH ty47 rfl (hA0.mono hV) rfl (fun _ => rfl) rfl) rfl ?_
              refine K_gyes rfl rfl ?_
              refine KV (R_len sl47 rfl) rfl ?_
              refine K_gyes rfl rfl ?_
              refine KV (R_cmp rfl rfl rfl) rfl ?_
              refine KV (R_pickF rfl rfl) rfl ?_
              refine KV (R_assign rfl) rfl ?_
              refine K_nil ?_
              refine Q_then ?_
              refine K_if rfl (fun h35 => ?_) (fun h35 => ?_)
              ·
                refine K_seq ?_
                refine K_region ?_
                refine KV (R_assign rfl) rfl ?_
                refine K_nil ?_
                refine Q_then ?_
                refine K_ret ?_
                refine Q_block_ret ?_
                refine Q_block_ret ?_
                refine Q_then_ret ?_
                refine Q_then_ret ?_
                refine Q_block_ret ?_
                refine Q_then_ret ?_
                refine results_gen (rs := [.tmp 2]) (vs := [_]) rfl ⟨rfl, trivial⟩ ?_
                have e : ruleErr a a.rules[k] = 6 := by
                  simp only [ruleErr]
                  rw [if_pos (.inr h35)]
                rw [hre (by rw [e]; decide), e]
                rfl
              ·
                have hs1 : a.rules[k].sym < a.ranks.length := by omega
                have hs2 : a.rules[k].sym.toNat < a.ranks.length := by omega
                obtain ⟨rb, ro, rfl, hrk⟩ := (ha.mono (hle0.trans hV)).r.get hs2
                have hgd : a.ranks.getD a.rules[k].sym.toNat 0 = a.ranks[a.rules[k].sym.toNat] := by simp [List.getD, hs2]
                refine K_seq ?_
                refine K_regionD (fin := false) (R := [0, 1, 2, 3, 4, 5, 6, 7, 8, 9, 10]) (by kernel_rfl) mixed (.cons_cons _ (List.nil_sublist _)) ?_
                refine D_val rfl rfl rfl (R_fieldAddr 1 fd85_1 rfl) ?_
                refine D_val rfl rfl rfl (R_loadO ty25 0 rfl rfl rfl rfl (fun _ => rfl) rfl) ?_
                refine D_val rfl rfl rfl (R_len sl25 rfl) ?_
                refine D_val rfl rfl rfl (R_fieldAddr 0 fd50_0 rfl) ?_
                refine D_val rfl rfl rfl (R_loadH ty47 rfl (hA0.mono hV) rfl (fun _ => rfl) rfl) ?_
                refine D_val rfl rfl rfl (R_fieldAddr 0 fd85_0 rfl) ?_
                refine D_val rfl rfl rfl (R_loadO ty3 0 rfl rfl rfl rfl (fun _ => rfl) rfl) ?_
                refine D_val rfl rfl rfl (R_index sl47 ty3 rfl rfl ⟨hs0, hs1⟩) ?_
                refine D_val rfl rfl rfl (R_loadH ty3 rfl (hrk) rfl (fun _ => rfl) rfl) ?_
                refine D_val rfl rfl rfl (R_cmp rfl rfl rfl) ?_
                refine D_val rfl rfl rfl (R_assign rfl) ?_
                refine D_done ?_
                refine Q_then ?_
                refine K_if rfl (fun h47 => ?_) (fun h47 => ?_)
                ·
                  refine K_seq ?_
                  refine K_region ?_
                  refine KV (R_assign rfl) rfl ?_
                  refine K_nil ?_
                  refine Q_then ?_
                  refine K_ret ?_
                  refine Q_block_ret ?_
                  refine Q_block_ret ?_
                  refine Q_then_ret ?_
                  refine Q_then_ret ?_
                  refine Q_block_ret ?_
                  refine Q_then_ret ?_
                  refine results_gen (rs := [.tmp 2]) (vs := [_]) rfl ⟨rfl, trivial⟩ ?_
                  have e : ruleErr a a.rules[k] = 3 := by
                    simp only [ruleErr]
                    rw [if_neg (by omega), hgd, if_pos h47]
                  rw [hre (by rw [e]; decide), e]
                  rfl
                ·
                  refine K_seq ?_
                  refine K_region ?_
                  refine KV (R_fieldAddr 1 fd85_1 rfl) rfl ?_
                  refine KV (R_loadO ty25 0 rfl rfl rfl rfl (fun _ => rfl) rfl) rfl ?_
                  refine KV (R_move rfl) rfl ?_
                  refine K_call c86 rfl rfl (sicon_spec F100 [ptr b1] (badQ a.states) a.rules[k].args _ V hsr hal c100 (fun x W _ hW => nbad_spec _ _ _ a.states b1 x W (hA.mono (hV.trans hW)))) ?_
                  rintro _ V2 hle2 rfl
                  refine KV (R_move rfl) rfl ?_
                  refine K_splitB ?_ ?_
                  ·
                    intro h63
                    refine K_gno rfl rfl rfl rfl ?_
                    refine K_gno rfl rfl rfl rfl ?_
                    refine K_gno rfl rfl rfl rfl ?_
                    refine K_gno rfl rfl rfl rfl ?_
                    refine KV (R_pickT rfl rfl) rfl ?_
                    refine KV (R_assign rfl) rfl ?_
                    refine K_nil ?_
                    refine Q_then ?_
                    refine K_ifT rfl ?_
                    refine K_seq ?_
                    refine K_region ?_
                    refine KV (R_assign rfl) rfl ?_
                    refine K_nil ?_
                    refine Q_then ?_
                    refine K_ret ?_
                    refine Q_block_ret ?_
                    refine Q_block_ret ?_
                    refine Q_then_ret ?_
                    refine Q_then_ret ?_
                    refine Q_block_ret ?_
                    refine Q_then_ret ?_
                    refine results_gen (rs := [.tmp 2]) (vs := [_]) rfl ⟨rfl, trivial⟩ ?_
                    have e : ruleErr a a.rules[k] = 2 := by
                      simp only [ruleErr]
                      rw [if_neg (by omega), hgd, if_neg h47, h63]; rfl
                    rw [hre (by rw [e]; decide), e]
                    rfl
                  ·
                    intro h63
                    refine K_gyes rfl rfl ?_
                    refine KV (R_move rfl) rfl ?_
                    refine K_gyes rfl rfl ?_
                    refine KV (R_fieldAddr 2 fd85_2 rfl) rfl ?_
                    refine K_gyes rfl rfl ?_
                    refine KV (R_loadO ty3 0 rfl rfl rfl rfl (fun _ => rfl) rfl) rfl ?_
                    refine K_gyes rfl rfl ?_
                    refine K_callO (first := []) [] _ (List.Perm.refl _) c100 rfl rfl rfl (nbad_spec _ _ _ a.states b1 a.rules[k].to V2 (hA.mono (hV.trans hle2))) ?_
                    rintro _ V3 q hle3 rfl
                    refine KO_own _ (List.sublist_append_right q _) ?_
                    refine KV (R_pickF rfl rfl) rfl ?_
                    refine KV (R_assign rfl) rfl ?_
                    refine K_nil ?_
                    refine Q_then ?_
                    refine K_ifB rfl (fun h58 => ?_) (fun h58 => ?_)
                    ·
                      refine K_seq ?_
                      refine K_region ?_
                      refine KV (R_assign rfl) rfl ?_
                      refine K_nil ?_
                      refine Q_then ?_
                      refine K_ret ?_
                      refine Q_block_ret ?_
                      refine Q_block_ret ?_
                      refine Q_then_ret ?_
                      refine Q_then_ret ?_
                      refine Q_block_ret ?_
                      refine Q_then_ret ?_
                      refine results_gen (rs := [.tmp 2]) (vs := [_]) rfl ⟨rfl, trivial⟩ ?_
                      have e : ruleErr a a.rules[k] = 2 := by
                        simp only [ruleErr]
                        rw [if_neg (by omega), hgd, if_neg h47, h63, h58]; rfl
                      rw [hre (by rw [e]; decide), e]
                      rfl
                    ·
                      have hno2 : ∀ j (hj : j < a.rules.length), j < k + 1 → ruleErr a a.rules[j] = 0 := by
                        intro j hj hjk
                        by_cases e : j = k
                        · subst e
                          simp only [ruleErr]
                          rw [if_neg (by omega), hgd, if_neg h47, h63, h58]
                          simp
                        · exact hno j hj (by omega)
                      refine K_skip ?_
                      refine Q_block ?_
                      refine Q_block ?_
                      refine Q_then ?_
                      refine K_region ?_
                      refine KV (R_add rfl rfl (by omega)) rfl ?_
                      refine KV (R_move rfl) rfl ?_
                      refine K_nil ?_
                      refine KQ_sel [] rfl ?_
                      exact Q_next (k + 1, V3) ⟨hk', hV.trans (hle2.trans hle3), hno2⟩ (by dsimp only; omega) ⟨rfl, rfl, rfl, rfl, rfl, trivial⟩ rfl rfl
          ·
            have hk' : k = a.rules.length := by omega
            subst hk'
            have hrz : rulesErr a a.rules = 0 := rulesErr_zero fun j hj => hno j hj hj
            rw [hrz, if_neg (by decide)] at hbase
            refine K_exit ?_
            refine Q_then_exit ?_
            refine Q_then_exit ?_
            refine Q_block_exit ?_
            refine Q_then ?_
            refine K_seq ?_
            refine K_seq ?_
            refine K_region ?_
            refine KV (R_fieldAddr 3 fd50_3 rfl) rfl ?_
            refine KV (R_loadH ty25 rfl (hA3.mono hV) rfl (fun _ => rfl) rfl) rfl ?_
            refine KV (R_move rfl) rfl ?_
            refine K_call c86 rfl rfl (sicon_spec F100 [ptr b1] (badQ a.states) a.final _ V ((ha.mono (hle0.trans hV)).f) hfl c100 (fun x W _ hW => nbad_spec _ _ _ a.states b1 x W (hA.mono (hV.trans hW)))) ?_
            rintro _ V2 hle2 rfl
            refine K_nil ?_
            refine Q_then ?_
            refine K_ifB rfl (fun h73 => ?_) (fun h73 => ?_)
            ·
              refine K_seq ?_
              refine K_region ?_
              refine KV (R_assign rfl) rfl ?_
              refine K_nil ?_
              refine Q_then ?_
              refine K_ret ?_
              refine Q_then_ret ?_
              refine results_gen (rs := [.tmp 2]) (vs := [_]) rfl ⟨rfl, trivial⟩ ?_
              rw [hbase, if_pos h73]
              rfl
            ·
              refine K_skip ?_
              refine Q_then ?_
              refine K_seq ?_
              refine K_region ?_
              refine KV (R_assign rfl) rfl ?_
              refine K_nil ?_
              refine Q_then ?_
              refine K_ret ?_
              refine results_gen (rs := [.tmp 2]) (vs := [_]) rfl ⟨rfl, trivial⟩ ?_
              rw [hbase, h73]
              rfl
end Go.Proofs.X

namespace Go.Proofs.X
open Go Pal Go.Proofs
attribute [local irreducible] Pal.KO Pal.KC Pal.KQ Pal.KD
theorem ty28 : Ty Tryz.prog T28 false 1 := .of (by kernel_rfl)
theorem ty30 : Ty Tryz.prog T30 true 2 := .of (by kernel_rfl)
theorem sl28 : slcOk Tryz.prog T28 T30 := by unfold slcOk; kernel_rfl
theorem fd30_1 : fldOk Tryz.prog T30 1 1 = true := by kernel_rfl
theorem z30 : zeroOk Tryz.prog T30 (.agg #[.int .i64 0, .slice none 0 0]) := .of (by kernel_rfl)
theorem pl30 : placesOk Tryz.prog T30 [(0, 1), (1, 1)] := ⟨_, Tryz.underlying42, by kernel_rfl⟩
end Go.Proofs.X

namespace Go.Proofs.X
open Go Pal Go.Proofs
attribute [local irreducible] Pal.KO Pal.KC Pal.KQ Pal.KD
theorem z3 : zeroOk Tryz.prog T3 (.int .i64 0) := .of (by kernel_rfl)
theorem c2 : callable Tryz.prog F2 = true := by kernel_rfl
theorem ap25 : App Tryz.prog T25 T3 1 8 := .of sl25 (by kernel_rfl)
theorem ap47 : App Tryz.prog T47 T3 1 8 := .of sl47 (by kernel_rfl)
theorem clone47_spec (xs : List Int) (v : Value) (H : View) (hv : SI H v xs) (hl : xs.length ≤ 1099511627776) : Sat Tryz.prog F45 #[v] H (fun w H' => SI H' w xs) := by
  obtain ⟨a, cp, rfl⟩ := hv.shape
  refine enterO (n := 8) (args := [.slice a xs.length cp]) Tryz.func78 rfl rfl rfl fun w0 => ?_
  refine K_seq ?_
  refine K_region ?_
  refine KV (R_assign rfl) rfl ?_
  refine K_nil ?_
  refine Q_then ?_
  refine K_seq ?_
  refine K_seq ?_
  refine K_region ?_
  refine KV (R_move rfl) rfl ?_
  refine KV (R_sliceNil sl47 rfl rfl) rfl ?_
  refine K_nil ?_
  refine Q_then ?_
  cases a with
  | none =>
    obtain ⟨a2, c2, h2, h3⟩ := hv.1
    cases h2
    have hx0 : xs = [] := by
      rcases h3 with ⟨h3, _⟩ | ⟨b, off, h3, _⟩
      · exact List.eq_nil_of_length_eq_zero h3
      · cases h3
    subst hx0
    refine K_ifT rfl ?_
    refine K_seq ?_
    refine K_region ?_
    refine KV (R_assign rfl) rfl ?_
    refine K_nil ?_
    refine Q_then ?_
    refine K_ret ?_
    refine Q_then_ret ?_
    refine results_gen (rs := [.tmp 2]) (vs := [_]) rfl ⟨rfl, trivial⟩ ?_
    exact ⟨⟨none, 0, rfl, .inl ⟨rfl, rfl⟩⟩, by simp⟩
  | some aa =>
    refine K_ifF rfl ?_
    refine K_skip ?_
    refine Q_then ?_
    refine K_seq ?_
    refine K_region ?_
    refine KA (A_buildSlice (vs := []) sl47 ty3 z3 rfl rfl (by simp) (by simp) rfl (by decide)) rfl fun b5 => ?_
    refine KV (R_move rfl) rfl ?_
    refine K_appendPubH (k := 0) (xs := []) ap47 rfl ⟨_, 0, rfl, .inl ⟨rfl, rfl⟩⟩ rfl rfl hv.1 (by simp [ints]) ⟨by omega, by omega⟩ rfl fun v7 V1 hle1 hv7 => ?_
    refine KV (R_assign rfl) rfl ?_
    refine K_nil ?_
    refine Q_then ?_
    refine K_ret ?_
    refine results_gen (rs := [.tmp 2]) (vs := [_]) rfl ⟨rfl, trivial⟩ ?_
    refine ⟨?_, hv.2⟩
    have h7 := hv7.1
    rw [Nat.zero_add, List.nil_append] at h7
    exact h7

end Go.Proofs.X

namespace Go.Proofs.X
open Go Pal Go.Proofs
attribute [local irreducible] Pal.KO Pal.KC Pal.KQ Pal.KD

theorem cmpl_spec (xs ys : List Int) (v w : Value) (H : View) (hv : SI H v xs) (hw : SI H w ys) (hx : xs.length ≤ 1099511627776) (hy : ys.length ≤ 1099511627776) : Sat Tryz.prog F60 #[v, w] H (fun r _ => r = .int .i64 (cmpL xs ys)) := by
  obtain ⟨xa, xcp, rfl⟩ := hv.shape
  obtain ⟨ya, ycp, rfl⟩ := hw.shape
  refine enterO (n := 46) (args := [.slice xa xs.length xcp, .slice ya ys.length ycp]) Tryz.func21 rfl rfl rfl fun w0 => ?_
  refine K_seq ?_
  refine K_region ?_
  refine KV (R_assign rfl) rfl ?_
  refine K_nil ?_
  refine Q_then ?_
  refine K_seq ?_
  refine K_seq ?_
  refine K_region ?_
  refine KV (R_assign rfl) rfl ?_
  refine K_nil ?_
  refine Q_then ?_
  refine K_block ?_
  refine K_loop (G := Nat) ⟨fun g => [(0, .slice xa xs.length xcp), (1, .slice ya ys.length ycp), (5, .int .i64 (g : Int))], fun g => [], fun g => H, fun g => g ≤ xs.length ∧ g ≤ ys.length ∧ cmpL xs ys = cmpL (xs.drop g) (ys.drop g), fun g => xs.length - g⟩ 0 ⟨Nat.zero_le _, Nat.zero_le _, rfl⟩ ⟨rfl, rfl, rfl, trivial⟩ rfl rfl ?_
  rintro k ⟨hk1, hk2, hc⟩
  dsimp only at hk1 hk2 hc ⊢
  refine K_seq ?_
  refine K_seq ?_
  refine K_region ?_
  refine KV (R_move rfl) rfl ?_
  refine KV (R_move rfl) rfl ?_
  refine KV (R_len sl25 rfl) rfl ?_
  refine KV (R_cmp rfl rfl rfl) rfl ?_
  refine KV (R_move rfl) rfl ?_
  refine K_split ?_ ?_
  ·
    intro h10
    refine K_gyes rfl rfl ?_
    refine KV (R_move rfl) rfl ?_
    refine K_gyes rfl rfl ?_
    refine KV (R_move rfl) rfl ?_
    refine K_gyes rfl rfl ?_
    refine KV (R_len sl25 rfl) rfl ?_
    refine K_gyes rfl rfl ?_
    refine KV (R_cmp rfl rfl rfl) rfl ?_
    refine KV (R_pickT rfl rfl) rfl ?_
    refine K_nil ?_
    refine Q_then ?_
    refine K_if rfl (fun h15 => ?_) (fun h15 => ?_)
    ·
      have hx1 : k < xs.length := by omega
      have hy1 : k < ys.length := by omega
      obtain ⟨xb, xo, rfl, hxa⟩ := hv.get hx1
      obtain ⟨yb, yo, rfl, hya⟩ := hw.get hy1
      have hcx : cmpL (xs.drop k) (ys.drop k) = if xs[k] < ys[k] then -1 else if ys[k] < xs[k] then 1 else cmpL (xs.drop (k + 1)) (ys.drop (k + 1)) := by
        rw [List.drop_eq_getElem_cons hx1, List.drop_eq_getElem_cons hy1]; rfl
      refine K_skip ?_
      refine Q_then ?_
      refine K_seq ?_
      refine K_block ?_
      refine K_seq ?_
      refine K_seq ?_
      refine K_regionD (fin := false) (R := [0, 1, 2, 3, 4, 5, 6, 7, 8]) (by kernel_rfl) mixed (List.nil_sublist _) ?_
      refine D_val rfl rfl rfl (R_move rfl) ?_
      refine D_val rfl rfl rfl (R_move rfl) ?_
      refine D_val rfl rfl rfl (R_indexN sl25 ty3 rfl rfl (by omega)) ?_
      refine D_val rfl rfl rfl (R_loadH ty3 rfl (hxa) rfl (fun _ => rfl) rfl) ?_
      refine D_val rfl rfl rfl (R_move rfl) ?_
      refine D_val rfl rfl rfl (R_move rfl) ?_
      refine D_val rfl rfl rfl (R_indexN sl25 ty3 rfl rfl (by omega)) ?_
      refine D_val rfl rfl rfl (R_loadH ty3 rfl (hya) rfl (fun _ => rfl) rfl) ?_
      refine D_val rfl rfl rfl (R_cmp rfl rfl rfl) ?_
      refine D_done ?_
      refine Q_then ?_
      refine K_if rfl (fun h26 => ?_) (fun h26 => ?_)
      ·
        refine K_seq ?_
        refine K_region ?_
        refine KV (R_assign rfl) rfl ?_
        refine K_nil ?_
        refine Q_then ?_
        refine K_ret ?_
        refine Q_then_ret ?_
        refine Q_block_ret ?_
        refine Q_then_ret ?_
        refine Q_then_ret ?_
        refine Q_block_ret ?_
        refine Q_then_ret ?_
        refine results_gen (rs := [.tmp 4]) (vs := [_]) rfl ⟨rfl, trivial⟩ ?_
        rw [hc, hcx, if_pos h26]
        rfl
      ·
        refine K_skip ?_
        refine Q_then ?_
        refine K_seq ?_
        refine K_regionD (fin := false) (R := [0, 1, 2, 3, 4, 5, 6, 7, 8]) (by kernel_rfl) mixed (List.nil_sublist _) ?_
        refine D_val rfl rfl rfl (R_move rfl) ?_
        refine D_val rfl rfl rfl (R_move rfl) ?_
        refine D_val rfl rfl rfl (R_indexN sl25 ty3 rfl rfl (by omega)) ?_
        refine D_val rfl rfl rfl (R_loadH ty3 rfl (hxa) rfl (fun _ => rfl) rfl) ?_
        refine D_val rfl rfl rfl (R_move rfl) ?_
        refine D_val rfl rfl rfl (R_move rfl) ?_
        refine D_val rfl rfl rfl (R_indexN sl25 ty3 rfl rfl (by omega)) ?_
        refine D_val rfl rfl rfl (R_loadH ty3 rfl (hya) rfl (fun _ => rfl) rfl) ?_
        refine D_val rfl rfl rfl (R_cmp rfl rfl rfl) ?_
        refine D_done ?_
        refine Q_then ?_
        refine K_if rfl (fun h35 => ?_) (fun h35 => ?_)
        ·
          refine K_seq ?_
          refine K_region ?_
          refine KV (R_assign rfl) rfl ?_
          refine K_nil ?_
          refine Q_then ?_
          refine K_ret ?_
          refine Q_block_ret ?_
          refine Q_then_ret ?_
          refine Q_then_ret ?_
          refine Q_block_ret ?_
          refine Q_then_ret ?_
          refine results_gen (rs := [.tmp 4]) (vs := [_]) rfl ⟨rfl, trivial⟩ ?_
          rw [hc, hcx, if_neg h26, if_pos h35]
          rfl
        ·
          refine K_skip ?_
          refine Q_block ?_
          refine Q_then ?_
          refine K_region ?_
          refine KV (R_move rfl) rfl ?_
          refine KV (R_add rfl rfl (by omega)) rfl ?_
          refine KV (R_assign rfl) rfl ?_
          refine K_nil ?_
          exact Q_next (k + 1) ⟨hx1, hy1, by rw [hc, hcx, if_neg h26, if_neg h35]⟩ (by dsimp only; omega) ⟨rfl, rfl, rfl, trivial⟩ rfl rfl
    ·
      have hend := cmpL_end hk1 hk2 (.inr (by omega))
      refine K_exit ?_
      refine Q_then_exit ?_
      refine Q_then_exit ?_
      refine Q_block_exit ?_
      refine Q_then ?_
      refine K_seq ?_
      refine K_seq ?_
      refine K_region ?_
      refine KV (R_move rfl) rfl ?_
      refine KV (R_len sl25 rfl) rfl ?_
      refine KV (R_move rfl) rfl ?_
      refine KV (R_len sl25 rfl) rfl ?_
      refine KV (R_cmp rfl rfl rfl) rfl ?_
      refine K_nil ?_
      refine Q_then ?_
      refine K_if rfl (fun h40 => ?_) (fun h40 => ?_)
      ·
        refine K_seq ?_
        refine K_region ?_
        refine KV (R_assign rfl) rfl ?_
        refine K_nil ?_
        refine Q_then ?_
        refine K_ret ?_
        refine Q_then_ret ?_
        refine results_gen (rs := [.tmp 4]) (vs := [_]) rfl ⟨rfl, trivial⟩ ?_
        rw [hc, hend, if_pos (by omega)]
        rfl
      ·
        refine K_skip ?_
        refine Q_then ?_
        refine K_seq ?_
        refine K_seq ?_
        refine K_region ?_
        refine KV (R_move rfl) rfl ?_
        refine KV (R_len sl25 rfl) rfl ?_
        refine KV (R_move rfl) rfl ?_
        refine KV (R_len sl25 rfl) rfl ?_
        refine KV (R_cmp rfl rfl rfl) rfl ?_
        refine K_nil ?_
        refine Q_then ?_
        refine K_if rfl (fun h45 => ?_) (fun h45 => ?_)
        ·
          refine K_seq ?_
          refine K_region ?_
          refine KV (R_assign rfl) rfl ?_
          refine K_nil ?_
          refine Q_then ?_
          refine K_ret ?_
          refine Q_then_ret ?_
          refine results_gen (rs := [.tmp 4]) (vs := [_]) rfl ⟨rfl, trivial⟩ ?_
          rw [hc, hend, if_neg (by omega), if_pos (by omega)]
          rfl
        ·
          refine K_skip ?_
          refine Q_then ?_
          refine K_seq ?_
          refine K_region ?_
          refine KV (R_assign rfl) rfl ?_
          refine K_nil ?_
          refine Q_then ?_
          refine K_ret ?_
          refine results_gen (rs := [.tmp 4]) (vs := [_]) rfl ⟨rfl, trivial⟩ ?_
          rw [hc, hend, if_neg (by omega), if_neg (by omega)]
          rfl
  ·
    intro h10
    have hend := cmpL_end hk1 hk2 (.inl (by omega))
    refine K_gno rfl rfl rfl rfl ?_
    refine K_gno rfl rfl rfl rfl ?_
    refine K_gno rfl rfl rfl rfl ?_
    refine K_gno rfl rfl rfl rfl ?_
    refine KV (R_pickF rfl rfl) rfl ?_
    refine K_nil ?_
    refine Q_then ?_
    refine K_ifF rfl ?_
    refine K_exit ?_
    refine Q_then_exit ?_
    refine Q_then_exit ?_
    refine Q_block_exit ?_
    refine Q_then ?_
    refine K_seq ?_
    refine K_seq ?_
    refine K_region ?_
    refine KV (R_move rfl) rfl ?_
    refine KV (R_len sl25 rfl) rfl ?_
    refine KV (R_move rfl) rfl ?_
    refine KV (R_len sl25 rfl) rfl ?_
    refine KV (R_cmp rfl rfl rfl) rfl ?_
    refine K_nil ?_
    refine Q_then ?_
    refine K_if rfl (fun h40 => ?_) (fun h40 => ?_)
    ·
      refine K_seq ?_
      refine K_region ?_
      refine KV (R_assign rfl) rfl ?_
      refine K_nil ?_
      refine Q_then ?_
      refine K_ret ?_
      refine Q_then_ret ?_
      refine results_gen (rs := [.tmp 4]) (vs := [_]) rfl ⟨rfl, trivial⟩ ?_
      rw [hc, hend, if_pos (by omega)]
      rfl
    ·
      refine K_skip ?_
      refine Q_then ?_
      refine K_seq ?_
      refine K_seq ?_
      refine K_region ?_
      refine KV (R_move rfl) rfl ?_
      refine KV (R_len sl25 rfl) rfl ?_
      refine KV (R_move rfl) rfl ?_
      refine KV (R_len sl25 rfl) rfl ?_
      refine KV (R_cmp rfl rfl rfl) rfl ?_
      refine K_nil ?_
      refine Q_then ?_
      refine K_if rfl (fun h45 => ?_) (fun h45 => ?_)
      ·
        refine K_seq ?_
        refine K_region ?_
        refine KV (R_assign rfl) rfl ?_
        refine K_nil ?_
        refine Q_then ?_
        refine K_ret ?_
        refine Q_then_ret ?_
        refine results_gen (rs := [.tmp 4]) (vs := [_]) rfl ⟨rfl, trivial⟩ ?_
        rw [hc, hend, if_neg (by omega), if_pos (by omega)]
        rfl
      ·
        refine K_skip ?_
        refine Q_then ?_
        refine K_seq ?_
        refine K_region ?_
        refine KV (R_assign rfl) rfl ?_
        refine K_nil ?_
        refine Q_then ?_
        refine K_ret ?_
        refine results_gen (rs := [.tmp 4]) (vs := [_]) rfl ⟨rfl, trivial⟩ ?_
        rw [hc, hend, if_neg (by omega), if_neg (by omega)]
        rfl
end Go.Proofs.X

namespace Go.Proofs.X
open Go Pal Go.Proofs
attribute [local irreducible] Pal.KO Pal.KC Pal.KQ Pal.KD
theorem fd42_1 : fldOk Tryz.prog T42 1 1 = true := by kernel_rfl
theorem rhas_spec (y : Int) (xs : List Int) (v : Value) (H : View) (hv : SI H v xs) (hl : xs.length ≤ 1099511627776) : Sat Tryz.prog F62 #[v, .int .i64 y] H (fun r _ => r = .bool (decide (y ∈ xs))) := by
  obtain ⟨a, cp, rfl⟩ := hv.shape
  refine enterO (n := 18) (args := [.slice a xs.length cp, .int .i64 y]) Tryz.func61 rfl rfl rfl fun w0 => ?_
  refine K_seq ?_
  refine K_region ?_
  refine KV (R_assign rfl) rfl ?_
  refine K_nil ?_
  refine Q_then ?_
  refine K_seq ?_
  refine K_seq ?_
  refine K_region ?_
  refine KV (R_assign rfl) rfl ?_
  refine K_nil ?_
  refine Q_then ?_
  refine K_block ?_
  refine K_loopD (G := Nat) [4, 5, 6, 7, 8, 9, 10, 11, 12, 13, 14, 15, 16, 17] (fun g => [(5, .int .i64 (g : Int))]) (fun hl g => hl) (fun g => H) (fun g => (g ≤ xs.length) ∧ (∀ j (h : j < xs.length), j < g → xs[j] ≠ y)) (fun g => xs.length - g) 0 ⟨Nat.zero_le _, fun j _ h => by simp at h⟩ ⟨rfl, trivial⟩ (by simp only [args0, Nat.reduceAdd, del, memN, beqN, Nat.reduceBEq, cond_true, cond_false]; rfl) rfl rfl ?_
  rintro k ⟨hk, hno⟩
  try dsimp only at hk
  try dsimp only at hno
  dsimp only [List.set, List.cons_append, List.nil_append]
  refine K_seq ?_
  refine K_seq ?_
  refine K_region ?_
  refine KV (R_move rfl) rfl ?_
  refine KV (R_move rfl) rfl ?_
  refine KV (R_len sl25 rfl) rfl ?_
  refine KV (R_cmp rfl rfl rfl) rfl ?_
  refine K_nil ?_
  refine Q_then ?_
  refine K_if rfl (fun h9 => ?_) (fun h9 => ?_)
  ·
    have hk' : k < xs.length := by omega
    obtain ⟨tb, to_, rfl, hta⟩ := hv.get hk'
    refine K_skip ?_
    refine Q_then ?_
    refine K_seq ?_
    refine K_block ?_
    refine K_seq ?_
    refine K_region ?_
    refine KV (R_move rfl) rfl ?_
    refine KV (R_move rfl) rfl ?_
    refine KV (R_indexN sl25 ty3 rfl rfl (by omega)) rfl ?_
    refine KV (R_loadH ty3 rfl (hta) rfl (fun _ => rfl) rfl) rfl ?_
    refine KV (R_move rfl) rfl ?_
    refine KV (R_cmp rfl rfl rfl) rfl ?_
    refine K_nil ?_
    refine Q_then ?_
    refine K_if rfl (fun h17 => ?_) (fun h17 => ?_)
    ·
      refine K_seq ?_
      refine K_region ?_
      refine KV (R_assign rfl) rfl ?_
      refine K_nil ?_
      refine Q_then ?_
      refine K_ret ?_
      refine Q_block_ret ?_
      refine Q_then_ret ?_
      refine Q_then_ret ?_
      refine Q_block_ret ?_
      refine Q_then_ret ?_
      refine results_gen (rs := [.tmp 4]) (vs := [_]) rfl ⟨rfl, trivial⟩ ?_
      refine congrArg Value.bool (Eq.symm ?_)
      simp only [decide_eq_true_eq]
      exact h17 ▸ List.getElem_mem hk'
    ·
      have hno2 : ∀ j (h : j < xs.length), j < k + 1 → xs[j] ≠ y := by
        intro j h hj
        by_cases e : j = k
        · subst e; exact h17
        · exact hno j h (by omega)
      refine K_skip ?_
      refine Q_block ?_
      refine Q_then ?_
      refine K_region ?_
      refine KV (R_move rfl) rfl ?_
      refine KV (R_add rfl rfl (by omega)) rfl ?_
      refine KV (R_assign rfl) rfl ?_
      refine K_nil ?_
      refine Q_nextD (k + 1) ⟨hk', hno2⟩ (by (try dsimp only); omega) ⟨rfl, trivial⟩ rfl rfl rfl
  ·
    have hk' : k = xs.length := by omega
    refine K_exit ?_
    refine Q_then_exit ?_
    refine Q_then_exit ?_
    refine Q_block_exit ?_
    refine Q_then ?_
    refine K_seq ?_
    refine K_region ?_
    refine KV (R_assign rfl) rfl ?_
    refine K_nil ?_
    refine Q_then ?_
    refine K_ret ?_
    refine results_gen (rs := [.tmp 4]) (vs := [_]) rfl ⟨rfl, trivial⟩ ?_
    refine congrArg Value.bool (Eq.symm ?_)
    simp only [decide_eq_false_iff_not]
    intro hx
    obtain ⟨j, hj, e⟩ := List.getElem_of_mem hx
    exact hno j hj (by omega) e

end Go.Proofs.X

namespace Go.Proofs.X
open Go Pal Go.Proofs
attribute [local irreducible] Pal.KO Pal.KC Pal.KQ Pal.KD
theorem ty40 : Ty Tryz.prog T40 false 1 := .of (by kernel_rfl)
theorem ty42 : Ty Tryz.prog T42 true 4 := .of (by kernel_rfl)
theorem ty100 : Ty Tryz.prog T100 true 3 := .of (by kernel_rfl)
theorem sl40 : slcOk Tryz.prog T40 T100 := by unfold slcOk; kernel_rfl
theorem fd42_0 : fldOk Tryz.prog T42 0 0 = true := by kernel_rfl
theorem fd42_2 : fldOk Tryz.prog T42 2 2 = true := by kernel_rfl
theorem fd42_3 : fldOk Tryz.prog T42 3 3 = true := by kernel_rfl
theorem fd100_0 : fldOk Tryz.prog T100 0 0 = true := by kernel_rfl
theorem fd100_1 : fldOk Tryz.prog T100 1 1 = true := by kernel_rfl
theorem fd100_2 : fldOk Tryz.prog T100 2 2 = true := by kernel_rfl
theorem z100 : zeroOk Tryz.prog T100 (.agg #[.int .i64 0, .slice none 0 0, .int .i64 0]) := .of (by kernel_rfl)
end Go.Proofs.X

namespace Go.Proofs.X
open Go Pal Go.Proofs
attribute [local irreducible] Pal.KO Pal.KC Pal.KQ Pal.KD

theorem few_spec (a : Au) (vr vu vf : Value) (H : View) (ha : RepAu H a vr vu vf) : Sat Tryz.prog F15 #[.agg #[vr, .int .i64 a.states, vu, vf]] H (fun r _ => r = .bool (decide (a.ranks.length ≤ 8 ∧ a.states ≤ 6 ∧ a.rules.length ≤ 14 ∧ a.final.length ≤ 12))) := by
  obtain ⟨ra, rcp, rfl⟩ := ha.r.shape
  obtain ⟨fa, fcp, rfl⟩ := ha.f.shape
  obtain ⟨ua, ucp, rfl⟩ := ha.ushape
  refine enterO (n := 24) (args := [.agg #[.slice ra a.ranks.length rcp, .int .i64 a.states, .slice ua a.rules.length ucp, .slice fa a.final.length fcp]]) Tryz.func13 rfl rfl rfl fun w0 => ?_
  refine K_seq ?_
  refine K_region ?_
  refine KA (A_box rfl) rfl fun b1 => ?_
  refine KV (R_assign rfl) rfl ?_
  refine K_nil ?_
  refine Q_then ?_
  refine K_seq ?_
  refine K_region ?_
  refine KV (R_fieldAddr 0 fd42_0 rfl) rfl ?_
  refine KV (R_loadO ty25 0 rfl rfl rfl rfl (fun _ => rfl) rfl) rfl ?_
  refine KV (R_len sl25 rfl) rfl ?_
  refine KV (R_cmp rfl rfl rfl) rfl ?_
  refine KV (R_move rfl) rfl ?_
  refine K_split ?_ ?_
  ·
    intro h7
    refine K_gyes rfl rfl ?_
    refine KV (R_fieldAddr 1 fd42_1 rfl) rfl ?_
    refine K_gyes rfl rfl ?_
    refine KV (R_loadO ty3 0 rfl rfl rfl rfl (fun _ => rfl) rfl) rfl ?_
    refine K_gyes rfl rfl ?_
    refine KV (R_cmp rfl rfl rfl) rfl ?_
    refine KV (R_pickT rfl rfl) rfl ?_
    refine KV (R_move rfl) rfl ?_
    refine K_split ?_ ?_
    ·
      intro h12
      refine K_gyes rfl rfl ?_
      refine KV (R_fieldAddr 2 fd42_2 rfl) rfl ?_
      refine K_gyes rfl rfl ?_
      refine KV (R_loadO ty40 0 rfl rfl rfl rfl (fun _ => rfl) rfl) rfl ?_
      refine K_gyes rfl rfl ?_
      refine KV (R_len sl40 rfl) rfl ?_
      refine K_gyes rfl rfl ?_
      refine KV (R_cmp rfl rfl rfl) rfl ?_
      refine KV (R_pickT rfl rfl) rfl ?_
      refine KV (R_move rfl) rfl ?_
      refine K_split ?_ ?_
      ·
        intro h18
        refine K_gyes rfl rfl ?_
        refine KV (R_fieldAddr 3 fd42_3 rfl) rfl ?_
        refine K_gyes rfl rfl ?_
        refine KV (R_loadO ty25 0 rfl rfl rfl rfl (fun _ => rfl) rfl) rfl ?_
        refine K_gyes rfl rfl ?_
        refine KV (R_len sl25 rfl) rfl ?_
        refine K_gyes rfl rfl ?_
        refine KV (R_cmp rfl rfl rfl) rfl ?_
        refine KV (R_pickT rfl rfl) rfl ?_
        refine KV (R_assign rfl) rfl ?_
        refine K_nil ?_
        refine Q_then ?_
        refine K_ret ?_
        refine results_gen (rs := [.tmp 2]) (vs := [_]) rfl ⟨rfl, trivial⟩ ?_
        refine congrArg Value.bool ?_
        first | (simp only [decide_eq_decide]; omega) | (symm; simp only [decide_eq_false_iff_not]; omega)
      ·
        intro h18
        refine K_gno rfl rfl rfl rfl ?_
        refine K_gno rfl rfl rfl rfl ?_
        refine K_gno rfl rfl rfl rfl ?_
        refine K_gno rfl rfl rfl rfl ?_
        refine KV (R_pickF rfl rfl) rfl ?_
        refine KV (R_assign rfl) rfl ?_
        refine K_nil ?_
        refine Q_then ?_
        refine K_ret ?_
        refine results_gen (rs := [.tmp 2]) (vs := [_]) rfl ⟨rfl, trivial⟩ ?_
        refine congrArg Value.bool ?_
        first | (simp only [decide_eq_decide]; omega) | (symm; simp only [decide_eq_false_iff_not]; omega)
    ·
      intro h12
      refine K_gno rfl rfl rfl rfl ?_
      refine K_gno rfl rfl rfl rfl ?_
      refine K_gno rfl rfl rfl rfl ?_
      refine K_gno rfl rfl rfl rfl ?_
      refine KV (R_pickF rfl rfl) rfl ?_
      refine KV (R_move rfl) rfl ?_
      refine K_gno rfl rfl rfl rfl ?_
      refine K_gno rfl rfl rfl rfl ?_
      refine K_gno rfl rfl rfl rfl ?_
      refine K_gno rfl rfl rfl rfl ?_
      refine KV (R_pickF rfl rfl) rfl ?_
      refine KV (R_assign rfl) rfl ?_
      refine K_nil ?_
      refine Q_then ?_
      refine K_ret ?_
      refine results_gen (rs := [.tmp 2]) (vs := [_]) rfl ⟨rfl, trivial⟩ ?_
      refine congrArg Value.bool ?_
      first | (simp only [decide_eq_decide]; omega) | (symm; simp only [decide_eq_false_iff_not]; omega)
  ·
    intro h7
    refine K_gno rfl rfl rfl rfl ?_
    refine K_gno rfl rfl rfl rfl ?_
    refine K_gno rfl rfl rfl rfl ?_
    refine KV (R_pickF rfl rfl) rfl ?_
    refine KV (R_move rfl) rfl ?_
    refine K_gno rfl rfl rfl rfl ?_
    refine K_gno rfl rfl rfl rfl ?_
    refine K_gno rfl rfl rfl rfl ?_
    refine K_gno rfl rfl rfl rfl ?_
    refine KV (R_pickF rfl rfl) rfl ?_
    refine KV (R_move rfl) rfl ?_
    refine K_gno rfl rfl rfl rfl ?_
    refine K_gno rfl rfl rfl rfl ?_
    refine K_gno rfl rfl rfl rfl ?_
    refine K_gno rfl rfl rfl rfl ?_
    refine KV (R_pickF rfl rfl) rfl ?_
    refine KV (R_assign rfl) rfl ?_
    refine K_nil ?_
    refine Q_then ?_
    refine K_ret ?_
    refine results_gen (rs := [.tmp 2]) (vs := [_]) rfl ⟨rfl, trivial⟩ ?_
    refine congrArg Value.bool ?_
    first | (simp only [decide_eq_decide]; omega) | (symm; simp only [decide_eq_false_iff_not]; omega)

theorem eqa_spec (xs ys : List Int) (v w : Value) (H : View) (hv : SI H v xs) (hw : SI H w ys) (hl : xs.length ≤ 1099511627776) (_hl2 : ys.length ≤ 1099511627776) : Sat Tryz.prog F51 #[v, w] H (fun r _ => r = .bool (decide (xs = ys))) := by
  obtain ⟨a, cp, rfl⟩ := hv.shape
  obtain ⟨b, cq, rfl⟩ := hw.shape
  refine enterO (n := 26) (args := [.slice a xs.length cp, .slice b ys.length cq]) Tryz.func71 rfl rfl rfl fun w0 => ?_
  refine K_seq ?_
  refine K_region ?_
  refine KV (R_assign rfl) rfl ?_
  refine K_nil ?_
  refine Q_then ?_
  refine K_seq ?_
  refine K_seq ?_
  refine K_region ?_
  refine KV (R_move rfl) rfl ?_
  refine KV (R_len sl47 rfl) rfl ?_
  refine KV (R_move rfl) rfl ?_
  refine KV (R_len sl47 rfl) rfl ?_
  refine KV (R_cmp rfl rfl rfl) rfl ?_
  refine K_nil ?_
  refine Q_then ?_
  refine K_if rfl (fun h10 => ?_) (fun h10 => ?_)
  ·
    refine K_seq ?_
    refine K_region ?_
    refine KV (R_assign rfl) rfl ?_
    refine K_nil ?_
    refine Q_then ?_
    refine K_ret ?_
    refine Q_then_ret ?_
    refine results_gen (rs := [.tmp 4]) (vs := [_]) rfl ⟨rfl, trivial⟩ ?_
    refine congrArg Value.bool (Eq.symm ?_)
    simp only [decide_eq_false_iff_not]
    intro e; subst e; exact absurd rfl h10
  ·
    refine K_skip ?_
    refine Q_then ?_
    refine K_seq ?_
    refine K_seq ?_
    refine K_region ?_
    refine KV (R_move rfl) rfl ?_
    refine KV (R_len sl47 rfl) rfl ?_
    refine KV (R_move rfl) rfl ?_
    refine K_nil ?_
    refine Q_then ?_
    refine K_block ?_
    refine K_loopD (G := Nat) [4, 5, 13, 14, 15, 16, 17, 18, 19, 20, 21, 22, 23, 24, 25] (fun g => [(13, .int .i64 (g : Int))]) (fun hl g => hl) (fun g => H) (fun g => (g ≤ xs.length) ∧ (∀ j (h : j < xs.length) (h2 : j < ys.length), j < g → xs[j] = ys[j])) (fun g => xs.length - g) 0 ⟨Nat.zero_le _, fun j _ _ h => by simp at h⟩ ⟨rfl, trivial⟩ (by simp only [args0, Nat.reduceAdd, del, memN, beqN, Nat.reduceBEq, cond_true, cond_false]; rfl) rfl rfl ?_
    rintro k ⟨hk, hyes⟩
    try dsimp only at hk
    try dsimp only at hyes
    dsimp only [List.set, List.cons_append, List.nil_append]
    refine K_seq ?_
    refine K_region ?_
    refine KV (R_cmp rfl rfl rfl) rfl ?_
    refine K_nil ?_
    refine Q_then ?_
    refine K_seq ?_
    refine K_if rfl (fun h14 => ?_) (fun h14 => ?_)
    ·
      have hk' : k < xs.length := by omega
      have hk2 : k < ys.length := by omega
      obtain ⟨tb, to_, rfl, hta⟩ := hv.get hk'
      obtain ⟨tb2, to2, rfl, htb⟩ := hw.get hk2
      refine K_skip ?_
      refine Q_then ?_
      refine K_seq ?_
      refine K_block ?_
      refine K_seq ?_
      refine K_region ?_
      refine KV (R_move rfl) rfl ?_
      refine KV (R_assign rfl) rfl ?_
      refine K_nil ?_
      refine Q_then ?_
      refine K_seq ?_
      refine K_regionD (fin := false) (R := [0, 1, 2, 3, 4, 5, 6, 7, 8]) (by kernel_rfl) mixed (List.nil_sublist _) ?_
      refine D_val rfl rfl rfl (R_move rfl) ?_
      refine D_val rfl rfl rfl (R_move rfl) ?_
      refine D_val rfl rfl rfl (R_indexN sl47 ty3 rfl rfl (by omega)) ?_
      refine D_val rfl rfl rfl (R_loadH ty3 rfl (hta) rfl (fun _ => rfl) rfl) ?_
      refine D_val rfl rfl rfl (R_move rfl) ?_
      refine D_val rfl rfl rfl (R_move rfl) ?_
      refine D_val rfl rfl rfl (R_indexN sl47 ty3 rfl rfl (by omega)) ?_
      refine D_val rfl rfl rfl (R_loadH ty3 rfl (htb) rfl (fun _ => rfl) rfl) ?_
      refine D_val rfl rfl rfl (R_cmp rfl rfl rfl) ?_
      refine D_done ?_
      refine Q_then ?_
      refine K_if rfl (fun h24 => ?_) (fun h24 => ?_)
      ·
        refine K_seq ?_
        refine K_region ?_
        refine KV (R_assign rfl) rfl ?_
        refine K_nil ?_
        refine Q_then ?_
        refine K_ret ?_
        refine Q_block_ret ?_
        refine Q_then_ret ?_
        refine Q_then_ret ?_
        refine Q_block_ret ?_
        refine Q_then_ret ?_
        refine results_gen (rs := [.tmp 4]) (vs := [_]) rfl ⟨rfl, trivial⟩ ?_
        refine congrArg Value.bool (Eq.symm ?_)
        simp only [decide_eq_false_iff_not]
        intro e; subst e; exact h24 rfl
      ·
        have hyes2 : ∀ j (h : j < xs.length) (h2 : j < ys.length), j < k + 1 → xs[j] = ys[j] := by
          intro j h h2 hj
          by_cases e : j = k
          · subst e; exact Decidable.not_not.1 h24
          · exact hyes j h h2 (by omega)
        refine K_skip ?_
        refine Q_block ?_
        refine Q_then ?_
        refine K_region ?_
        refine KV (R_add rfl rfl (by omega)) rfl ?_
        refine KV (R_move rfl) rfl ?_
        refine K_nil ?_
        refine Q_nextD (k + 1) ⟨hk', hyes2⟩ (by (try dsimp only); omega) ⟨rfl, trivial⟩ rfl rfl rfl
    ·
      refine K_exit ?_
      refine Q_then_exit ?_
      refine Q_then_exit ?_
      refine Q_block_exit ?_
      refine Q_then ?_
      refine K_seq ?_
      refine K_region ?_
      refine KV (R_assign rfl) rfl ?_
      refine K_nil ?_
      refine Q_then ?_
      refine K_ret ?_
      refine results_gen (rs := [.tmp 4]) (vs := [_]) rfl ⟨rfl, trivial⟩ ?_
      refine congrArg Value.bool (Eq.symm ?_)
      simp only [decide_eq_true_eq]
      exact List.ext_getElem (by omega) fun j h h2 => hyes j h h2 (by omega)

theorem eqi_spec (xs ys : List Int) (v w : Value) (H : View) (hv : SI H v xs) (hw : SI H w ys) (hl : xs.length ≤ 1099511627776) (_hl2 : ys.length ≤ 1099511627776) : Sat Tryz.prog F54 #[v, w] H (fun r _ => r = .bool (decide (xs = ys))) := by
  obtain ⟨a, cp, rfl⟩ := hv.shape
  obtain ⟨b, cq, rfl⟩ := hw.shape
  refine enterO (n := 26) (args := [.slice a xs.length cp, .slice b ys.length cq]) Tryz.func72 rfl rfl rfl fun w0 => ?_
  refine K_seq ?_
  refine K_region ?_
  refine KV (R_assign rfl) rfl ?_
  refine K_nil ?_
  refine Q_then ?_
  refine K_seq ?_
  refine K_seq ?_
  refine K_region ?_
  refine KV (R_move rfl) rfl ?_
  refine KV (R_len sl25 rfl) rfl ?_
  refine KV (R_move rfl) rfl ?_
  refine KV (R_len sl25 rfl) rfl ?_
  refine KV (R_cmp rfl rfl rfl) rfl ?_
  refine K_nil ?_
  refine Q_then ?_
  refine K_if rfl (fun h10 => ?_) (fun h10 => ?_)
  ·
    refine K_seq ?_
    refine K_region ?_
    refine KV (R_assign rfl) rfl ?_
    refine K_nil ?_
    refine Q_then ?_
    refine K_ret ?_
    refine Q_then_ret ?_
    refine results_gen (rs := [.tmp 4]) (vs := [_]) rfl ⟨rfl, trivial⟩ ?_
    refine congrArg Value.bool (Eq.symm ?_)
    simp only [decide_eq_false_iff_not]
    intro e; subst e; exact absurd rfl h10
  ·
    refine K_skip ?_
    refine Q_then ?_
    refine K_seq ?_
    refine K_seq ?_
    refine K_region ?_
    refine KV (R_move rfl) rfl ?_
    refine KV (R_len sl25 rfl) rfl ?_
    refine KV (R_move rfl) rfl ?_
    refine K_nil ?_
    refine Q_then ?_
    refine K_block ?_
    refine K_loopD (G := Nat) [4, 5, 13, 14, 15, 16, 17, 18, 19, 20, 21, 22, 23, 24, 25] (fun g => [(13, .int .i64 (g : Int))]) (fun hl g => hl) (fun g => H) (fun g => (g ≤ xs.length) ∧ (∀ j (h : j < xs.length) (h2 : j < ys.length), j < g → xs[j] = ys[j])) (fun g => xs.length - g) 0 ⟨Nat.zero_le _, fun j _ _ h => by simp at h⟩ ⟨rfl, trivial⟩ (by simp only [args0, Nat.reduceAdd, del, memN, beqN, Nat.reduceBEq, cond_true, cond_false]; rfl) rfl rfl ?_
    rintro k ⟨hk, hyes⟩
    try dsimp only at hk
    try dsimp only at hyes
    dsimp only [List.set, List.cons_append, List.nil_append]
    refine K_seq ?_
    refine K_region ?_
    refine KV (R_cmp rfl rfl rfl) rfl ?_
    refine K_nil ?_
    refine Q_then ?_
    refine K_seq ?_
    refine K_if rfl (fun h14 => ?_) (fun h14 => ?_)
    ·
      have hk' : k < xs.length := by omega
      have hk2 : k < ys.length := by omega
      obtain ⟨tb, to_, rfl, hta⟩ := hv.get hk'
      obtain ⟨tb2, to2, rfl, htb⟩ := hw.get hk2
      refine K_skip ?_
      refine Q_then ?_
      refine K_seq ?_
      refine K_block ?_
      refine K_seq ?_
      refine K_region ?_
      refine KV (R_move rfl) rfl ?_
      refine KV (R_assign rfl) rfl ?_
      refine K_nil ?_
      refine Q_then ?_
      refine K_seq ?_
      refine K_regionD (fin := false) (R := [0, 1, 2, 3, 4, 5, 6, 7, 8]) (by kernel_rfl) mixed (List.nil_sublist _) ?_
      refine D_val rfl rfl rfl (R_move rfl) ?_
      refine D_val rfl rfl rfl (R_move rfl) ?_
      refine D_val rfl rfl rfl (R_indexN sl25 ty3 rfl rfl (by omega)) ?_
      refine D_val rfl rfl rfl (R_loadH ty3 rfl (hta) rfl (fun _ => rfl) rfl) ?_
      refine D_val rfl rfl rfl (R_move rfl) ?_
      refine D_val rfl rfl rfl (R_move rfl) ?_
      refine D_val rfl rfl rfl (R_indexN sl25 ty3 rfl rfl (by omega)) ?_
      refine D_val rfl rfl rfl (R_loadH ty3 rfl (htb) rfl (fun _ => rfl) rfl) ?_
      refine D_val rfl rfl rfl (R_cmp rfl rfl rfl) ?_
      refine D_done ?_
      refine Q_then ?_
      refine K_if rfl (fun h24 => ?_) (fun h24 => ?_)
      ·
        refine K_seq ?_
        refine K_region ?_
        refine KV (R_assign rfl) rfl ?_
        refine K_nil ?_
        refine Q_then ?_
        refine K_ret ?_
        refine Q_block_ret ?_
        refine Q_then_ret ?_
        refine Q_then_ret ?_
        refine Q_block_ret ?_
        refine Q_then_ret ?_
        refine results_gen (rs := [.tmp 4]) (vs := [_]) rfl ⟨rfl, trivial⟩ ?_
        refine congrArg Value.bool (Eq.symm ?_)
        simp only [decide_eq_false_iff_not]
        intro e; subst e; exact h24 rfl
      ·
        have hyes2 : ∀ j (h : j < xs.length) (h2 : j < ys.length), j < k + 1 → xs[j] = ys[j] := by
          intro j h h2 hj
          by_cases e : j = k
          · subst e; exact Decidable.not_not.1 h24
          · exact hyes j h h2 (by omega)
        refine K_skip ?_
        refine Q_block ?_
        refine Q_then ?_
        refine K_region ?_
        refine KV (R_add rfl rfl (by omega)) rfl ?_
        refine KV (R_move rfl) rfl ?_
        refine K_nil ?_
        refine Q_nextD (k + 1) ⟨hk', hyes2⟩ (by (try dsimp only); omega) ⟨rfl, trivial⟩ rfl rfl rfl
    ·
      refine K_exit ?_
      refine Q_then_exit ?_
      refine Q_then_exit ?_
      refine Q_block_exit ?_
      refine Q_then ?_
      refine K_seq ?_
      refine K_region ?_
      refine KV (R_assign rfl) rfl ?_
      refine K_nil ?_
      refine Q_then ?_
      refine K_ret ?_
      refine results_gen (rs := [.tmp 4]) (vs := [_]) rfl ⟨rfl, trivial⟩ ?_
      refine congrArg Value.bool (Eq.symm ?_)
      simp only [decide_eq_true_eq]
      exact List.ext_getElem (by omega) fun j h h2 => hyes j h h2 (by omega)
end Go.Proofs.X

namespace Go.Proofs.X
open Go Pal Go.Proofs
attribute [local irreducible] Pal.KO Pal.KC Pal.KQ Pal.KD
theorem z50 : zeroOk Tryz.prog T50 (.agg #[.slice none 0 0, .int .i64 0, .slice none 0 0, .slice none 0 0]) := .of (by kernel_rfl)
theorem pl50 : placesOk Tryz.prog T50 [(0, 1), (1, 1), (2, 1), (3, 1)] := ⟨_, Tryz.underlying37, by kernel_rfl⟩
theorem pl85 : placesOk Tryz.prog T85 [(0, 1), (1, 1), (2, 1)] := ⟨_, Tryz.underlying83, by kernel_rfl⟩
theorem ap48 : App Tryz.prog T48 T85 3 40 := .of sl48 (by kernel_rfl)
theorem to_spec (a : Au) (vr vu vf : Value) (H : View) (ha : RepAu H a vr vu vf) : Sat Tryz.prog F17 #[.agg #[vr, .int .i64 a.states, vu, vf]] H (fun r H' => ∃ v1 v2 v3, r = .agg #[v1, .int .i64 a.states, v2, v3] ∧ RepAu H' a v1 v2 v3) := by
  obtain ⟨ra, rcp, rfl⟩ := ha.r.shape
  obtain ⟨fa, fcp, rfl⟩ := ha.f.shape
  obtain ⟨ua, ucp, rfl⟩ := ha.ushape
  have hrl := ha.rl
  have hul := ha.ul
  have hfl := ha.fl
  refine enterO (n := 50) (args := [.agg #[.slice ra a.ranks.length rcp, .int .i64 a.states, .slice ua a.rules.length ucp, .slice fa a.final.length fcp]]) Tryz.func15 rfl rfl rfl fun w0 => ?_
  refine K_seq ?_
  refine K_region ?_
  refine KA (A_box rfl) rfl fun b1 => ?_
  refine KA (A_alloc z50) rfl fun b2 => ?_
  refine K_nil ?_
  refine Q_then ?_
  refine K_seq ?_
  refine K_regionD (fin := true) (R := [1, 2, 4, 5, 7, 8, 0, 3, 6, 9, 10, 11, 12]) (by kernel_rfl) mixed (.cons _ (.cons_cons _ (List.nil_sublist _))) ?_
  refine D_val rfl rfl rfl (R_fieldAddr 0 fd42_0 rfl) ?_
  refine D_val rfl rfl rfl (R_loadO ty25 0 rfl rfl rfl rfl (fun _ => rfl) rfl) ?_
  refine D_val rfl rfl rfl (R_fieldAddr 1 fd42_1 rfl) ?_
  refine D_val rfl rfl rfl (R_loadO ty3 0 rfl rfl rfl rfl (fun _ => rfl) rfl) ?_
  refine D_val rfl rfl rfl (R_fieldAddr 3 fd42_3 rfl) ?_
  refine D_val rfl rfl rfl (R_loadO ty25 0 rfl rfl rfl rfl (fun _ => rfl) rfl) ?_
  refine D_alloc rfl rfl rfl (A_buildSlice (vs := []) sl47 ty3 z3 rfl rfl (by simp) (by simp) rfl (by decide)) fun b5 => ?_
  refine D_append0 0 ap47 sl25 rfl rfl rfl rfl rfl ⟨⟨1, rfl⟩, trivial⟩ ha.r.1 (by simp [ints]) (ints_one _) ⟨by omega, by omega⟩ fun a8 k8 => ?_

  refine D_alloc rfl rfl rfl (A_buildSlice (vs := []) sl25 ty3 z3 rfl rfl (by simp) (by simp) rfl (by decide)) fun b11 => ?_
  refine D_append0 0 ap25 sl25 rfl rfl rfl rfl rfl ⟨⟨2, rfl⟩, trivial⟩ ha.f.1 (by simp [ints]) (ints_one _) ⟨by omega, by omega⟩ fun a14 k14 => ?_

  refine D_val rfl rfl rfl (R_build z50 pl50 rfl rfl) ?_
  refine D_alloc rfl rfl rfl (A_alloc z50) fun b3 => ?_
  refine D_lastStore ty50 0 rfl rfl rfl rfl rfl rfl rfl rfl ?_
  refine KQ_front 2 rfl ?_
  refine KQ_pubrow rfl fun V0 hv0 hrow8 => ?_
  refine KQ_front 1 rfl ?_
  refine KQ_pubrow rfl fun V1 hv1 hrow14 => ?_
  refine Q_then ?_
  refine K_seq ?_
  refine K_seq ?_
  refine K_region ?_
  refine KV (R_assign rfl) rfl ?_
  refine K_nil ?_
  refine Q_then ?_
  refine K_block ?_
  refine K_nilrow T85 3 ?_
  refine K_loopD (G := Nat × View × Value × List Value) [4, 16, 17, 18, 19, 20, 21, 22, 23, 24, 25, 26, 27, 28, 29, 30, 31, 32, 33, 34, 35, 36, 37, 38, 39, 40, 41, 42, 43, 44, 45, 46, 47, 48] (fun g => [(4, .int .i64 (g.1 : Int))]) (fun hl g => ((hl.set 0 (row g.2.2.1 T85 3 g.1 g.2.2.2)).set 1 (blk b3 (.cells #[.slice a8 a.ranks.length k8, .int .i64 a.states, g.2.2.1, .slice a14 a.final.length k14] T50 (0, 0))))) (fun g => g.2.1) (fun g => (g.1 ≤ a.rules.length) ∧ (VLe V1 g.2.1) ∧ (RepL (RepR g.2.1) 3 (a.rules.take g.1) g.2.2.2) ∧ (∃ ad cp, g.2.2.1 = .slice ad g.1 cp)) (fun g => a.rules.length - g.1) (0, V1, nilS, []) ⟨Nat.zero_le _, VLe.refl _, .nil, none, 0, rfl⟩ ⟨rfl, trivial⟩ (by simp only [args0, Nat.reduceAdd, del, memN, beqN, Nat.reduceBEq, cond_true, cond_false]; rfl) rfl rfl ?_
  rintro ⟨k, V, w, cells⟩ ⟨hk, hV, hC, hw⟩
  dsimp only at hk hV hC hw
  dsimp only [List.set, List.cons_append, List.nil_append]
  obtain ⟨wa, wcp, rfl⟩ := hw
  refine K_seq ?_
  refine K_seq ?_
  refine K_region ?_
  refine KV (R_move rfl) rfl ?_
  refine KV (R_fieldAddr 2 fd42_2 rfl) rfl ?_
  refine KV (R_loadO ty40 3 rfl rfl rfl rfl (fun _ => rfl) rfl) rfl ?_
  refine KV (R_len sl40 rfl) rfl ?_
  refine KV (R_cmp rfl rfl rfl) rfl ?_
  refine K_nil ?_
  refine Q_then ?_
  refine K_if rfl (fun h20 => ?_) (fun h20 => ?_)
  ·
    have hk' : k < a.rules.length := by omega
    obtain ⟨ub, uo, ucp2, xa, xcp, hue, hrc, hsr, hsym, hto, hxl⟩ := (ha.mono (hv0.trans (hv1.trans hV))).rule hk'
    cases hue
    refine K_skip ?_
    refine Q_then ?_
    refine K_seq ?_
    refine K_block ?_
    refine K_regionD (fin := true) (R := [0, 1, 2, 3, 4, 5, 6, 7, 9, 10, 11, 12, 13, 14, 16, 17, 18, 19, 20, 21, 8, 15, 22, 23, 24, 25, 26]) (by kernel_rfl) mixed (.cons _ (.cons_cons _ (.cons _ (.cons_cons _ (List.nil_sublist _))))) ?_
    refine D_val rfl rfl rfl (R_fieldAddr 2 fd50_2 rfl) ?_
    refine D_val rfl rfl rfl (R_loadO ty48 0 rfl rfl rfl rfl (fun _ => rfl) rfl) ?_
    refine D_val rfl rfl rfl (R_fieldAddr 2 fd42_2 rfl) ?_
    refine D_val rfl rfl rfl (R_loadO ty40 1 rfl rfl rfl rfl (fun _ => rfl) rfl) ?_
    refine D_val rfl rfl rfl (R_move rfl) ?_
    refine D_val rfl rfl rfl (R_indexN sl40 ty100 rfl rfl (by omega)) ?_
    refine D_val rfl rfl rfl (R_fieldAddr 0 fd100_0 rfl) ?_
    refine D_val rfl rfl rfl (R_loadH ty3 rfl (At.one (j := 0) hrc rfl) rfl (fun _ => rfl) rfl) ?_
    refine D_val rfl rfl rfl (R_fieldAddr 2 fd42_2 rfl) ?_
    refine D_val rfl rfl rfl (R_loadO ty40 1 rfl rfl rfl rfl (fun _ => rfl) rfl) ?_
    refine D_val rfl rfl rfl (R_move rfl) ?_
    refine D_val rfl rfl rfl (R_indexN sl40 ty100 rfl rfl (by omega)) ?_
    refine D_val rfl rfl rfl (R_fieldAddr 1 fd100_1 rfl) ?_
    refine D_val rfl rfl rfl (R_loadH ty25 rfl (At.one (j := 1) hrc rfl) rfl (fun _ => rfl) rfl) ?_
    refine D_val rfl rfl rfl (R_fieldAddr 2 fd42_2 rfl) ?_
    refine D_val rfl rfl rfl (R_loadO ty40 1 rfl rfl rfl rfl (fun _ => rfl) rfl) ?_
    refine D_val rfl rfl rfl (R_move rfl) ?_
    refine D_val rfl rfl rfl (R_indexN sl40 ty100 rfl rfl (by omega)) ?_
    refine D_val rfl rfl rfl (R_fieldAddr 2 fd100_2 rfl) ?_
    refine D_val rfl rfl rfl (R_loadH ty3 rfl (At.one (j := 2) hrc rfl) rfl (fun _ => rfl) rfl) ?_
    refine D_alloc rfl rfl rfl (A_buildSlice (vs := []) sl25 ty3 z3 rfl rfl (by simp) (by simp) rfl (by decide)) fun b31 => ?_
    refine D_append0 0 ap25 sl25 rfl rfl rfl rfl rfl ⟨⟨1, rfl⟩, ⟨3, rfl⟩, trivial⟩ hsr.1 (by simp [ints]) (ints_one _) ⟨by omega, by omega⟩ fun a38 k38 => ?_

    refine D_val rfl rfl rfl (R_build z85 pl85 rfl rfl) ?_
    refine D_alloc rfl rfl rfl (A_buildSlice (vs := [.agg #[.int .i64 a.rules[k].sym, .slice a38 a.rules[k].args.length k38, .int .i64 a.rules[k].to]]) sl48 ty85 z85 rfl rfl (by simp [Value.cells]) (by simp) rfl (by decide)) fun b46 => ?_
    refine D_append1 1 ap48 rfl rfl rfl rfl rfl rfl ⟨⟨1, rfl⟩, ⟨3, rfl⟩, trivial⟩ rfl rfl ⟨by omega, by omega⟩ fun a47 k47 hn47 => ?_
    refine D_val rfl rfl rfl (R_fieldAddr 2 fd50_2 rfl) ?_
    refine D_lastStore ty48 2 rfl rfl rfl rfl rfl rfl rfl rfl ?_
    refine KQ_front 1 rfl ?_
    refine KQ_pubrow rfl fun U hU hrow38 => ?_
    refine Q_block ?_
    refine Q_then ?_
    refine K_region ?_
    refine KV (R_move rfl) rfl ?_
    refine KV (R_add rfl rfl (by omega)) rfl ?_
    refine KV (R_assign rfl) rfl ?_
    refine K_nil ?_
    refine Q_nextD (k + 1, U, .slice a47 (k + 1) k47, cells ++ [.int .i64 a.rules[k].sym, .slice a38 a.rules[k].args.length k38, .int .i64 a.rules[k].to]) ⟨hk', hV.trans hU, by rw [List.take_succ_eq_append_getElem hk']; exact (hC.imp fun x cs h => h.mono hU).snoc ⟨_, _, rfl, ⟨hrow38.sl, hsr.2⟩, hsym, hto, hxl⟩ rfl, _, _, rfl⟩ (by (try dsimp only); omega) ⟨rfl, trivial⟩ rfl rfl rfl
  ·
    have hk' : k = a.rules.length := by omega
    subst hk'
    rw [List.take_length] at hC
    refine K_exit ?_
    refine Q_then_exit ?_
    refine Q_then_exit ?_
    refine Q_block_exit ?_
    refine Q_then ?_
    refine K_seq ?_
    refine K_region ?_
    refine KV (R_loadO ty50 1 rfl rfl rfl rfl (fun e => by cases e) rfl) rfl ?_
    refine K_store ty50 2 rfl rfl rfl rfl rfl rfl ?_
    refine K_nil ?_
    refine Q_then ?_
    refine K_ret ?_
    refine KQ_pubrow rfl fun Hp hp hrow => ?_
    refine results_gen (rs := [.cell 2 37]) (vs := [_]) rfl ⟨⟨_, _, _, _, _, _, 1, rfl, rfl, ty50, (fun e => by cases e), rfl, rfl⟩, trivial⟩ ?_
    exact ⟨_, _, _, rfl, ⟨hrow8.sl.mono (hv1.trans (hV.trans hp)), ha.r.2⟩, ⟨cells, hrow.sl, hC.imp fun x cs h => h.mono hp⟩, ⟨hrow14.sl.mono (hV.trans hp), ha.f.2⟩, ha.s, hrl, hul, hfl⟩
end Go.Proofs.X

namespace Go.Proofs.X
open Go Pal Go.Proofs
attribute [local irreducible] Pal.KO Pal.KC Pal.KQ Pal.KD
theorem fd30_0 : fldOk Tryz.prog T30 0 0 = true := by kernel_rfl
theorem c114 : callable Tryz.prog F114 = true := by kernel_rfl
theorem c115 : callable Tryz.prog F115 = true := by kernel_rfl
theorem c118 : callable Tryz.prog F118 = true := by kernel_rfl
theorem c119 : callable Tryz.prog F119 = true := by kernel_rfl
theorem right_spec (rk : List Int) (rv : Value) (hrkl : rk.length ≤ 1099511627776) : ∀ m t H cs, t.size ≤ m → m ≤ 1099511627776 → RepT H t cs → SI H rv rk → Sat Tryz.prog F115 #[rv, .agg cs.toArray] H (fun r _ => r = .int .i64 (Tr.nodesErr rk t)) := by
  intro m
  induction m with
  | zero => intro t H cs h; have := t.size_pos; omega
  | succ m ih =>
  intro t H cs hm hb hr hrv
  cases hr with | mk s ts a cap b off cs' hs ha hA hrec =>
  obtain ⟨va, vc, rfl⟩ := hrv.shape
  have hsz : (Tr.node s ts).size = 1 + Tr.sizes ts := rfl
  have hln := Tr.length_le_sizes ts
  have hunf : Tr.nodesErr rk (.node s ts) = if s < 0 ∨ (rk.length : Int) ≤ s then 6 else if (ts.length : Int) ≠ rk.getD s.toNat 0 then 3 else Tr.nodesErrs rk ts := by simp only [Tr.nodesErr]
  refine enterO (n := 43) (args := [.slice va rk.length vc, .agg #[.int .i64 s, .slice a ts.length cap]]) Tryz.func112 rfl rfl rfl fun w0 => ?_
  refine K_seq ?_
  refine K_region ?_
  refine KA (A_box rfl) rfl fun b3 => ?_
  refine KV (R_assign rfl) rfl ?_
  refine K_nil ?_
  refine Q_then ?_
  refine K_seq ?_
  refine K_block ?_
  refine K_seq ?_
  refine K_region ?_
  refine KV (R_fieldAddr 0 fd30_0 rfl) rfl ?_
  refine KV (R_loadO ty3 0 rfl rfl rfl rfl (fun _ => rfl) rfl) rfl ?_
  refine KV (R_cmp rfl rfl rfl) rfl ?_
  refine KV (R_move rfl) rfl ?_
  refine K_split ?_ ?_
  ·
    intro h12
    refine K_gno rfl rfl rfl rfl ?_
    refine K_gno rfl rfl rfl rfl ?_
    refine K_gno rfl rfl rfl rfl ?_
    refine K_gno rfl rfl rfl rfl ?_
    refine K_gno rfl rfl rfl rfl ?_
    refine KV (R_pickT rfl rfl) rfl ?_
    refine KV (R_assign rfl) rfl ?_
    refine K_nil ?_
    refine Q_then ?_
    refine K_ifT rfl ?_
    refine K_seq ?_
    refine K_region ?_
    refine KV (R_assign rfl) rfl ?_
    refine K_nil ?_
    refine Q_then ?_
    refine K_ret ?_
    refine Q_block_ret ?_
    refine Q_then_ret ?_
    refine results_gen (rs := [.tmp 4]) (vs := [_]) rfl ⟨rfl, trivial⟩ ?_
    rw [hunf, if_pos (.inl (by omega))]
    rfl
  ·
    intro h12
    refine K_gyes rfl rfl ?_
    refine KV (R_fieldAddr 0 fd30_0 rfl) rfl ?_
    refine K_gyes rfl rfl ?_
    refine KV (R_loadO ty3 0 rfl rfl rfl rfl (fun _ => rfl) rfl) rfl ?_
    refine K_gyes rfl rfl ?_
    refine KV (R_move rfl) rfl ?_
    refine K_gyes rfl rfl ?_
    refine KV (R_len sl47 rfl) rfl ?_
    refine K_gyes rfl rfl ?_
    refine KV (R_cmp rfl rfl rfl) rfl ?_
    refine KV (R_pickF rfl rfl) rfl ?_
    refine KV (R_assign rfl) rfl ?_
    refine K_nil ?_
    refine Q_then ?_
    refine K_if rfl (fun h8 => ?_) (fun h8 => ?_)
    ·
      refine K_seq ?_
      refine K_region ?_
      refine KV (R_assign rfl) rfl ?_
      refine K_nil ?_
      refine Q_then ?_
      refine K_ret ?_
      refine Q_block_ret ?_
      refine Q_then_ret ?_
      refine results_gen (rs := [.tmp 4]) (vs := [_]) rfl ⟨rfl, trivial⟩ ?_
      rw [hunf, if_pos (.inr (by omega))]
      rfl
    ·
      have hs0 : 0 ≤ s := by omega
      have hs1 : s < rk.length := by omega
      have hs2 : s.toNat < rk.length := by omega
      obtain ⟨rb, ro, rfl, hrk⟩ := hrv.get hs2
      have hgd : rk.getD s.toNat 0 = rk[s.toNat] := by simp [List.getD, hs2]
      refine K_seq ?_
      refine K_regionD (fin := false) (R := [0, 1, 2, 3, 4, 5, 6, 7, 8, 9]) (by kernel_rfl) mixed (.cons_cons _ (List.nil_sublist _)) ?_
      refine D_val rfl rfl rfl (R_fieldAddr 1 fd30_1 rfl) ?_
      refine D_val rfl rfl rfl (R_loadO ty28 0 rfl rfl rfl rfl (fun _ => rfl) rfl) ?_
      refine D_val rfl rfl rfl (R_len sl28 rfl) ?_
      refine D_val rfl rfl rfl (R_move rfl) ?_
      refine D_val rfl rfl rfl (R_fieldAddr 0 fd30_0 rfl) ?_
      refine D_val rfl rfl rfl (R_loadO ty3 0 rfl rfl rfl rfl (fun _ => rfl) rfl) ?_
      refine D_val rfl rfl rfl (R_index sl47 ty3 rfl rfl ⟨hs0, hs1⟩) ?_
      refine D_val rfl rfl rfl (R_loadH ty3 rfl (hrk) rfl (fun _ => rfl) rfl) ?_
      refine D_val rfl rfl rfl (R_cmp rfl rfl rfl) ?_
      refine D_val rfl rfl rfl (R_assign rfl) ?_
      refine D_done ?_
      refine Q_then ?_
      refine K_if rfl (fun h19 => ?_) (fun h19 => ?_)
      ·
        refine K_seq ?_
        refine K_region ?_
        refine KV (R_assign rfl) rfl ?_
        refine K_nil ?_
        refine Q_then ?_
        refine K_ret ?_
        refine Q_block_ret ?_
        refine Q_then_ret ?_
        refine results_gen (rs := [.tmp 4]) (vs := [_]) rfl ⟨rfl, trivial⟩ ?_
        rw [hunf, if_neg (by omega), hgd, if_pos h19]
        rfl
      ·
        refine K_skip ?_
        refine Q_block ?_
        refine Q_then ?_
        refine K_seq ?_
        refine K_seq ?_
        refine K_region ?_
        refine KV (R_fieldAddr 1 fd30_1 rfl) rfl ?_
        refine KV (R_loadO ty28 0 rfl rfl rfl rfl (fun _ => rfl) rfl) rfl ?_
        refine KV (R_len sl28 rfl) rfl ?_
        refine KV (R_move rfl) rfl ?_
        refine K_nil ?_
        refine Q_then ?_
        refine K_block ?_
        refine K_loopD (G := Nat × View) [4, 6, 7, 32, 33, 34, 35, 36, 37, 38, 39, 40, 41, 42] (fun g => [(32, .int .i64 (g.1 : Int))]) (fun hl g => hl) (fun g => g.2) (fun g => (g.1 ≤ ts.length) ∧ (VLe H g.2) ∧ (Tr.nodesErrs rk ts = Tr.nodesErrs rk (ts.drop g.1))) (fun g => ts.length - g.1) (0, H) ⟨Nat.zero_le _, VLe.refl _, rfl⟩ ⟨rfl, trivial⟩ (by simp only [args0, Nat.reduceAdd, del, memN, beqN, Nat.reduceBEq, cond_true, cond_false]; rfl) rfl rfl ?_
        rintro ⟨k, V⟩ ⟨hk, hV, hcm⟩
        dsimp only at hk hV hcm
        dsimp only [List.set, List.cons_append, List.nil_append]
        refine K_seq ?_
        refine K_region ?_
        refine KV (R_cmp rfl rfl rfl) rfl ?_
        refine K_nil ?_
        refine Q_then ?_
        refine K_seq ?_
        refine K_if rfl (fun h33 => ?_) (fun h33 => ?_)
        ·
          have hlt' : k < ts.length := by omega
          have htk := Tr.sizes_take ts k hlt'
          have hle' := Tr.sizes_take_le ts (k + 1)
          have hcd := Tr.nodesErrs_cons (rk := rk) hlt'
          have ha' := ha (by intro e; subst e; simp at hlt')
          subst ha'
          obtain ⟨y0, y1, y2, y3, hcs⟩ := (hrec k hlt').shape
          have hreck := (hrec k hlt').mono hV
          rw [hcs] at hreck
          refine K_skip ?_
          refine Q_then ?_
          refine K_seq ?_
          refine K_block ?_
          refine K_seq ?_
          refine K_region ?_
          refine KV (R_indexN sl28 ty30 rfl rfl (by omega)) rfl ?_
          refine KV (R_loadH ty30 rfl (hcs ▸ (hA k hlt').2.mono hV) rfl (fun e => by cases e) rfl) rfl ?_
          refine KA (A_alloc z30) rfl fun b6 => ?_
          refine K_store ty30 0 rfl rfl rfl rfl rfl rfl ?_
          refine K_nil ?_
          refine Q_then ?_
          refine K_seq ?_
          refine K_region ?_
          refine KV (R_move rfl) rfl ?_
          refine KV (R_loadO ty30 0 rfl rfl rfl rfl (fun e => by cases e) rfl) rfl ?_
          refine K_call c115 rfl rfl (ih ts[k] V _ (by omega) (by omega) hreck (hrv.mono hV)) ?_
          rintro _ V1 hle1 rfl
          refine KV (R_assign rfl) rfl ?_
          refine K_nil ?_
          refine Q_then ?_
          refine K_seq ?_
          refine K_region ?_
          refine KV (R_move rfl) rfl ?_
          refine KV (R_cmp rfl rfl rfl) rfl ?_
          refine K_nil ?_
          refine Q_then ?_
          refine K_if rfl (fun h40 => ?_) (fun h40 => ?_)
          ·
            refine K_seq ?_
            refine K_region ?_
            refine KV (R_move rfl) rfl ?_
            refine KV (R_assign rfl) rfl ?_
            refine K_nil ?_
            refine Q_then ?_
            refine K_ret ?_
            refine Q_block_ret ?_
            refine Q_then_ret ?_
            refine Q_then_ret ?_
            refine Q_block_ret ?_
            refine Q_then_ret ?_
            refine results_gen (rs := [.tmp 4]) (vs := [_]) rfl ⟨rfl, trivial⟩ ?_
            rw [hunf, if_neg (by omega), hgd, if_neg h19, hcm, hcd, if_pos h40]
            rfl
          ·
            refine K_skip ?_
            refine Q_block ?_
            refine Q_then ?_
            refine K_region ?_
            refine KV (R_add rfl rfl (by omega)) rfl ?_
            refine KV (R_move rfl) rfl ?_
            refine K_nil ?_
            refine KQ_sel [1] rfl ?_
            refine Q_nextD (k + 1, V1) ⟨hlt', hV.trans hle1, by rw [hcm, hcd, if_neg h40]⟩ (by (try dsimp only); omega) ⟨rfl, trivial⟩ rfl rfl rfl
        ·
          have hk' : k = ts.length := by omega
          subst hk'
          refine K_exit ?_
          refine Q_then_exit ?_
          refine Q_then_exit ?_
          refine Q_block_exit ?_
          refine Q_then ?_
          refine K_seq ?_
          refine K_region ?_
          refine KV (R_assign rfl) rfl ?_
          refine K_nil ?_
          refine Q_then ?_
          refine K_ret ?_
          refine results_gen (rs := [.tmp 4]) (vs := [_]) rfl ⟨rfl, trivial⟩ ?_
          rw [hunf, if_neg (by omega), hgd, if_neg h19, hcm, List.drop_length]
          rfl

theorem psize_spec : ∀ m t H cs, t.size ≤ m → m ≤ 1099511627776 → RepT H t cs → Sat Tryz.prog F118 #[.agg cs.toArray] H (fun v _ => v = .int .i64 (t.size : Int)) := by
  intro m
  induction m with
  | zero => intro t H cs h; have := t.size_pos; omega
  | succ m ih =>
  intro t H cs hm hb hr
  cases hr with | mk s ts a cap b off cs' hs ha hA hrec =>
  have hsz : (Tr.node s ts).size = 1 + Tr.sizes ts := rfl
  have hln := Tr.length_le_sizes ts
  have hdl := Tr.deeps_le ts
  refine enterO (n := 19) (args := [.agg #[.int .i64 s, .slice a ts.length cap]]) Tryz.func129 rfl rfl rfl fun w0 => ?_
  refine K_seq ?_
  refine K_region ?_
  refine KA (A_box rfl) rfl fun b1 => ?_
  refine KV (R_assign rfl) rfl ?_
  refine K_nil ?_
  refine Q_then ?_
  refine K_seq ?_
  refine K_region ?_
  refine KV (R_assign rfl) rfl ?_
  refine K_nil ?_
  refine Q_then ?_
  refine K_seq ?_
  refine K_seq ?_
  refine K_region ?_
  refine KV (R_fieldAddr 1 fd30_1 rfl) rfl ?_
  refine KV (R_loadO ty28 0 rfl rfl rfl rfl (fun _ => rfl) rfl) rfl ?_
  refine KV (R_len sl28 rfl) rfl ?_
  refine KV (R_move rfl) rfl ?_
  refine K_nil ?_
  refine Q_then ?_
  refine K_block ?_
  refine K_loopD (G := Nat × View) [3, 5, 9, 10, 11, 12, 13, 14, 15, 16, 17] (fun g => [(9, .int .i64 (g.1 : Int)), (3, .int .i64 (1 + (Tr.sizes (ts.take g.1) : Int)))]) (fun hl g => hl) (fun g => g.2) (fun g => (g.1 ≤ ts.length) ∧ (VLe H g.2)) (fun g => ts.length - g.1) (0, H) ⟨Nat.zero_le _, VLe.refl _⟩ ⟨rfl, rfl, trivial⟩ (by simp only [args0, Nat.reduceAdd, del, memN, beqN, Nat.reduceBEq, cond_true, cond_false]; rfl) rfl rfl ?_
  rintro ⟨k, V⟩ ⟨hk, hV⟩
  dsimp only at hk hV
  dsimp only [List.set, List.cons_append, List.nil_append]
  refine K_seq ?_
  refine K_region ?_
  refine KV (R_cmp rfl rfl rfl) rfl ?_
  refine K_nil ?_
  refine Q_then ?_
  refine K_seq ?_
  refine K_if rfl (fun h10 => ?_) (fun h10 => ?_)
  ·
    have hlt' : k < ts.length := by omega
    have htk := Tr.sizes_take ts k hlt'
    have hle' := Tr.sizes_take_le ts (k + 1)
    have hdk := Tr.deeps_take ts k hlt'
    have hdk2 := Tr.deeps_append (ts.take (k + 1)) (ts.drop (k + 1))
    rw [List.take_append_drop] at hdk2
    have ha' := ha (by intro e; subst e; simp at hlt')
    subst ha'
    obtain ⟨y0, y1, y2, y3, hcs⟩ := (hrec k hlt').shape
    have hreck := (hrec k hlt').mono hV
    rw [hcs] at hreck
    refine K_skip ?_
    refine Q_then ?_
    refine K_seq ?_
    refine K_block ?_
    refine K_seq ?_
    refine K_region ?_
    refine KV (R_indexN sl28 ty30 rfl rfl (by omega)) rfl ?_
    refine KV (R_loadH ty30 rfl (hcs ▸ (hA k hlt').2.mono hV) rfl (fun e => by cases e) rfl) rfl ?_
    refine KA (A_alloc z30) rfl fun b5 => ?_
    refine K_store ty30 0 rfl rfl rfl rfl rfl rfl ?_
    refine K_nil ?_
    refine Q_then ?_
    refine K_region ?_
    refine KV (R_move rfl) rfl ?_
    refine KV (R_loadO ty30 0 rfl rfl rfl rfl (fun e => by cases e) rfl) rfl ?_
    refine K_call c118 rfl rfl (ih ts[k] V _ (by omega) (by omega) hreck) ?_
    rintro _ V1 hle1 rfl
    refine KV (R_add rfl rfl (by omega)) rfl ?_
    refine KV (R_assign rfl) rfl ?_
    refine K_nil ?_
    refine Q_block ?_
    refine Q_then ?_
    refine K_region ?_
    refine KV (R_add rfl rfl (by omega)) rfl ?_
    refine KV (R_move rfl) rfl ?_
    refine K_nil ?_
    refine KQ_sel [1] rfl ?_
    refine Q_nextD (k + 1, V1) ⟨hlt', hV.trans hle1⟩ (by (try dsimp only); omega) ⟨rfl, congrArg (fun z => some (Value.int .i64 z)) (by dsimp only; omega), trivial⟩ rfl rfl rfl
  ·
    have hk' : k = ts.length := by omega
    subst hk'
    rw [List.take_length]
    refine K_exit ?_
    refine Q_then_exit ?_
    refine Q_then_exit ?_
    refine Q_block_exit ?_
    refine Q_then ?_
    refine K_seq ?_
    refine K_region ?_
    refine KV (R_move rfl) rfl ?_
    refine KV (R_assign rfl) rfl ?_
    refine K_nil ?_
    refine Q_then ?_
    refine K_ret ?_
    refine results_gen (rs := [.tmp 2]) (vs := [_]) rfl ⟨rfl, trivial⟩ ?_
    simp [tupV, Tr.size]

theorem pdepth_spec : ∀ m t H cs, t.size ≤ m → m ≤ 1099511627776 → RepT H t cs → Sat Tryz.prog F119 #[.agg cs.toArray] H (fun v _ => v = .int .i64 (t.deep : Int)) := by
  intro m
  induction m with
  | zero => intro t H cs h; have := t.size_pos; omega
  | succ m ih =>
  intro t H cs hm hb hr
  cases hr with | mk s ts a cap b off cs' hs ha hA hrec =>
  have hsz : (Tr.node s ts).size = 1 + Tr.sizes ts := rfl
  have hln := Tr.length_le_sizes ts
  have hdl := Tr.deeps_le ts
  refine enterO (n := 20) (args := [.agg #[.int .i64 s, .slice a ts.length cap]]) Tryz.func130 rfl rfl rfl fun w0 => ?_
  refine K_seq ?_
  refine K_region ?_
  refine KA (A_box rfl) rfl fun b1 => ?_
  refine KV (R_assign rfl) rfl ?_
  refine K_nil ?_
  refine Q_then ?_
  refine K_seq ?_
  refine K_region ?_
  refine KV (R_assign rfl) rfl ?_
  refine K_nil ?_
  refine Q_then ?_
  refine K_seq ?_
  refine K_seq ?_
  refine K_region ?_
  refine KV (R_fieldAddr 1 fd30_1 rfl) rfl ?_
  refine KV (R_loadO ty28 0 rfl rfl rfl rfl (fun _ => rfl) rfl) rfl ?_
  refine KV (R_len sl28 rfl) rfl ?_
  refine KV (R_move rfl) rfl ?_
  refine K_nil ?_
  refine Q_then ?_
  refine K_block ?_
  refine K_loopD (G := Nat × View) [3, 5, 9, 10, 11, 12, 13, 14, 15, 16, 17] (fun g => [(9, .int .i64 (g.1 : Int)), (3, .int .i64 (Tr.deeps (ts.take g.1) : Int))]) (fun hl g => hl) (fun g => g.2) (fun g => (g.1 ≤ ts.length) ∧ (VLe H g.2)) (fun g => ts.length - g.1) (0, H) ⟨Nat.zero_le _, VLe.refl _⟩ ⟨rfl, rfl, trivial⟩ (by simp only [args0, Nat.reduceAdd, del, memN, beqN, Nat.reduceBEq, cond_true, cond_false]; rfl) rfl rfl ?_
  rintro ⟨k, V⟩ ⟨hk, hV⟩
  dsimp only at hk hV
  dsimp only [List.set, List.cons_append, List.nil_append]
  refine K_seq ?_
  refine K_region ?_
  refine KV (R_cmp rfl rfl rfl) rfl ?_
  refine K_nil ?_
  refine Q_then ?_
  refine K_seq ?_
  refine K_if rfl (fun h10 => ?_) (fun h10 => ?_)
  ·
    have hlt' : k < ts.length := by omega
    have htk := Tr.sizes_take ts k hlt'
    have hle' := Tr.sizes_take_le ts (k + 1)
    have hdk := Tr.deeps_take ts k hlt'
    have hdk2 := Tr.deeps_append (ts.take (k + 1)) (ts.drop (k + 1))
    rw [List.take_append_drop] at hdk2
    have ha' := ha (by intro e; subst e; simp at hlt')
    subst ha'
    obtain ⟨y0, y1, y2, y3, hcs⟩ := (hrec k hlt').shape
    have hreck := (hrec k hlt').mono hV
    rw [hcs] at hreck
    refine K_skip ?_
    refine Q_then ?_
    refine K_seq ?_
    refine K_block ?_
    refine K_seq ?_
    refine K_region ?_
    refine KV (R_indexN sl28 ty30 rfl rfl (by omega)) rfl ?_
    refine KV (R_loadH ty30 rfl (hcs ▸ (hA k hlt').2.mono hV) rfl (fun e => by cases e) rfl) rfl ?_
    refine KA (A_alloc z30) rfl fun b5 => ?_
    refine K_store ty30 0 rfl rfl rfl rfl rfl rfl ?_
    refine K_nil ?_
    refine Q_then ?_
    refine K_region ?_
    refine KV (R_move rfl) rfl ?_
    refine KV (R_loadO ty30 0 rfl rfl rfl rfl (fun e => by cases e) rfl) rfl ?_
    refine K_call c119 rfl rfl (ih ts[k] V _ (by omega) (by omega) hreck) ?_
    rintro _ V1 hle1 rfl
    refine KV (R_max2 rfl rfl) rfl ?_
    refine KV (R_assign rfl) rfl ?_
    refine K_nil ?_
    refine Q_block ?_
    refine Q_then ?_
    refine K_region ?_
    refine KV (R_add rfl rfl (by omega)) rfl ?_
    refine KV (R_move rfl) rfl ?_
    refine K_nil ?_
    refine KQ_sel [1] rfl ?_
    refine Q_nextD (k + 1, V1) ⟨hlt', hV.trans hle1⟩ (by (try dsimp only); omega) ⟨rfl, congrArg (fun z => some (Value.int .i64 z)) (by dsimp only; split <;> omega), trivial⟩ rfl rfl rfl
  ·
    have hk' : k = ts.length := by omega
    subst hk'
    rw [List.take_length]
    refine K_exit ?_
    refine Q_then_exit ?_
    refine Q_then_exit ?_
    refine Q_block_exit ?_
    refine Q_then ?_
    refine K_seq ?_
    refine K_region ?_
    refine KV (R_move rfl) rfl ?_
    refine KV (R_add rfl rfl (by omega)) rfl ?_
    refine KV (R_assign rfl) rfl ?_
    refine K_nil ?_
    refine Q_then ?_
    refine K_ret ?_
    refine results_gen (rs := [.tmp 2]) (vs := [_]) rfl ⟨rfl, trivial⟩ ?_
    simp [tupV, Tr.deep]

theorem psmall_spec (t : Tr) (H : View) (cs : List Value) (hb : t.size ≤ 1073741824) (hr : RepT H t cs) : Sat Tryz.prog F114 #[.agg cs.toArray] H (fun r _ => r = .int .i64 (if (4096 : Int) < t.size then 2 else if (256 : Int) < t.deep then 16 else 0)) := by
  obtain ⟨x0, x1, x2, x3, rfl⟩ := hr.shape
  refine enterO (n := 11) (args := [.agg #[.int .i64 x0, .slice x1 x2 x3]]) Tryz.func111 rfl rfl rfl fun w0 => ?_
  refine K_seq ?_
  refine K_region ?_
  refine KA (A_box rfl) rfl fun b1 => ?_
  refine KV (R_assign rfl) rfl ?_
  refine K_nil ?_
  refine Q_then ?_
  refine K_seq ?_
  refine K_block ?_
  refine K_seq ?_
  refine K_region ?_
  refine KV (R_loadO ty30 0 rfl rfl rfl rfl (fun e => by cases e) rfl) rfl ?_
  refine K_call c118 rfl rfl (psize_spec t.size t H _ (Nat.le_refl _) (by omega) hr) ?_
  rintro _ V1 hv1 rfl
  refine KV (R_cmp rfl rfl rfl) rfl ?_
  refine KV (R_assign rfl) rfl ?_
  refine K_nil ?_
  refine Q_then ?_
  refine K_if rfl (fun h3 => ?_) (fun h3 => ?_)
  ·
    refine K_seq ?_
    refine K_region ?_
    refine KV (R_assign rfl) rfl ?_
    refine K_nil ?_
    refine Q_then ?_
    refine K_ret ?_
    refine Q_block_ret ?_
    refine Q_then_ret ?_
    refine results_gen (rs := [.tmp 2]) (vs := [_]) rfl ⟨rfl, trivial⟩ ?_
    rw [if_pos h3]
    rfl
  ·
    refine K_seq ?_
    refine K_region ?_
    refine KV (R_loadO ty30 0 rfl rfl rfl rfl (fun e => by cases e) rfl) rfl ?_
    refine K_call c119 rfl rfl (pdepth_spec t.size t V1 _ (Nat.le_refl _) (by omega) (hr.mono hv1)) ?_
    rintro _ V2 hv2 rfl
    refine KV (R_cmp rfl rfl rfl) rfl ?_
    refine KV (R_assign rfl) rfl ?_
    refine K_nil ?_
    refine Q_then ?_
    refine K_if rfl (fun h7 => ?_) (fun h7 => ?_)
    ·
      refine K_seq ?_
      refine K_region ?_
      refine KV (R_assign rfl) rfl ?_
      refine K_nil ?_
      refine Q_then ?_
      refine K_ret ?_
      refine Q_block_ret ?_
      refine Q_then_ret ?_
      refine results_gen (rs := [.tmp 2]) (vs := [_]) rfl ⟨rfl, trivial⟩ ?_
      rw [if_neg h3, if_pos h7]
      rfl
    ·
      refine K_skip ?_
      refine Q_block ?_
      refine Q_then ?_
      refine K_seq ?_
      refine K_region ?_
      refine KV (R_assign rfl) rfl ?_
      refine K_nil ?_
      refine Q_then ?_
      refine K_ret ?_
      refine results_gen (rs := [.tmp 2]) (vs := [_]) rfl ⟨rfl, trivial⟩ ?_
      rw [if_neg h3, if_neg h7]
      rfl

theorem pvalid_spec (rk : List Int) (rv : Value) (t : Tr) (H : View) (cs : List Value) (hrkl : rk.length ≤ 1048576) (hb : t.size ≤ 1073741824) (hr : RepT H t cs) (hrv : SI H rv rk) : Sat Tryz.prog F98 #[rv, .agg cs.toArray] H (fun r _ => r = .int .i64 (validErr rk t)) := by
  obtain ⟨x0, x1, x2, x3, rfl⟩ := hr.shape
  obtain ⟨va, vc, rfl⟩ := hrv.shape
  refine enterO (n := 20) (args := [.slice va rk.length vc, .agg #[.int .i64 x0, .slice x1 x2 x3]]) Tryz.func94 rfl rfl rfl fun w0 => ?_
  refine K_seq ?_
  refine K_region ?_
  refine KA (A_box rfl) rfl fun b3 => ?_
  refine KV (R_assign rfl) rfl ?_
  refine K_nil ?_
  refine Q_then ?_
  refine K_seq ?_
  refine K_seq ?_
  refine K_region ?_
  refine KV (R_move rfl) rfl ?_
  refine K_call c72 rfl rfl (acheck_spec rk _ H hrv (by omega)) ?_
  rintro _ V1 hv1 rfl
  refine KV (R_assign rfl) rfl ?_
  refine K_nil ?_
  refine Q_then ?_
  refine K_seq ?_
  refine K_region ?_
  refine KV (R_move rfl) rfl ?_
  refine KV (R_cmp rfl rfl rfl) rfl ?_
  refine K_nil ?_
  refine Q_then ?_
  refine K_if rfl (fun h10 => ?_) (fun h10 => ?_)
  ·
    refine K_seq ?_
    refine K_region ?_
    refine KV (R_move rfl) rfl ?_
    refine KV (R_assign rfl) rfl ?_
    refine K_nil ?_
    refine Q_then ?_
    refine K_ret ?_
    refine Q_then_ret ?_
    refine results_gen (rs := [.tmp 4]) (vs := [_]) rfl ⟨rfl, trivial⟩ ?_
    simp only [tupV, validErr]
    rw [if_pos h10]
  ·
    refine K_skip ?_
    refine Q_then ?_
    refine K_seq ?_
    refine K_seq ?_
    refine K_region ?_
    refine KV (R_loadO ty30 0 rfl rfl rfl rfl (fun e => by cases e) rfl) rfl ?_
    refine K_call c114 rfl rfl (psmall_spec t V1 _ hb (hr.mono hv1)) ?_
    rintro _ V2 hv2 rfl
    refine KV (R_assign rfl) rfl ?_
    refine K_nil ?_
    refine Q_then ?_
    refine K_seq ?_
    refine K_region ?_
    refine KV (R_move rfl) rfl ?_
    refine KV (R_cmp rfl rfl rfl) rfl ?_
    refine K_nil ?_
    refine Q_then ?_
    refine K_if rfl (fun h15 => ?_) (fun h15 => ?_)
    ·
      refine K_seq ?_
      refine K_region ?_
      refine KV (R_move rfl) rfl ?_
      refine KV (R_assign rfl) rfl ?_
      refine K_nil ?_
      refine Q_then ?_
      refine K_ret ?_
      refine Q_then_ret ?_
      refine results_gen (rs := [.tmp 4]) (vs := [_]) rfl ⟨rfl, trivial⟩ ?_
      simp only [tupV, validErr]
      rw [if_neg h10]
      refine congrArg (Value.int .i64) ?_
      split
      · rfl
      · split
        · rfl
        · rename_i g1 g2; rw [if_neg g1, if_neg g2] at h15; exact absurd rfl h15
    ·
      refine K_skip ?_
      refine Q_then ?_
      refine K_seq ?_
      refine K_region ?_
      refine KV (R_move rfl) rfl ?_
      refine KV (R_loadO ty30 0 rfl rfl rfl rfl (fun e => by cases e) rfl) rfl ?_
      refine K_call c115 rfl rfl (right_spec rk _ (by omega) t.size t V2 _ (Nat.le_refl _) (by omega) (hr.mono (hv1.trans hv2)) (hrv.mono (hv1.trans hv2))) ?_
      rintro _ V3 hv3 rfl
      refine KV (R_assign rfl) rfl ?_
      refine K_nil ?_
      refine Q_then ?_
      refine K_ret ?_
      refine results_gen (rs := [.tmp 4]) (vs := [_]) rfl ⟨rfl, trivial⟩ ?_
      simp only [tupV, validErr]
      rw [if_neg h10]
      refine congrArg (Value.int .i64) ?_
      split
      · rename_i g1; rw [if_pos g1] at h15; exact absurd h15 (by decide)
      · split
        · rename_i g1 g2; rw [if_neg g1, if_pos g2] at h15; exact absurd h15 (by decide)
        · rfl

end Go.Proofs.X

namespace Go.Proofs.X
open Go Pal Go.Proofs
attribute [local irreducible] Pal.KO Pal.KC Pal.KQ Pal.KD
theorem c62 : callable Tryz.prog F62 = true := by kernel_rfl
theorem key_spec2 (r : Rl) (v : Value) (H : View) (hv : SI H v r.args) (hs : i64ok r.sym) (ht : i64ok r.to) (hl : r.args.length ≤ 1099511627776) : Sat Tryz.prog F69 #[.agg #[.int .i64 r.sym, v, .int .i64 r.to]] H (fun w H' => SI H' w (keyL r)) := by
  obtain ⟨a, cp, rfl⟩ := hv.shape
  refine enterO (n := 13) (args := [.agg #[.int .i64 r.sym, .slice a r.args.length cp, .int .i64 r.to]]) Tryz.func93 rfl rfl rfl fun w0 => ?_
  refine K_seq ?_
  refine K_region ?_
  refine KA (A_box rfl) rfl fun b1 => ?_
  refine KV (R_assign rfl) rfl ?_
  refine K_nil ?_
  refine Q_then ?_
  refine K_seq ?_
  refine K_regionD (fin := false) (R := [0, 1, 3, 4, 6, 7, 2, 5, 8, 9, 10]) (by kernel_rfl) mixed (.cons_cons _ (List.nil_sublist _)) ?_
  refine D_val rfl rfl rfl (R_fieldAddr 0 fd100_0 rfl) ?_
  refine D_val rfl rfl rfl (R_loadO ty3 0 rfl rfl rfl rfl (fun _ => rfl) rfl) ?_
  refine D_val rfl rfl rfl (R_fieldAddr 1 fd100_1 rfl) ?_
  refine D_val rfl rfl rfl (R_loadO ty25 0 rfl rfl rfl rfl (fun _ => rfl) rfl) ?_
  refine D_val rfl rfl rfl (R_fieldAddr 2 fd100_2 rfl) ?_
  refine D_val rfl rfl rfl (R_loadO ty3 0 rfl rfl rfl rfl (fun _ => rfl) rfl) ?_
  refine D_alloc rfl rfl rfl (A_buildSlice (vs := [.int .i64 r.sym]) sl25 ty3 z3 rfl rfl (by simp [Value.cells]) (by simp) rfl (by decide)) fun b5 => ?_
  refine D_appendLit 0 ap25 sl25 rfl rfl rfl rfl rfl ⟨⟨0, rfl⟩, trivial⟩ hv.1 (by simp [ints]) rfl (ints_one _) ⟨by omega, by omega⟩ fun a8 k8 => ?_

  refine D_alloc rfl rfl rfl (A_buildSlice (vs := [.int .i64 r.to]) sl25 ty3 z3 rfl rfl (by simp [Value.cells]) (by simp) rfl (by decide)) fun b11 => ?_
  refine D_append1 0 ap25 rfl rfl rfl rfl rfl rfl ⟨⟨0, rfl⟩, trivial⟩ rfl rfl ⟨by omega, by omega⟩ fun a12 k12 hn12 => ?_
  refine D_val rfl rfl rfl (R_assign rfl) ?_
  refine D_done ?_
  refine Q_then ?_
  refine K_ret ?_
  refine KQ_pubrow rfl fun Hp hp hrow => ?_
  refine results_gen (rs := [.tmp 2]) (vs := [_]) rfl ⟨rfl, trivial⟩ ?_
  have h := hrow.sl
  have e : ints (keyL r) = ([Value.int .i64 r.sym] ++ ints r.args) ++ [Value.int .i64 r.to] := by simp [keyL, ints]
  have e2 : (keyL r).length = 1 + r.args.length + 1 := by rw [keyL_len]; omega
  refine ⟨?_, ?_⟩
  · rw [e, e2]; exact h
  · intro x hx
    simp only [keyL, List.mem_cons, List.mem_append, List.not_mem_nil, or_false] at hx
    rcases hx with rfl | hx | rfl
    · exact hs
    · exact hv.2 x hx
    · exact ht

theorem within_spec (xs ys : List Int) (v w : Value) (H : View) (hv : SI H v xs) (hw : SI H w ys) (hl : xs.length ≤ 1099511627776) (hl2 : ys.length ≤ 1099511627776) : Sat Tryz.prog F68 #[v, w] H (fun r _ => r = .bool (decide (∀ x ∈ xs, x ∈ ys))) := by
  obtain ⟨a, cp, rfl⟩ := hv.shape
  obtain ⟨b, cq, rfl⟩ := hw.shape
  refine enterO (n := 19) (args := [.slice a xs.length cp, .slice b ys.length cq]) Tryz.func92 rfl rfl rfl fun w0 => ?_
  refine K_seq ?_
  refine K_region ?_
  refine KV (R_assign rfl) rfl ?_
  refine K_nil ?_
  refine Q_then ?_
  refine K_seq ?_
  refine K_seq ?_
  refine K_region ?_
  refine KV (R_assign rfl) rfl ?_
  refine K_nil ?_
  refine Q_then ?_
  refine K_block ?_
  refine K_loopD (G := Nat × View) [4, 5, 6, 7, 8, 9, 10, 11, 12, 13, 14, 15, 16, 17, 18] (fun g => [(5, .int .i64 (g.1 : Int))]) (fun hl g => hl) (fun g => g.2) (fun g => (g.1 ≤ xs.length) ∧ (VLe H g.2) ∧ (∀ j (h : j < xs.length), j < g.1 → xs[j] ∈ ys)) (fun g => xs.length - g.1) (0, H) ⟨Nat.zero_le _, VLe.refl _, fun j _ h => by simp at h⟩ ⟨rfl, trivial⟩ (by simp only [args0, Nat.reduceAdd, del, memN, beqN, Nat.reduceBEq, cond_true, cond_false]; rfl) rfl rfl ?_
  rintro ⟨k, V⟩ ⟨hk, hV, hyes⟩
  dsimp only at hk hV hyes
  dsimp only [List.set, List.cons_append, List.nil_append]
  refine K_seq ?_
  refine K_seq ?_
  refine K_region ?_
  refine KV (R_move rfl) rfl ?_
  refine KV (R_move rfl) rfl ?_
  refine KV (R_len sl25 rfl) rfl ?_
  refine KV (R_cmp rfl rfl rfl) rfl ?_
  refine K_nil ?_
  refine Q_then ?_
  refine K_if rfl (fun h9 => ?_) (fun h9 => ?_)
  ·
    have hk' : k < xs.length := by omega
    obtain ⟨tb, to_, hte, hta⟩ := (hv.mono hV).get hk'
    cases hte
    refine K_skip ?_
    refine Q_then ?_
    refine K_seq ?_
    refine K_block ?_
    refine K_seq ?_
    refine K_region ?_
    refine KV (R_move rfl) rfl ?_
    refine KV (R_move rfl) rfl ?_
    refine KV (R_move rfl) rfl ?_
    refine KV (R_indexN sl25 ty3 rfl rfl (by omega)) rfl ?_
    refine KV (R_loadH ty3 rfl (hta) rfl (fun _ => rfl) rfl) rfl ?_
    refine K_call c62 rfl rfl (rhas_spec xs[k] ys _ V (hw.mono hV) hl2) ?_
    rintro _ V1 hle1 rfl
    refine KV (R_notP rfl) rfl ?_
    refine K_nil ?_
    refine Q_then ?_
    refine K_if rfl (fun h18 => ?_) (fun h18 => ?_)
    ·
      refine K_seq ?_
      refine K_region ?_
      refine KV (R_assign rfl) rfl ?_
      refine K_nil ?_
      refine Q_then ?_
      refine K_ret ?_
      refine Q_block_ret ?_
      refine Q_then_ret ?_
      refine Q_then_ret ?_
      refine Q_block_ret ?_
      refine Q_then_ret ?_
      refine results_gen (rs := [.tmp 4]) (vs := [_]) rfl ⟨rfl, trivial⟩ ?_
      refine congrArg Value.bool (Eq.symm ?_)
      simp only [decide_eq_false_iff_not]
      exact fun h => h18 (h _ (List.getElem_mem hk'))
    ·
      have hyes2 : ∀ j (h : j < xs.length), j < k + 1 → xs[j] ∈ ys := by
        intro j h hj
        by_cases e : j = k
        · subst e; exact Decidable.not_not.1 h18
        · exact hyes j h (by omega)
      refine K_skip ?_
      refine Q_block ?_
      refine Q_then ?_
      refine K_region ?_
      refine KV (R_move rfl) rfl ?_
      refine KV (R_add rfl rfl (by omega)) rfl ?_
      refine KV (R_assign rfl) rfl ?_
      refine K_nil ?_
      refine Q_nextD (k + 1, V1) ⟨hk', hV.trans hle1, hyes2⟩ (by (try dsimp only); omega) ⟨rfl, trivial⟩ rfl rfl rfl
  ·
    have hk' : k = xs.length := by omega
    refine K_exit ?_
    refine Q_then_exit ?_
    refine Q_then_exit ?_
    refine Q_block_exit ?_
    refine Q_then ?_
    refine K_seq ?_
    refine K_region ?_
    refine KV (R_assign rfl) rfl ?_
    refine K_nil ?_
    refine Q_then ?_
    refine K_ret ?_
    refine results_gen (rs := [.tmp 4]) (vs := [_]) rfl ⟨rfl, trivial⟩ ?_
    refine congrArg Value.bool (Eq.symm ?_)
    simp only [decide_eq_true_eq]
    intro x hx
    obtain ⟨j, hj, rfl⟩ := List.getElem_of_mem hx
    exact hyes j hj (by omega)
end Go.Proofs.X

namespace Go.Proofs.X
open Go Pal Go.Proofs
attribute [local irreducible] Pal.KO Pal.KC Pal.KQ Pal.KD
theorem z42 : zeroOk Tryz.prog T42 (.agg #[.slice none 0 0, .int .i64 0, .slice none 0 0, .slice none 0 0]) := .of (by kernel_rfl)
theorem pl42 : placesOk Tryz.prog T42 [(0, 1), (1, 1), (2, 1), (3, 1)] := ⟨_, Tryz.underlying25, by kernel_rfl⟩
theorem c60 : callable Tryz.prog F60 = true := by kernel_rfl
theorem c69 : callable Tryz.prog F69 = true := by kernel_rfl
theorem ap40 : App Tryz.prog T40 T100 3 40 := .of sl40 (by kernel_rfl)
theorem rsorted_spec (a : Au) (vr vu vf : Value) (H : View) (ha : RepAu H a vr vu vf) (hsm : a.rules.length ≤ 1048576) (hst : a.states ≤ 1048576) (har : ∀ r ∈ a.rules, r.args.length ≤ 1048576) : Sat Tryz.prog F67 #[.agg #[vr, .int .i64 a.states, vu, vf]] H (fun r H' => ∃ v1 v2 v3, r = .agg #[v1, .int .i64 a.states, v2, v3] ∧ RepAu H' (sortedM a) v1 v2 v3) := by
  obtain ⟨ra, rcp, rfl⟩ := ha.r.shape
  obtain ⟨fa, fcp, rfl⟩ := ha.f.shape
  obtain ⟨ua, ucp, rfl⟩ := ha.ushape
  have hrl := ha.rl
  have hul := ha.ul
  have hfl := ha.fl
  have hsl := sortR_len
  refine enterO (n := 99) (args := [.agg #[.slice ra a.ranks.length rcp, .int .i64 a.states, .slice ua a.rules.length ucp, .slice fa a.final.length fcp]]) Tryz.func60 rfl rfl rfl fun w0 => ?_
  refine K_seq ?_
  refine K_region ?_
  refine KA (A_box rfl) rfl fun b1 => ?_
  refine KA (A_alloc z42) rfl fun b2 => ?_
  refine K_nil ?_
  refine Q_then ?_
  refine K_seq ?_
  refine K_region ?_
  refine KV (R_fieldAddr 0 fd42_0 rfl) rfl ?_
  refine KV (R_loadO ty25 1 rfl rfl rfl rfl (fun _ => rfl) rfl) rfl ?_
  refine KV (R_fieldAddr 1 fd42_1 rfl) rfl ?_
  refine KV (R_loadO ty3 1 rfl rfl rfl rfl (fun _ => rfl) rfl) rfl ?_
  refine KV (R_build z42 pl42 rfl rfl) rfl ?_
  refine KA (A_alloc z42) rfl fun b3 => ?_
  refine K_store ty42 0 rfl rfl rfl rfl rfl rfl ?_
  refine K_nil ?_
  refine Q_then ?_
  refine K_seq ?_
  refine K_seq ?_
  refine K_region ?_
  refine KV (R_assign rfl) rfl ?_
  refine K_nil ?_
  refine Q_then ?_
  refine K_block ?_
  refine K_loopD (G := Nat × View × Option Addr × Nat × List Value) [4, 5, 12, 13, 14, 15, 16, 17, 18, 19, 20, 21, 22, 23, 24, 25, 26, 27, 28, 29, 30, 31, 32, 33, 34, 35, 36, 37, 38, 39, 40, 41, 42, 43, 44, 45, 46, 47, 48, 49, 50, 51, 52, 53, 54, 55, 56, 57, 58, 59, 60, 61, 62, 63, 64, 65, 66, 67, 68, 69, 70, 71, 72, 73, 74, 75, 76, 77, 78, 79, 80, 81] (fun g => [(4, .int .i64 (g.1 : Int))]) (fun hl g => (hl.set 0 (blk b3 (.cells #[.slice ra a.ranks.length rcp, .int .i64 a.states, .slice g.2.2.1 (sortR (a.rules.take g.1)).length g.2.2.2.1, .slice none 0 0] T42 (0, 0))))) (fun g => g.2.1) (fun g => (g.1 ≤ a.rules.length) ∧ (VLe H g.2.1) ∧ (SlAt g.2.1 (.slice g.2.2.1 (sortR (a.rules.take g.1)).length g.2.2.2.1) (sortR (a.rules.take g.1)).length g.2.2.2.2) ∧ (RepL (RepR g.2.1) 3 (sortR (a.rules.take g.1)) g.2.2.2.2) ∧ ((sortR (a.rules.take g.1)).length ≤ g.2.2.2.1)) (fun g => a.rules.length - g.1) (0, H, none, 0, []) ⟨Nat.zero_le _, VLe.refl _, ⟨none, 0, rfl, .inl ⟨rfl, rfl⟩⟩, .nil, Nat.le_refl _⟩ ⟨rfl, trivial⟩ (by simp only [args0, Nat.reduceAdd, del, memN, beqN, Nat.reduceBEq, cond_true, cond_false]; rfl) rfl rfl ?_
  rintro ⟨i, V, oa, oc, cells⟩ ⟨hi, hV, hS, hC, hoc⟩
  dsimp only at hi hV hS hC hoc
  dsimp only [List.set, List.cons_append, List.nil_append]
  have hln : (sortR (a.rules.take i)).length ≤ i := Nat.le_trans (hsl _) (by rw [List.length_take]; omega)
  have hcl := hC.length
  refine K_seq ?_
  refine K_seq ?_
  refine K_region ?_
  refine KV (R_move rfl) rfl ?_
  refine KV (R_fieldAddr 2 fd42_2 rfl) rfl ?_
  refine KV (R_loadO ty40 2 rfl rfl rfl rfl (fun _ => rfl) rfl) rfl ?_
  refine KV (R_len sl40 rfl) rfl ?_
  refine KV (R_cmp rfl rfl rfl) rfl ?_
  refine K_nil ?_
  refine Q_then ?_
  refine K_if rfl (fun h16 => ?_) (fun h16 => ?_)
  ·
    have hi' : i < a.rules.length := by omega
    obtain ⟨ub, uo, ucp2, xa, xcp, hue, hrc, hsr, hsym, hto, hxl⟩ := (ha.mono hV).rule hi'
    cases hue
    have hari := har _ (List.getElem_mem hi')
    refine K_skip ?_
    refine Q_then ?_
    refine K_seq ?_
    refine K_block ?_
    refine K_seq ?_
    refine K_region ?_
    refine KV (R_assign rfl) rfl ?_
    refine K_nil ?_
    refine Q_then ?_
    refine K_seq ?_
    refine K_block ?_
    refine K_loopD (G := Nat × View) [5, 19, 20, 21, 22, 23, 24, 25, 26, 27, 28, 29, 30, 31, 32, 33, 34, 35, 36, 37, 38, 39, 40, 41] (fun g => [(5, .int .i64 (g.1 : Int))]) (fun hl g => hl) (fun g => g.2) (fun g => (g.1 ≤ (sortR (a.rules.take i)).length) ∧ (VLe V g.2) ∧ (∀ j (h : j < (sortR (a.rules.take i)).length), j < g.1 → cmpL (keyL (sortR (a.rules.take i))[j]) (keyL a.rules[i]) < 0)) (fun g => (sortR (a.rules.take i)).length - g.1) (0, V) ⟨Nat.zero_le _, VLe.refl _, fun j _ h => by simp at h⟩ ⟨rfl, trivial⟩ (by simp only [args0, Nat.reduceAdd, del, memN, beqN, Nat.reduceBEq, cond_true, cond_false]; rfl) rfl rfl ?_
    rintro ⟨at_, U⟩ ⟨hat, hU, hlt⟩
    dsimp only at hat hU hlt
    dsimp only [List.set, List.cons_append, List.nil_append]
    refine K_seq ?_
    refine K_seq ?_
    refine K_regionD (fin := false) (R := [0, 1, 2, 3, 4, 5, 6, 7, 8, 9, 10, 12, 13, 14, 15, 16, 11, 17, 18, 19, 20]) (by kernel_rfl) mixed (.cons_cons _ (.cons_cons _ (.cons_cons _ (List.nil_sublist _)))) ?_
    refine D_val rfl rfl rfl (R_move rfl) ?_
    refine D_val rfl rfl rfl (R_fieldAddr 2 fd42_2 rfl) ?_
    refine D_val rfl rfl rfl (R_loadO ty40 0 rfl rfl rfl rfl (fun _ => rfl) rfl) ?_
    refine D_val rfl rfl rfl (R_len sl40 rfl) ?_
    refine D_val rfl rfl rfl (R_cmp rfl rfl rfl) ?_
    refine D_val rfl rfl rfl (R_move rfl) ?_
    refine D_split ?_ ?_
    ·
      intro h24
      have hat' : at_ < (sortR (a.rules.take i)).length := by omega
      obtain ⟨ob, oo, oa2, ocp2, hoe, hoc2, hos, hosy, hoto, hol⟩ := rules_elem (hS.mono hU) (RepR.imp3 hU hC) hat'
      cases hoe
      have haro := har _ (List.mem_of_mem_take (sortR_mem (List.getElem_mem hat')))
      refine D_val rfl rfl rfl (R_fieldAddr 2 fd42_2 rfl) ?_
      refine D_val rfl rfl rfl (R_loadO ty40 0 rfl rfl rfl rfl (fun _ => rfl) rfl) ?_
      refine D_val rfl rfl rfl (R_move rfl) ?_
      refine D_val rfl rfl rfl (R_indexN sl40 ty100 rfl rfl (by omega)) ?_
      refine D_val rfl rfl rfl (R_loadH ty100 rfl (hoc2) rfl (fun e => by cases e) rfl) ?_
      refine D_val rfl rfl rfl (R_fieldAddr 2 fd42_2 rfl) ?_
      refine D_val rfl rfl rfl (R_loadO ty40 2 rfl rfl rfl rfl (fun _ => rfl) rfl) ?_
      refine D_val rfl rfl rfl (R_move rfl) ?_
      refine D_val rfl rfl rfl (R_indexN sl40 ty100 rfl rfl (by omega)) ?_
      refine D_val rfl rfl rfl (R_loadH ty100 rfl (hrc.mono hU) rfl (fun e => by cases e) rfl) ?_
      refine D_call rfl rfl c69 rfl ⟨⟨0, rfl⟩, ⟨1, rfl⟩, ⟨2, rfl⟩, trivial⟩ (key_spec2 (sortR (a.rules.take i))[at_] _ U hos hosy hoto hol) ?_
      rintro kv1 U1a hUa hk1
      obtain ⟨ka1, kc1x, rfl⟩ := hk1.shape
      refine D_call rfl rfl c69 rfl ⟨⟨0, rfl⟩, ⟨1, rfl⟩, ⟨2, rfl⟩, trivial⟩ (key_spec2 a.rules[i] _ U1a (hsr.mono (hU.trans hUa)) hsym hto hxl) ?_
      rintro kv2 U1b hUb hk2
      obtain ⟨ka2, kc2x, rfl⟩ := hk2.shape
      refine D_call rfl rfl c60 rfl ⟨⟨0, rfl⟩, ⟨1, rfl⟩, ⟨2, rfl⟩, trivial⟩ (cmpl_spec (keyL (sortR (a.rules.take i))[at_]) (keyL a.rules[i]) _ _ U1b (hk1.mono hUb) hk2 (by rw [keyL_len]; omega) (by rw [keyL_len]; omega)) ?_
      rintro _ U1c hUc0 rfl
      have hUc : VLe U U1c := hUa.trans (hUb.trans hUc0)
      refine D_val rfl rfl rfl (R_cmp rfl rfl rfl) ?_
      refine D_val rfl rfl rfl (R_pickT rfl rfl) ?_
      refine D_done ?_
      refine Q_then ?_
      refine K_if rfl (fun h39 => ?_) (fun h39 => ?_)
      ·
        have hlt2 : ∀ j (h : j < (sortR (a.rules.take i)).length), j < at_ + 1 → cmpL (keyL (sortR (a.rules.take i))[j]) (keyL a.rules[i]) < 0 := by
          intro j h hj
          by_cases e : j = at_
          · subst e; exact h39
          · exact hlt j h (by omega)
        refine K_skip ?_
        refine Q_then ?_
        refine K_block ?_
        refine K_region ?_
        refine KV (R_move rfl) rfl ?_
        refine KV (R_add rfl rfl (by omega)) rfl ?_
        refine KV (R_assign rfl) rfl ?_
        refine K_nil ?_
        refine Q_block ?_
        refine Q_nextD (at_ + 1, U1c) ⟨hat', hU.trans hUc, hlt2⟩ (by (try dsimp only); omega) ⟨rfl, trivial⟩ rfl rfl rfl
      ·
        have hstop : ∀ h : at_ < (sortR (a.rules.take i)).length, ¬ cmpL (keyL (sortR (a.rules.take i))[at_]) (keyL a.rules[i]) < 0 := fun _ => h39
        have hVU := hU.trans hUc
        refine K_exit ?_
        refine Q_then_exit ?_
        refine Q_then_exit ?_
        refine Q_block_exit ?_
        refine Q_then ?_
        refine K_seq ?_
        refine K_seq ?_
        refine K_regionD (fin := false) (R := [0, 1, 2, 3, 4, 5, 6, 7, 8, 9, 10, 12, 13, 14, 15, 16, 11, 17, 18, 19, 20]) (by kernel_rfl) mixed (.cons_cons _ (.cons_cons _ (.cons_cons _ (List.nil_sublist _)))) ?_
        refine D_val rfl rfl rfl (R_move rfl) ?_
        refine D_val rfl rfl rfl (R_fieldAddr 2 fd42_2 rfl) ?_
        refine D_val rfl rfl rfl (R_loadO ty40 0 rfl rfl rfl rfl (fun _ => rfl) rfl) ?_
        refine D_val rfl rfl rfl (R_len sl40 rfl) ?_
        refine D_val rfl rfl rfl (R_cmp rfl rfl rfl) ?_
        refine D_val rfl rfl rfl (R_move rfl) ?_
        refine D_split ?_ ?_
        ·
          intro h47
          have hat4 : at_ < (sortR (a.rules.take i)).length := by omega
          obtain ⟨ob4, oo4, oa4, ocp4, hoe4, hoc4, hos4, hosy4, hoto4, hol4⟩ := rules_elem (hS.mono hVU) (RepR.imp3 hVU hC) hat4
          cases hoe4
          have haro4 := har _ (List.mem_of_mem_take (sortR_mem (List.getElem_mem hat4)))
          refine D_val rfl rfl rfl (R_fieldAddr 2 fd42_2 rfl) ?_
          refine D_val rfl rfl rfl (R_loadO ty40 0 rfl rfl rfl rfl (fun _ => rfl) rfl) ?_
          refine D_val rfl rfl rfl (R_move rfl) ?_
          refine D_val rfl rfl rfl (R_indexN sl40 ty100 rfl rfl (by omega)) ?_
          refine D_val rfl rfl rfl (R_loadH ty100 rfl (hoc4) rfl (fun e => by cases e) rfl) ?_
          refine D_val rfl rfl rfl (R_fieldAddr 2 fd42_2 rfl) ?_
          refine D_val rfl rfl rfl (R_loadO ty40 2 rfl rfl rfl rfl (fun _ => rfl) rfl) ?_
          refine D_val rfl rfl rfl (R_move rfl) ?_
          refine D_val rfl rfl rfl (R_indexN sl40 ty100 rfl rfl (by omega)) ?_
          refine D_val rfl rfl rfl (R_loadH ty100 rfl (hrc.mono hVU) rfl (fun e => by cases e) rfl) ?_
          refine D_call rfl rfl c69 rfl ⟨⟨0, rfl⟩, ⟨1, rfl⟩, ⟨2, rfl⟩, trivial⟩ (key_spec2 (sortR (a.rules.take i))[at_] _ _ hos4 hosy4 hoto4 hol4) ?_
          rintro kv3 U4a hU4a hk3
          obtain ⟨ka3, kc3x, rfl⟩ := hk3.shape
          refine D_call rfl rfl c69 rfl ⟨⟨0, rfl⟩, ⟨1, rfl⟩, ⟨2, rfl⟩, trivial⟩ (key_spec2 a.rules[i] _ U4a (hsr.mono (hVU.trans hU4a)) hsym hto hxl) ?_
          rintro kv4 U4b hU4b hk4
          obtain ⟨ka4, kc4x, rfl⟩ := hk4.shape
          refine D_call rfl rfl c60 rfl ⟨⟨0, rfl⟩, ⟨1, rfl⟩, ⟨2, rfl⟩, trivial⟩ (cmpl_spec (keyL (sortR (a.rules.take i))[at_]) (keyL a.rules[i]) _ _ U4b (hk3.mono hU4b) hk4 (by rw [keyL_len]; omega) (by rw [keyL_len]; omega)) ?_
          rintro _ U4c hU4c rfl
          have hUcy := hU4a.trans (hU4b.trans hU4c)
          refine D_val rfl rfl rfl (R_cmp rfl rfl rfl) ?_
          refine D_val rfl rfl rfl (R_pickT rfl rfl) ?_
          refine D_done ?_
          refine Q_then ?_
          refine K_if rfl (fun h62 => ?_) (fun h62 => ?_)
          ·
            have hU2 := hVU.trans hUcy
            have hins : insR a.rules[i] (sortR (a.rules.take i)) = (sortR (a.rules.take i)) := by rw [insR_at hat hlt hstop, if_pos ⟨hat4, h62⟩]
            refine K_exit ?_
            refine Q_then_exit ?_
            refine Q_block_exit ?_
            refine Q_then ?_
            refine K_region ?_
            refine KV (R_move rfl) rfl ?_
            refine KV (R_add rfl rfl (by omega)) rfl ?_
            refine KV (R_assign rfl) rfl ?_
            refine K_nil ?_
            refine Q_nextD (i + 1, _, _, oc, cells) ⟨hi', hV.trans hU2, by rw [sortR_take hi', hins]; exact hS.mono hU2, by rw [sortR_take hi', hins]; exact hC.imp fun _ _ h => h.mono hU2, by rw [sortR_take hi', hins]; exact hoc⟩ (by (try dsimp only); omega) ⟨rfl, trivial⟩ rfl (by dsimp only; rw [sortR_take hi', hins]) rfl
          ·
            have hU2 := hVU.trans hUcy
            have hins : insR a.rules[i] (sortR (a.rules.take i)) = (sortR (a.rules.take i)).take at_ ++ a.rules[i] :: (sortR (a.rules.take i)).drop at_ := by rw [insR_at hat hlt hstop, if_neg (by rintro ⟨_, h⟩; exact h62 h)]
            refine K_skip ?_
            refine Q_then ?_
            refine K_regionD (fin := true) (R := [1, 2, 3, 4, 6, 7, 8, 9, 10, 13, 14, 15, 16, 0, 5, 11, 12, 17, 18, 19]) (by kernel_rfl) mixed (.cons_cons _ (.cons_cons _ (.cons_cons _ (List.nil_sublist _)))) ?_
            refine D_val rfl rfl rfl (R_fieldAddr 2 fd42_2 rfl) ?_
            refine D_val rfl rfl rfl (R_loadO ty40 0 rfl rfl rfl rfl (fun _ => rfl) rfl) ?_
            refine D_val rfl rfl rfl (R_move rfl) ?_
            refine D_val rfl rfl rfl (R_sliceHi sl40 ty100 rfl rfl (Nat.le_trans hat hoc)) ?_
            refine D_val rfl rfl rfl (R_fieldAddr 2 fd42_2 rfl) ?_
            refine D_val rfl rfl rfl (R_loadO ty40 2 rfl rfl rfl rfl (fun _ => rfl) rfl) ?_
            refine D_val rfl rfl rfl (R_move rfl) ?_
            refine D_val rfl rfl rfl (R_indexN sl40 ty100 rfl rfl (by omega)) ?_
            refine D_val rfl rfl rfl (R_loadH ty100 rfl (hrc.mono hU2) rfl (fun e => by cases e) rfl) ?_
            refine D_val rfl rfl rfl (R_fieldAddr 2 fd42_2 rfl) ?_
            refine D_val rfl rfl rfl (R_loadO ty40 0 rfl rfl rfl rfl (fun _ => rfl) rfl) ?_
            refine D_val rfl rfl rfl (R_move rfl) ?_
            refine D_val rfl rfl rfl (R_sliceLo sl40 ty100 rfl rfl hat) ?_
            refine D_alloc rfl rfl rfl (A_buildSlice (vs := []) sl40 ty100 z100 rfl rfl (by simp) (by simp) rfl (by decide)) fun b63 => ?_
            have hcl3 : (cells.take (at_ * 3)).length = at_ * 3 := by rw [List.length_take, hcl]; omega
            refine D_append0 0 ap40 sl40 rfl rfl rfl rfl rfl ⟨⟨0, rfl⟩, ⟨1, rfl⟩, ⟨2, rfl⟩, trivial⟩ ((hS.mono hU2).hi hat hoc) hcl3 ((hC.take at_).oneCell fun _ _ h => h.one) ⟨by omega, by omega⟩ fun a68 k68 => ?_

            refine D_alloc rfl rfl rfl (A_buildSlice (vs := [.agg #[.int .i64 a.rules[i].sym, .slice xa a.rules[i].args.length xcp, .int .i64 a.rules[i].to]]) sl40 ty100 z100 rfl rfl (by simp [Value.cells]) (by simp) rfl (by decide)) fun b74 => ?_
            refine D_append1 0 ap40 rfl rfl rfl rfl rfl rfl ⟨⟨0, rfl⟩, ⟨1, rfl⟩, ⟨2, rfl⟩, trivial⟩ rfl rfl ⟨by omega, by omega⟩ fun a75 k75 hn75 => ?_
            have hcl4 : (cells.drop (at_ * 3)).length = ((sortR (a.rules.take i)).length - at_) * 3 := by rw [List.length_drop, hcl, Nat.sub_mul]
            refine D_appendS 0 ap40 sl40 rfl rfl rfl rfl rfl ⟨⟨0, rfl⟩, ⟨1, rfl⟩, ⟨2, rfl⟩, trivial⟩ ((hS.mono hU2).lo hcl hat hoc) hcl4 ((hC.drop at_).oneCell fun _ _ h => h.one) ⟨by omega, by omega⟩ fun a80 k80 => ?_

            refine D_val rfl rfl rfl (R_fieldAddr 2 fd42_2 rfl) ?_
            refine D_lastStore ty40 1 rfl rfl rfl rfl rfl rfl rfl rfl ?_
            refine KQ_front 0 rfl ?_
            refine KQ_pubrowC rfl fun Hp hp hrow hzc => ?_
            obtain ⟨za, zc, hze, hzc⟩ := hzc
            cases hze
            have hnl : ((sortR (a.rules.take i)).take at_ ++ a.rules[i] :: (sortR (a.rules.take i)).drop at_).length = at_ + 1 + ((sortR (a.rules.take i)).length - at_) := by simp only [List.length_append, List.length_cons, List.length_take, List.length_drop]; omega
            have hcat : (sortR (a.rules.take i)).take at_ ++ a.rules[i] :: (sortR (a.rules.take i)).drop at_ = ((sortR (a.rules.take i)).take at_ ++ [a.rules[i]]) ++ (sortR (a.rules.take i)).drop at_ := by simp
            refine Q_block ?_
            refine Q_then ?_
            refine K_region ?_
            refine KV (R_move rfl) rfl ?_
            refine KV (R_add rfl rfl (by omega)) rfl ?_
            refine KV (R_assign rfl) rfl ?_
            refine K_nil ?_
            refine Q_nextD (i + 1, Hp, a80, k80, (cells.take (at_ * 3) ++ [.int .i64 a.rules[i].sym, .slice xa a.rules[i].args.length xcp, .int .i64 a.rules[i].to]) ++ cells.drop (at_ * 3)) ⟨hi', hV.trans (hU2.trans hp), by rw [sortR_take hi', hins, hnl]; exact hrow.sl, by rw [sortR_take hi', hins, hcat]; exact (((hC.take at_).imp fun _ _ h => h.mono (hU2.trans hp)).snoc ((RepR.of_rule hsr hsym hto hxl).mono (hU2.trans hp)) rfl).append ((hC.drop at_).imp fun _ _ h => h.mono (hU2.trans hp)), by rw [sortR_take hi', hins, hnl]; exact hzc⟩ (by (try dsimp only); omega) ⟨rfl, trivial⟩ rfl (by dsimp only; rw [sortR_take hi', hins, hnl]; rfl) rfl
        ·
          intro h47
          have hU2 := hVU
          have hins : insR a.rules[i] (sortR (a.rules.take i)) = (sortR (a.rules.take i)).take at_ ++ a.rules[i] :: (sortR (a.rules.take i)).drop at_ := by rw [insR_at hat hlt hstop, if_neg (by rintro ⟨h, _⟩; omega)]
          refine D_skip rfl rfl ?_
          refine D_skip rfl rfl ?_
          refine D_skip rfl rfl ?_
          refine D_skip rfl rfl ?_
          refine D_skip rfl rfl ?_
          refine D_skip rfl rfl ?_
          refine D_skip rfl rfl ?_
          refine D_skip rfl rfl ?_
          refine D_skip rfl rfl ?_
          refine D_skip rfl rfl ?_
          refine D_skip rfl rfl ?_
          refine D_skip rfl rfl ?_
          refine D_skip rfl rfl ?_
          refine D_skip rfl rfl ?_
          refine D_val rfl rfl rfl (R_pickF rfl rfl) ?_
          refine D_done ?_
          refine Q_then ?_
          refine K_ifF rfl ?_
          refine K_skip ?_
          refine Q_then ?_
          refine K_regionD (fin := true) (R := [1, 2, 3, 4, 6, 7, 8, 9, 10, 13, 14, 15, 16, 0, 5, 11, 12, 17, 18, 19]) (by kernel_rfl) mixed (.cons_cons _ (.cons_cons _ (.cons_cons _ (List.nil_sublist _)))) ?_
          refine D_val rfl rfl rfl (R_fieldAddr 2 fd42_2 rfl) ?_
          refine D_val rfl rfl rfl (R_loadO ty40 0 rfl rfl rfl rfl (fun _ => rfl) rfl) ?_
          refine D_val rfl rfl rfl (R_move rfl) ?_
          refine D_val rfl rfl rfl (R_sliceHi sl40 ty100 rfl rfl (Nat.le_trans hat hoc)) ?_
          refine D_val rfl rfl rfl (R_fieldAddr 2 fd42_2 rfl) ?_
          refine D_val rfl rfl rfl (R_loadO ty40 2 rfl rfl rfl rfl (fun _ => rfl) rfl) ?_
          refine D_val rfl rfl rfl (R_move rfl) ?_
          refine D_val rfl rfl rfl (R_indexN sl40 ty100 rfl rfl (by omega)) ?_
          refine D_val rfl rfl rfl (R_loadH ty100 rfl (hrc.mono hU2) rfl (fun e => by cases e) rfl) ?_
          refine D_val rfl rfl rfl (R_fieldAddr 2 fd42_2 rfl) ?_
          refine D_val rfl rfl rfl (R_loadO ty40 0 rfl rfl rfl rfl (fun _ => rfl) rfl) ?_
          refine D_val rfl rfl rfl (R_move rfl) ?_
          refine D_val rfl rfl rfl (R_sliceLo sl40 ty100 rfl rfl hat) ?_
          refine D_alloc rfl rfl rfl (A_buildSlice (vs := []) sl40 ty100 z100 rfl rfl (by simp) (by simp) rfl (by decide)) fun b63 => ?_
          have hcl3 : (cells.take (at_ * 3)).length = at_ * 3 := by rw [List.length_take, hcl]; omega
          refine D_append0 0 ap40 sl40 rfl rfl rfl rfl rfl ⟨⟨0, rfl⟩, ⟨1, rfl⟩, ⟨2, rfl⟩, trivial⟩ ((hS.mono hU2).hi hat hoc) hcl3 ((hC.take at_).oneCell fun _ _ h => h.one) ⟨by omega, by omega⟩ fun a68 k68 => ?_

          refine D_alloc rfl rfl rfl (A_buildSlice (vs := [.agg #[.int .i64 a.rules[i].sym, .slice xa a.rules[i].args.length xcp, .int .i64 a.rules[i].to]]) sl40 ty100 z100 rfl rfl (by simp [Value.cells]) (by simp) rfl (by decide)) fun b74 => ?_
          refine D_append1 0 ap40 rfl rfl rfl rfl rfl rfl ⟨⟨0, rfl⟩, ⟨1, rfl⟩, ⟨2, rfl⟩, trivial⟩ rfl rfl ⟨by omega, by omega⟩ fun a75 k75 hn75 => ?_
          have hcl4 : (cells.drop (at_ * 3)).length = ((sortR (a.rules.take i)).length - at_) * 3 := by rw [List.length_drop, hcl, Nat.sub_mul]
          refine D_appendS 0 ap40 sl40 rfl rfl rfl rfl rfl ⟨⟨0, rfl⟩, ⟨1, rfl⟩, ⟨2, rfl⟩, trivial⟩ ((hS.mono hU2).lo hcl hat hoc) hcl4 ((hC.drop at_).oneCell fun _ _ h => h.one) ⟨by omega, by omega⟩ fun a80 k80 => ?_

          refine D_val rfl rfl rfl (R_fieldAddr 2 fd42_2 rfl) ?_
          refine D_lastStore ty40 1 rfl rfl rfl rfl rfl rfl rfl rfl ?_
          refine KQ_front 0 rfl ?_
          refine KQ_pubrowC rfl fun Hp hp hrow hzc => ?_
          obtain ⟨za, zc, hze, hzc⟩ := hzc
          cases hze
          have hnl : ((sortR (a.rules.take i)).take at_ ++ a.rules[i] :: (sortR (a.rules.take i)).drop at_).length = at_ + 1 + ((sortR (a.rules.take i)).length - at_) := by simp only [List.length_append, List.length_cons, List.length_take, List.length_drop]; omega
          have hcat : (sortR (a.rules.take i)).take at_ ++ a.rules[i] :: (sortR (a.rules.take i)).drop at_ = ((sortR (a.rules.take i)).take at_ ++ [a.rules[i]]) ++ (sortR (a.rules.take i)).drop at_ := by simp
          refine Q_block ?_
          refine Q_then ?_
          refine K_region ?_
          refine KV (R_move rfl) rfl ?_
          refine KV (R_add rfl rfl (by omega)) rfl ?_
          refine KV (R_assign rfl) rfl ?_
          refine K_nil ?_
          refine Q_nextD (i + 1, Hp, a80, k80, (cells.take (at_ * 3) ++ [.int .i64 a.rules[i].sym, .slice xa a.rules[i].args.length xcp, .int .i64 a.rules[i].to]) ++ cells.drop (at_ * 3)) ⟨hi', hV.trans (hU2.trans hp), by rw [sortR_take hi', hins, hnl]; exact hrow.sl, by rw [sortR_take hi', hins, hcat]; exact (((hC.take at_).imp fun _ _ h => h.mono (hU2.trans hp)).snoc ((RepR.of_rule hsr hsym hto hxl).mono (hU2.trans hp)) rfl).append ((hC.drop at_).imp fun _ _ h => h.mono (hU2.trans hp)), by rw [sortR_take hi', hins, hnl]; exact hzc⟩ (by (try dsimp only); omega) ⟨rfl, trivial⟩ rfl (by dsimp only; rw [sortR_take hi', hins, hnl]; rfl) rfl
    ·
      intro h24
      have hate : at_ = (sortR (a.rules.take i)).length := by omega
      have hstop : ∀ h : at_ < (sortR (a.rules.take i)).length, ¬ cmpL (keyL (sortR (a.rules.take i))[at_]) (keyL a.rules[i]) < 0 := fun h => absurd h (by omega)
      have hVU := hU
      refine D_skip rfl rfl ?_
      refine D_skip rfl rfl ?_
      refine D_skip rfl rfl ?_
      refine D_skip rfl rfl ?_
      refine D_skip rfl rfl ?_
      refine D_skip rfl rfl ?_
      refine D_skip rfl rfl ?_
      refine D_skip rfl rfl ?_
      refine D_skip rfl rfl ?_
      refine D_skip rfl rfl ?_
      refine D_skip rfl rfl ?_
      refine D_skip rfl rfl ?_
      refine D_skip rfl rfl ?_
      refine D_skip rfl rfl ?_
      refine D_val rfl rfl rfl (R_pickF rfl rfl) ?_
      refine D_done ?_
      refine Q_then ?_
      refine K_ifF rfl ?_
      refine K_exit ?_
      refine Q_then_exit ?_
      refine Q_then_exit ?_
      refine Q_block_exit ?_
      refine Q_then ?_
      refine K_seq ?_
      refine K_seq ?_
      refine K_regionD (fin := false) (R := [0, 1, 2, 3, 4, 5, 6, 7, 8, 9, 10, 12, 13, 14, 15, 16, 11, 17, 18, 19, 20]) (by kernel_rfl) mixed (.cons_cons _ (.cons_cons _ (.cons_cons _ (List.nil_sublist _)))) ?_
      refine D_val rfl rfl rfl (R_move rfl) ?_
      refine D_val rfl rfl rfl (R_fieldAddr 2 fd42_2 rfl) ?_
      refine D_val rfl rfl rfl (R_loadO ty40 0 rfl rfl rfl rfl (fun _ => rfl) rfl) ?_
      refine D_val rfl rfl rfl (R_len sl40 rfl) ?_
      refine D_val rfl rfl rfl (R_cmp rfl rfl rfl) ?_
      refine D_val rfl rfl rfl (R_move rfl) ?_
      refine D_split ?_ ?_
      ·
        intro h47
        have hat4 : at_ < (sortR (a.rules.take i)).length := by omega
        obtain ⟨ob4, oo4, oa4, ocp4, hoe4, hoc4, hos4, hosy4, hoto4, hol4⟩ := rules_elem (hS.mono hVU) (RepR.imp3 hVU hC) hat4
        cases hoe4
        have haro4 := har _ (List.mem_of_mem_take (sortR_mem (List.getElem_mem hat4)))
        refine D_val rfl rfl rfl (R_fieldAddr 2 fd42_2 rfl) ?_
        refine D_val rfl rfl rfl (R_loadO ty40 0 rfl rfl rfl rfl (fun _ => rfl) rfl) ?_
        refine D_val rfl rfl rfl (R_move rfl) ?_
        refine D_val rfl rfl rfl (R_indexN sl40 ty100 rfl rfl (by omega)) ?_
        refine D_val rfl rfl rfl (R_loadH ty100 rfl (hoc4) rfl (fun e => by cases e) rfl) ?_
        refine D_val rfl rfl rfl (R_fieldAddr 2 fd42_2 rfl) ?_
        refine D_val rfl rfl rfl (R_loadO ty40 2 rfl rfl rfl rfl (fun _ => rfl) rfl) ?_
        refine D_val rfl rfl rfl (R_move rfl) ?_
        refine D_val rfl rfl rfl (R_indexN sl40 ty100 rfl rfl (by omega)) ?_
        refine D_val rfl rfl rfl (R_loadH ty100 rfl (hrc.mono hVU) rfl (fun e => by cases e) rfl) ?_
        refine D_call rfl rfl c69 rfl ⟨⟨0, rfl⟩, ⟨1, rfl⟩, ⟨2, rfl⟩, trivial⟩ (key_spec2 (sortR (a.rules.take i))[at_] _ _ hos4 hosy4 hoto4 hol4) ?_
        rintro kv3 U4a hU4a hk3
        obtain ⟨ka3, kc3x, rfl⟩ := hk3.shape
        refine D_call rfl rfl c69 rfl ⟨⟨0, rfl⟩, ⟨1, rfl⟩, ⟨2, rfl⟩, trivial⟩ (key_spec2 a.rules[i] _ U4a (hsr.mono (hVU.trans hU4a)) hsym hto hxl) ?_
        rintro kv4 U4b hU4b hk4
        obtain ⟨ka4, kc4x, rfl⟩ := hk4.shape
        refine D_call rfl rfl c60 rfl ⟨⟨0, rfl⟩, ⟨1, rfl⟩, ⟨2, rfl⟩, trivial⟩ (cmpl_spec (keyL (sortR (a.rules.take i))[at_]) (keyL a.rules[i]) _ _ U4b (hk3.mono hU4b) hk4 (by rw [keyL_len]; omega) (by rw [keyL_len]; omega)) ?_
        rintro _ U4c hU4c rfl
        have hUcy := hU4a.trans (hU4b.trans hU4c)
        refine D_val rfl rfl rfl (R_cmp rfl rfl rfl) ?_
        refine D_val rfl rfl rfl (R_pickT rfl rfl) ?_
        refine D_done ?_
        refine Q_then ?_
        refine K_if rfl (fun h62 => ?_) (fun h62 => ?_)
        ·
          have hU2 := hVU.trans hUcy
          have hins : insR a.rules[i] (sortR (a.rules.take i)) = (sortR (a.rules.take i)) := by rw [insR_at hat hlt hstop, if_pos ⟨hat4, h62⟩]
          refine K_exit ?_
          refine Q_then_exit ?_
          refine Q_block_exit ?_
          refine Q_then ?_
          refine K_region ?_
          refine KV (R_move rfl) rfl ?_
          refine KV (R_add rfl rfl (by omega)) rfl ?_
          refine KV (R_assign rfl) rfl ?_
          refine K_nil ?_
          refine Q_nextD (i + 1, _, _, oc, cells) ⟨hi', hV.trans hU2, by rw [sortR_take hi', hins]; exact hS.mono hU2, by rw [sortR_take hi', hins]; exact hC.imp fun _ _ h => h.mono hU2, by rw [sortR_take hi', hins]; exact hoc⟩ (by (try dsimp only); omega) ⟨rfl, trivial⟩ rfl (by dsimp only; rw [sortR_take hi', hins]) rfl
        ·
          have hU2 := hVU.trans hUcy
          have hins : insR a.rules[i] (sortR (a.rules.take i)) = (sortR (a.rules.take i)).take at_ ++ a.rules[i] :: (sortR (a.rules.take i)).drop at_ := by rw [insR_at hat hlt hstop, if_neg (by rintro ⟨_, h⟩; exact h62 h)]
          refine K_skip ?_
          refine Q_then ?_
          refine K_regionD (fin := true) (R := [1, 2, 3, 4, 6, 7, 8, 9, 10, 13, 14, 15, 16, 0, 5, 11, 12, 17, 18, 19]) (by kernel_rfl) mixed (.cons_cons _ (.cons_cons _ (.cons_cons _ (List.nil_sublist _)))) ?_
          refine D_val rfl rfl rfl (R_fieldAddr 2 fd42_2 rfl) ?_
          refine D_val rfl rfl rfl (R_loadO ty40 0 rfl rfl rfl rfl (fun _ => rfl) rfl) ?_
          refine D_val rfl rfl rfl (R_move rfl) ?_
          refine D_val rfl rfl rfl (R_sliceHi sl40 ty100 rfl rfl (Nat.le_trans hat hoc)) ?_
          refine D_val rfl rfl rfl (R_fieldAddr 2 fd42_2 rfl) ?_
          refine D_val rfl rfl rfl (R_loadO ty40 2 rfl rfl rfl rfl (fun _ => rfl) rfl) ?_
          refine D_val rfl rfl rfl (R_move rfl) ?_
          refine D_val rfl rfl rfl (R_indexN sl40 ty100 rfl rfl (by omega)) ?_
          refine D_val rfl rfl rfl (R_loadH ty100 rfl (hrc.mono hU2) rfl (fun e => by cases e) rfl) ?_
          refine D_val rfl rfl rfl (R_fieldAddr 2 fd42_2 rfl) ?_
          refine D_val rfl rfl rfl (R_loadO ty40 0 rfl rfl rfl rfl (fun _ => rfl) rfl) ?_
          refine D_val rfl rfl rfl (R_move rfl) ?_
          refine D_val rfl rfl rfl (R_sliceLo sl40 ty100 rfl rfl hat) ?_
          refine D_alloc rfl rfl rfl (A_buildSlice (vs := []) sl40 ty100 z100 rfl rfl (by simp) (by simp) rfl (by decide)) fun b63 => ?_
          have hcl3 : (cells.take (at_ * 3)).length = at_ * 3 := by rw [List.length_take, hcl]; omega
          refine D_append0 0 ap40 sl40 rfl rfl rfl rfl rfl ⟨⟨0, rfl⟩, ⟨1, rfl⟩, ⟨2, rfl⟩, trivial⟩ ((hS.mono hU2).hi hat hoc) hcl3 ((hC.take at_).oneCell fun _ _ h => h.one) ⟨by omega, by omega⟩ fun a68 k68 => ?_

          refine D_alloc rfl rfl rfl (A_buildSlice (vs := [.agg #[.int .i64 a.rules[i].sym, .slice xa a.rules[i].args.length xcp, .int .i64 a.rules[i].to]]) sl40 ty100 z100 rfl rfl (by simp [Value.cells]) (by simp) rfl (by decide)) fun b74 => ?_
          refine D_append1 0 ap40 rfl rfl rfl rfl rfl rfl ⟨⟨0, rfl⟩, ⟨1, rfl⟩, ⟨2, rfl⟩, trivial⟩ rfl rfl ⟨by omega, by omega⟩ fun a75 k75 hn75 => ?_
          have hcl4 : (cells.drop (at_ * 3)).length = ((sortR (a.rules.take i)).length - at_) * 3 := by rw [List.length_drop, hcl, Nat.sub_mul]
          refine D_appendS 0 ap40 sl40 rfl rfl rfl rfl rfl ⟨⟨0, rfl⟩, ⟨1, rfl⟩, ⟨2, rfl⟩, trivial⟩ ((hS.mono hU2).lo hcl hat hoc) hcl4 ((hC.drop at_).oneCell fun _ _ h => h.one) ⟨by omega, by omega⟩ fun a80 k80 => ?_

          refine D_val rfl rfl rfl (R_fieldAddr 2 fd42_2 rfl) ?_
          refine D_lastStore ty40 1 rfl rfl rfl rfl rfl rfl rfl rfl ?_
          refine KQ_front 0 rfl ?_
          refine KQ_pubrowC rfl fun Hp hp hrow hzc => ?_
          obtain ⟨za, zc, hze, hzc⟩ := hzc
          cases hze
          have hnl : ((sortR (a.rules.take i)).take at_ ++ a.rules[i] :: (sortR (a.rules.take i)).drop at_).length = at_ + 1 + ((sortR (a.rules.take i)).length - at_) := by simp only [List.length_append, List.length_cons, List.length_take, List.length_drop]; omega
          have hcat : (sortR (a.rules.take i)).take at_ ++ a.rules[i] :: (sortR (a.rules.take i)).drop at_ = ((sortR (a.rules.take i)).take at_ ++ [a.rules[i]]) ++ (sortR (a.rules.take i)).drop at_ := by simp
          refine Q_block ?_
          refine Q_then ?_
          refine K_region ?_
          refine KV (R_move rfl) rfl ?_
          refine KV (R_add rfl rfl (by omega)) rfl ?_
          refine KV (R_assign rfl) rfl ?_
          refine K_nil ?_
          refine Q_nextD (i + 1, Hp, a80, k80, (cells.take (at_ * 3) ++ [.int .i64 a.rules[i].sym, .slice xa a.rules[i].args.length xcp, .int .i64 a.rules[i].to]) ++ cells.drop (at_ * 3)) ⟨hi', hV.trans (hU2.trans hp), by rw [sortR_take hi', hins, hnl]; exact hrow.sl, by rw [sortR_take hi', hins, hcat]; exact (((hC.take at_).imp fun _ _ h => h.mono (hU2.trans hp)).snoc ((RepR.of_rule hsr hsym hto hxl).mono (hU2.trans hp)) rfl).append ((hC.drop at_).imp fun _ _ h => h.mono (hU2.trans hp)), by rw [sortR_take hi', hins, hnl]; exact hzc⟩ (by (try dsimp only); omega) ⟨rfl, trivial⟩ rfl (by dsimp only; rw [sortR_take hi', hins, hnl]; rfl) rfl
      ·
        intro h47
        have hU2 := hVU
        have hins : insR a.rules[i] (sortR (a.rules.take i)) = (sortR (a.rules.take i)).take at_ ++ a.rules[i] :: (sortR (a.rules.take i)).drop at_ := by rw [insR_at hat hlt hstop, if_neg (by rintro ⟨h, _⟩; omega)]
        refine D_skip rfl rfl ?_
        refine D_skip rfl rfl ?_
        refine D_skip rfl rfl ?_
        refine D_skip rfl rfl ?_
        refine D_skip rfl rfl ?_
        refine D_skip rfl rfl ?_
        refine D_skip rfl rfl ?_
        refine D_skip rfl rfl ?_
        refine D_skip rfl rfl ?_
        refine D_skip rfl rfl ?_
        refine D_skip rfl rfl ?_
        refine D_skip rfl rfl ?_
        refine D_skip rfl rfl ?_
        refine D_skip rfl rfl ?_
        refine D_val rfl rfl rfl (R_pickF rfl rfl) ?_
        refine D_done ?_
        refine Q_then ?_
        refine K_ifF rfl ?_
        refine K_skip ?_
        refine Q_then ?_
        refine K_regionD (fin := true) (R := [1, 2, 3, 4, 6, 7, 8, 9, 10, 13, 14, 15, 16, 0, 5, 11, 12, 17, 18, 19]) (by kernel_rfl) mixed (.cons_cons _ (.cons_cons _ (.cons_cons _ (List.nil_sublist _)))) ?_
        refine D_val rfl rfl rfl (R_fieldAddr 2 fd42_2 rfl) ?_
        refine D_val rfl rfl rfl (R_loadO ty40 0 rfl rfl rfl rfl (fun _ => rfl) rfl) ?_
        refine D_val rfl rfl rfl (R_move rfl) ?_
        refine D_val rfl rfl rfl (R_sliceHi sl40 ty100 rfl rfl (Nat.le_trans hat hoc)) ?_
        refine D_val rfl rfl rfl (R_fieldAddr 2 fd42_2 rfl) ?_
        refine D_val rfl rfl rfl (R_loadO ty40 2 rfl rfl rfl rfl (fun _ => rfl) rfl) ?_
        refine D_val rfl rfl rfl (R_move rfl) ?_
        refine D_val rfl rfl rfl (R_indexN sl40 ty100 rfl rfl (by omega)) ?_
        refine D_val rfl rfl rfl (R_loadH ty100 rfl (hrc.mono hU2) rfl (fun e => by cases e) rfl) ?_
        refine D_val rfl rfl rfl (R_fieldAddr 2 fd42_2 rfl) ?_
        refine D_val rfl rfl rfl (R_loadO ty40 0 rfl rfl rfl rfl (fun _ => rfl) rfl) ?_
        refine D_val rfl rfl rfl (R_move rfl) ?_
        refine D_val rfl rfl rfl (R_sliceLo sl40 ty100 rfl rfl hat) ?_
        refine D_alloc rfl rfl rfl (A_buildSlice (vs := []) sl40 ty100 z100 rfl rfl (by simp) (by simp) rfl (by decide)) fun b63 => ?_
        have hcl3 : (cells.take (at_ * 3)).length = at_ * 3 := by rw [List.length_take, hcl]; omega
        refine D_append0 0 ap40 sl40 rfl rfl rfl rfl rfl ⟨⟨0, rfl⟩, ⟨1, rfl⟩, ⟨2, rfl⟩, trivial⟩ ((hS.mono hU2).hi hat hoc) hcl3 ((hC.take at_).oneCell fun _ _ h => h.one) ⟨by omega, by omega⟩ fun a68 k68 => ?_

        refine D_alloc rfl rfl rfl (A_buildSlice (vs := [.agg #[.int .i64 a.rules[i].sym, .slice xa a.rules[i].args.length xcp, .int .i64 a.rules[i].to]]) sl40 ty100 z100 rfl rfl (by simp [Value.cells]) (by simp) rfl (by decide)) fun b74 => ?_
        refine D_append1 0 ap40 rfl rfl rfl rfl rfl rfl ⟨⟨0, rfl⟩, ⟨1, rfl⟩, ⟨2, rfl⟩, trivial⟩ rfl rfl ⟨by omega, by omega⟩ fun a75 k75 hn75 => ?_
        have hcl4 : (cells.drop (at_ * 3)).length = ((sortR (a.rules.take i)).length - at_) * 3 := by rw [List.length_drop, hcl, Nat.sub_mul]
        refine D_appendS 0 ap40 sl40 rfl rfl rfl rfl rfl ⟨⟨0, rfl⟩, ⟨1, rfl⟩, ⟨2, rfl⟩, trivial⟩ ((hS.mono hU2).lo hcl hat hoc) hcl4 ((hC.drop at_).oneCell fun _ _ h => h.one) ⟨by omega, by omega⟩ fun a80 k80 => ?_

        refine D_val rfl rfl rfl (R_fieldAddr 2 fd42_2 rfl) ?_
        refine D_lastStore ty40 1 rfl rfl rfl rfl rfl rfl rfl rfl ?_
        refine KQ_front 0 rfl ?_
        refine KQ_pubrowC rfl fun Hp hp hrow hzc => ?_
        obtain ⟨za, zc, hze, hzc⟩ := hzc
        cases hze
        have hnl : ((sortR (a.rules.take i)).take at_ ++ a.rules[i] :: (sortR (a.rules.take i)).drop at_).length = at_ + 1 + ((sortR (a.rules.take i)).length - at_) := by simp only [List.length_append, List.length_cons, List.length_take, List.length_drop]; omega
        have hcat : (sortR (a.rules.take i)).take at_ ++ a.rules[i] :: (sortR (a.rules.take i)).drop at_ = ((sortR (a.rules.take i)).take at_ ++ [a.rules[i]]) ++ (sortR (a.rules.take i)).drop at_ := by simp
        refine Q_block ?_
        refine Q_then ?_
        refine K_region ?_
        refine KV (R_move rfl) rfl ?_
        refine KV (R_add rfl rfl (by omega)) rfl ?_
        refine KV (R_assign rfl) rfl ?_
        refine K_nil ?_
        refine Q_nextD (i + 1, Hp, a80, k80, (cells.take (at_ * 3) ++ [.int .i64 a.rules[i].sym, .slice xa a.rules[i].args.length xcp, .int .i64 a.rules[i].to]) ++ cells.drop (at_ * 3)) ⟨hi', hV.trans (hU2.trans hp), by rw [sortR_take hi', hins, hnl]; exact hrow.sl, by rw [sortR_take hi', hins, hcat]; exact (((hC.take at_).imp fun _ _ h => h.mono (hU2.trans hp)).snoc ((RepR.of_rule hsr hsym hto hxl).mono (hU2.trans hp)) rfl).append ((hC.drop at_).imp fun _ _ h => h.mono (hU2.trans hp)), by rw [sortR_take hi', hins, hnl]; exact hzc⟩ (by (try dsimp only); omega) ⟨rfl, trivial⟩ rfl (by dsimp only; rw [sortR_take hi', hins, hnl]; rfl) rfl
  ·
    have hi' : i = a.rules.length := by omega
    subst hi'
    have ht0 : a.rules.take a.rules.length = a.rules := List.take_length
    rw [ht0] at hS hC hoc hln hcl ⊢
    obtain ⟨V0, hV0e⟩ : ∃ V0, V0 = V := ⟨_, rfl⟩
    subst hV0e
    have hV0 := hV
    refine K_exit ?_
    refine Q_then_exit ?_
    refine Q_then_exit ?_
    refine Q_block_exit ?_
    refine Q_then ?_
    refine K_seq ?_
    refine K_seq ?_
    refine K_region ?_
    refine KV (R_assign rfl) rfl ?_
    refine K_nil ?_
    refine Q_then ?_
    refine K_block ?_
    refine K_nilrow T3 1 ?_
    refine K_loopD (G := Nat × View × Value) [6, 82, 83, 84, 85, 86, 87, 88, 89, 90, 91, 92, 93, 94, 95, 96, 97] (fun g => [(6, .int .i64 (g.1 : Int))]) (fun hl g => ((hl.set 0 (row g.2.2 T3 1 (subL g.1 fun z => decide ((z : Int) ∈ a.final)).length (ints (subL g.1 fun z => decide ((z : Int) ∈ a.final))))).set 1 (blk b3 (.cells #[.slice ra a.ranks.length rcp, .int .i64 a.states, .slice oa (sortR a.rules).length oc, g.2.2] T42 (0, 0))))) (fun g => g.2.1) (fun g => (g.1 ≤ a.states.toNat) ∧ (VLe V0 g.2.1) ∧ (∃ ad cp, g.2.2 = .slice ad (subL g.1 fun z => decide ((z : Int) ∈ a.final)).length cp)) (fun g => a.states.toNat - g.1) (0, V0, nilS) ⟨Nat.zero_le _, VLe.refl _, none, 0, rfl⟩ ⟨rfl, trivial⟩ (by simp only [args0, Nat.reduceAdd, del, memN, beqN, Nat.reduceBEq, cond_true, cond_false]; rfl) rfl rfl ?_
    rintro ⟨s, V, w⟩ ⟨hs, hV2, hw⟩
    dsimp only at hs hV2 hw
    dsimp only [List.set, List.cons_append, List.nil_append]
    obtain ⟨wa, wcp, rfl⟩ := hw
    have hnl := subL_len s fun z => decide ((z : Int) ∈ a.final)
    refine K_seq ?_
    refine K_seq ?_
    refine K_region ?_
    refine KV (R_move rfl) rfl ?_
    refine KV (R_fieldAddr 1 fd42_1 rfl) rfl ?_
    refine KV (R_loadO ty3 3 rfl rfl rfl rfl (fun _ => rfl) rfl) rfl ?_
    refine KV (R_cmp rfl rfl rfl) rfl ?_
    refine K_nil ?_
    refine Q_then ?_
    refine K_if rfl (fun h85 => ?_) (fun h85 => ?_)
    ·
      have hs' : s < a.states.toNat := by omega
      refine K_skip ?_
      refine Q_then ?_
      refine K_seq ?_
      refine K_block ?_
      refine K_seq ?_
      refine K_region ?_
      refine KV (R_fieldAddr 3 fd42_3 rfl) rfl ?_
      refine KV (R_loadO ty25 3 rfl rfl rfl rfl (fun _ => rfl) rfl) rfl ?_
      refine KV (R_move rfl) rfl ?_
      refine K_call c62 rfl rfl (rhas_spec (s : Int) a.final _ V ((ha.mono (hV0.trans hV2)).f) hfl) ?_
      rintro _ U hU rfl
      refine K_nil ?_
      refine Q_then ?_
      refine K_if rfl (fun h91 => ?_) (fun h91 => ?_)
      ·
        refine K_region ?_
        refine KV (R_fieldAddr 3 fd42_3 rfl) rfl ?_
        refine KV (R_loadO ty25 1 rfl rfl rfl rfl (fun _ => rfl) rfl) rfl ?_
        refine KV (R_move rfl) rfl ?_
        refine KA (A_buildSlice (vs := [.int .i64 (s : Int)]) sl25 ty3 z3 rfl rfl (by simp [Value.cells]) (by simp) rfl (by decide)) rfl fun b95 => ?_
        refine K_append1 0 ap25 rfl rfl rfl rfl rfl rfl ⟨by omega, by omega⟩ rfl fun a96 k96 hn96 => ?_
        refine KV (R_fieldAddr 3 fd42_3 rfl) rfl ?_
        refine K_store ty25 1 rfl rfl rfl rfl rfl rfl ?_
        refine K_nil ?_
        refine Q_block ?_
        refine Q_then ?_
        refine K_region ?_
        refine KV (R_move rfl) rfl ?_
        refine KV (R_add rfl rfl (by omega)) rfl ?_
        refine KV (R_assign rfl) rfl ?_
        refine K_nil ?_
        refine Q_nextD (s + 1, U, .slice a96 ((subL s fun z => decide ((z : Int) ∈ a.final)).length + 1) k96) ⟨hs', hV2.trans hU, _, _, by rw [subL_yes (p := fun (z : Nat) => decide ((z : Int) ∈ a.final)) (decide_eq_true h91), List.length_append]; rfl⟩ (by (try dsimp only); omega) ⟨rfl, trivial⟩ rfl (by dsimp only; rw [subL_yes (p := fun (z : Nat) => decide ((z : Int) ∈ a.final)) (decide_eq_true h91), List.length_append, ints_snoc]; rfl) rfl
      ·
        refine K_skip ?_
        refine Q_block ?_
        refine Q_then ?_
        refine K_region ?_
        refine KV (R_move rfl) rfl ?_
        refine KV (R_add rfl rfl (by omega)) rfl ?_
        refine KV (R_assign rfl) rfl ?_
        refine K_nil ?_
        refine Q_nextD (s + 1, U, .slice wa (subL s fun z => decide ((z : Int) ∈ a.final)).length wcp) ⟨hs', hV2.trans hU, _, _, by rw [subL_no (p := fun (z : Nat) => decide ((z : Int) ∈ a.final)) (decide_eq_false h91)]⟩ (by (try dsimp only); omega) ⟨rfl, trivial⟩ rfl (by dsimp only; rw [subL_no (p := fun (z : Nat) => decide ((z : Int) ∈ a.final)) (decide_eq_false h91)]) rfl
    ·
      have hs' : s = a.states.toNat := by omega
      refine K_exit ?_
      refine Q_then_exit ?_
      refine Q_then_exit ?_
      refine Q_block_exit ?_
      refine Q_then ?_
      refine K_seq ?_
      refine K_region ?_
      refine KV (R_loadO ty42 1 rfl rfl rfl rfl (fun e => by cases e) rfl) rfl ?_
      refine K_store ty42 2 rfl rfl rfl rfl rfl rfl ?_
      refine K_nil ?_
      refine Q_then ?_
      refine K_ret ?_
      subst hs'
      refine KQ_pubrow rfl fun Hp hp hrow => ?_
      refine results_gen (rs := [.cell 2 25]) (vs := [_]) rfl ⟨⟨_, _, _, _, _, _, 1, rfl, rfl, ty42, (fun e => by cases e), rfl, rfl⟩, trivial⟩ ?_
      refine ⟨_, _, _, rfl, ha.r.mono (hV0.trans (hV2.trans hp)), ⟨cells, hS.mono (hV2.trans hp), hC.imp fun _ _ h => h.mono (hV2.trans hp)⟩, ⟨hrow.sl, ?_⟩, ha.s, hrl, Nat.le_trans (sortR_len _) hul, Nat.le_trans (subL_len _ _) (by omega)⟩
      intro x hx
      obtain ⟨y, hy, rfl⟩ := List.mem_map.1 hx
      have := List.mem_range.1 (List.mem_filter.1 hy).1
      simp only [i64ok]; omega
end Go.Proofs.X

namespace Go.Proofs.X
open Go Pal Go.Proofs
attribute [local irreducible] Pal.KO Pal.KC Pal.KQ Pal.KD
theorem c67 : callable Tryz.prog F67 = true := by kernel_rfl
theorem c68 : callable Tryz.prog F68 = true := by kernel_rfl
theorem rsame_au_spec (a b : Au) (v1 v2 v3 w1 w2 w3 : Value) (H : View) (ha : RepAu H a v1 v2 v3) (hb : RepAu H b w1 w2 w3) (hsa : a.rules.length ≤ 1048576) (hta : a.states ≤ 1048576) (hra : ∀ r ∈ a.rules, r.args.length ≤ 1048576) (hsb : b.rules.length ≤ 1048576) (htb : b.states ≤ 1048576) (hrb : ∀ r ∈ b.rules, r.args.length ≤ 1048576) (hal : a.ranks.length ≤ 1048576) (hbl : b.ranks.length ≤ 1048576) :
    Sat Tryz.prog F30 #[.agg #[v1, .int .i64 a.states, v2, v3], .agg #[w1, .int .i64 b.states, w2, w3]] H (fun r _ => r = .bool (sameM a b)) := by
  have hafl := ha.fl
  have hbfl := hb.fl
  obtain ⟨ara, arcp, rfl⟩ := ha.r.shape
  obtain ⟨afa, afcp, rfl⟩ := ha.f.shape
  obtain ⟨aua, aucp, rfl⟩ := ha.ushape
  obtain ⟨bra, brcp, rfl⟩ := hb.r.shape
  obtain ⟨bfa, bfcp, rfl⟩ := hb.f.shape
  obtain ⟨bua, bucp, rfl⟩ := hb.ushape
  have hal2 := sortR_len a.rules
  have hbl2 := sortR_len b.rules
  have hal3 : (sortedM a).rules.length ≤ 1048576 := Nat.le_trans hal2 hsa
  have hbl3 : (sortedM b).rules.length ≤ 1048576 := Nat.le_trans hbl2 hsb
  have hne : ∀ {x : Bool}, (sameM a b = true → False) → x = false → x = sameM a b := fun h hx => by rw [hx]; exact (Bool.eq_false_iff.2 h).symm
  refine enterO (n := 69) (args := [.agg #[.slice ara a.ranks.length arcp, .int .i64 a.states, .slice aua a.rules.length aucp, .slice afa a.final.length afcp], .agg #[.slice bra b.ranks.length brcp, .int .i64 b.states, .slice bua b.rules.length bucp, .slice bfa b.final.length bfcp]]) Tryz.func49 rfl rfl rfl fun w0 => ?_
  refine K_seq ?_
  refine K_region ?_
  refine KA (A_box rfl) rfl fun b2 => ?_
  refine KA (A_box rfl) rfl fun b3 => ?_
  refine KV (R_assign rfl) rfl ?_
  refine K_nil ?_
  refine Q_then ?_
  refine K_seq ?_
  refine K_seq ?_
  refine K_region ?_
  refine KV (R_fieldAddr 1 fd42_1 rfl) rfl ?_
  refine KV (R_loadO ty3 1 rfl rfl rfl rfl (fun _ => rfl) rfl) rfl ?_
  refine KV (R_fieldAddr 1 fd42_1 rfl) rfl ?_
  refine KV (R_loadO ty3 0 rfl rfl rfl rfl (fun _ => rfl) rfl) rfl ?_
  refine KV (R_cmp rfl rfl rfl) rfl ?_
  refine KV (R_move rfl) rfl ?_
  refine K_split ?_ ?_
  ·
    intro h13
    refine K_gno rfl rfl rfl rfl ?_
    refine K_gno rfl rfl rfl rfl ?_
    refine K_gno rfl rfl rfl rfl ?_
    refine K_gno rfl rfl rfl rfl ?_
    refine K_gno rfl rfl rfl rfl ?_
    refine K_gno rfl rfl rfl rfl ?_
    refine KV (R_pickT rfl rfl) rfl ?_
    refine K_nil ?_
    refine Q_then ?_
    refine K_ifT rfl ?_
    refine K_seq ?_
    refine K_region ?_
    refine KV (R_assign rfl) rfl ?_
    refine K_nil ?_
    refine Q_then ?_
    refine K_ret ?_
    refine Q_then_ret ?_
    refine results_gen (rs := [.tmp 4]) (vs := [_]) rfl ⟨rfl, trivial⟩ ?_
    refine congrArg Value.bool (hne (fun h => ?_) rfl)
    simp only [sameM, decide_eq_true_eq] at h
    obtain ⟨g1, g2, g3, g4, g5⟩ := h
    exact absurd g1 h13
  ·
    intro h13
    refine K_gyes rfl rfl ?_
    refine KV (R_fieldAddr 0 fd42_0 rfl) rfl ?_
    refine K_gyes rfl rfl ?_
    refine KV (R_loadO ty25 1 rfl rfl rfl rfl (fun _ => rfl) rfl) rfl ?_
    refine K_gyes rfl rfl ?_
    refine KV (R_fieldAddr 0 fd42_0 rfl) rfl ?_
    refine K_gyes rfl rfl ?_
    refine KV (R_loadO ty25 0 rfl rfl rfl rfl (fun _ => rfl) rfl) rfl ?_
    refine K_gyes rfl rfl ?_
    refine K_call c60 rfl rfl (cmpl_spec a.ranks b.ranks _ _ H ha.r hb.r (by omega) (by omega)) ?_
    rintro _ V1 hv1 rfl
    refine K_gyes rfl rfl ?_
    refine KV (R_cmp rfl rfl rfl) rfl ?_
    refine KV (R_pickF rfl rfl) rfl ?_
    refine K_nil ?_
    refine Q_then ?_
    refine K_if rfl (fun h20 => ?_) (fun h20 => ?_)
    ·
      refine K_seq ?_
      refine K_region ?_
      refine KV (R_assign rfl) rfl ?_
      refine K_nil ?_
      refine Q_then ?_
      refine K_ret ?_
      refine Q_then_ret ?_
      refine results_gen (rs := [.tmp 4]) (vs := [_]) rfl ⟨rfl, trivial⟩ ?_
      refine congrArg Value.bool (hne (fun h => ?_) rfl)
      simp only [sameM, decide_eq_true_eq] at h
      obtain ⟨g1, g2, g3, g4, g5⟩ := h
      exact h20 (cmpL_eq.2 g2)
    ·
      have hst : a.states = b.states := Decidable.not_not.1 h13
      have hrr : a.ranks = b.ranks := cmpL_eq.1 (Decidable.not_not.1 h20)
      refine K_skip ?_
      refine Q_then ?_
      refine K_seq ?_
      refine K_regionD (fin := true) (R := [0, 2, 1, 3, 4, 5, 6, 7]) (by kernel_rfl) mixed (.cons_cons _ (.cons_cons _ (List.nil_sublist _))) ?_
      refine D_val rfl rfl rfl (R_loadO ty42 1 rfl rfl rfl rfl (fun e => by cases e) rfl) ?_
      refine D_val rfl rfl rfl (R_loadO ty42 0 rfl rfl rfl rfl (fun e => by cases e) rfl) ?_
      refine D_call rfl rfl c67 rfl ⟨⟨0, rfl⟩, ⟨1, rfl⟩, trivial⟩ (rsorted_spec a _ _ _ V1 (ha.mono hv1) hsa hta hra) ?_
      rintro _ V2 hv2 ⟨p1, p2, p3, rfl, hpa⟩
      obtain ⟨pra, prcp, rfl⟩ := hpa.r.shape
      obtain ⟨pfa, pfcp, rfl⟩ := hpa.f.shape
      obtain ⟨pua, pucp, rfl⟩ := hpa.ushape
      refine D_call rfl rfl c67 rfl ⟨⟨0, rfl⟩, ⟨1, rfl⟩, trivial⟩ (rsorted_spec b _ _ _ V2 (hb.mono (hv1.trans hv2)) hsb htb hrb) ?_
      rintro _ V3 hv3 ⟨q1, q2, q3, rfl, hqa⟩
      obtain ⟨qra, qrcp, rfl⟩ := hqa.r.shape
      obtain ⟨qfa, qfcp, rfl⟩ := hqa.f.shape
      obtain ⟨qua, qucp, rfl⟩ := hqa.ushape
      have ha3 := ha.mono (hv1.trans (hv2.trans hv3))
      have hb3 := hb.mono (hv1.trans (hv2.trans hv3))
      have hpa3 := hpa.mono hv3
      have hpl : (sortedM a).rules = sortR a.rules := rfl
      have hql : (sortedM b).rules = sortR b.rules := rfl
      refine D_alloc rfl rfl rfl (A_alloc z42) fun b5 => ?_
      refine D_alloc rfl rfl rfl (A_alloc z42) fun b6 => ?_
      refine D_store ty42 1 rfl rfl rfl rfl rfl ⟨⟨1, rfl⟩, ⟨2, rfl⟩, trivial⟩ rfl rfl rfl ?_
      refine D_lastStore ty42 1 rfl rfl rfl rfl rfl rfl rfl rfl ?_
      refine Q_then ?_
      refine K_seq ?_
      refine K_seq ?_
      refine K_region ?_
      refine KV (R_fieldAddr 2 fd42_2 rfl) rfl ?_
      refine KV (R_loadO ty40 0 rfl rfl rfl rfl (fun _ => rfl) rfl) rfl ?_
      refine KV (R_len sl40 rfl) rfl ?_
      refine KV (R_fieldAddr 2 fd42_2 rfl) rfl ?_
      refine KV (R_loadO ty40 1 rfl rfl rfl rfl (fun _ => rfl) rfl) rfl ?_
      refine KV (R_len sl40 rfl) rfl ?_
      refine KV (R_cmp rfl rfl rfl) rfl ?_
      refine KV (R_move rfl) rfl ?_
      refine K_split ?_ ?_
      ·
        intro h32
        refine K_gno rfl rfl rfl rfl ?_
        refine K_gno rfl rfl rfl rfl ?_
        refine K_gno rfl rfl rfl rfl ?_
        refine K_gno rfl rfl rfl rfl ?_
        refine K_gno rfl rfl rfl rfl ?_
        refine K_gno rfl rfl rfl rfl ?_
        refine KV (R_pickT rfl rfl) rfl ?_
        refine KV (R_move rfl) rfl ?_
        refine K_gno rfl rfl rfl rfl ?_
        refine K_gno rfl rfl rfl rfl ?_
        refine K_gno rfl rfl rfl rfl ?_
        refine K_gno rfl rfl rfl rfl ?_
        refine K_gno rfl rfl rfl rfl ?_
        refine K_gno rfl rfl rfl rfl ?_
        refine KV (R_pickT rfl rfl) rfl ?_
        refine K_nil ?_
        refine Q_then ?_
        refine K_ifT rfl ?_
        refine K_seq ?_
        refine K_region ?_
        refine KV (R_assign rfl) rfl ?_
        refine K_nil ?_
        refine Q_then ?_
        refine K_ret ?_
        refine Q_then_ret ?_
        refine results_gen (rs := [.tmp 4]) (vs := [_]) rfl ⟨rfl, trivial⟩ ?_
        refine congrArg Value.bool (hne (fun h => ?_) rfl)
        simp only [sameM, decide_eq_true_eq] at h
        obtain ⟨g1, g2, g3, g4, g5⟩ := h
        have := congrArg List.length g3; simp only [List.length_map] at this; rw [hpl, hql, this] at h32; exact absurd rfl h32
      ·
        intro h32
        refine K_gyes rfl rfl ?_
        refine KV (R_fieldAddr 3 fd42_3 rfl) rfl ?_
        refine K_gyes rfl rfl ?_
        refine KV (R_loadO ty25 3 rfl rfl rfl rfl (fun _ => rfl) rfl) rfl ?_
        refine K_gyes rfl rfl ?_
        refine KV (R_fieldAddr 3 fd42_3 rfl) rfl ?_
        refine K_gyes rfl rfl ?_
        refine KV (R_loadO ty25 2 rfl rfl rfl rfl (fun _ => rfl) rfl) rfl ?_
        refine K_gyes rfl rfl ?_
        refine K_call c68 rfl rfl (within_spec a.final b.final _ _ V3 ha3.f hb3.f hafl hbfl) ?_
        rintro _ V4 hv4 rfl
        refine K_gyes rfl rfl ?_
        refine KV (R_notP rfl) rfl ?_
        refine KV (R_pickF rfl rfl) rfl ?_
        refine KV (R_move rfl) rfl ?_
        refine K_split ?_ ?_
        ·
          intro h40
          refine K_gno rfl rfl rfl rfl ?_
          refine K_gno rfl rfl rfl rfl ?_
          refine K_gno rfl rfl rfl rfl ?_
          refine K_gno rfl rfl rfl rfl ?_
          refine K_gno rfl rfl rfl rfl ?_
          refine K_gno rfl rfl rfl rfl ?_
          refine KV (R_pickT rfl rfl) rfl ?_
          refine K_nil ?_
          refine Q_then ?_
          refine K_ifT rfl ?_
          refine K_seq ?_
          refine K_region ?_
          refine KV (R_assign rfl) rfl ?_
          refine K_nil ?_
          refine Q_then ?_
          refine K_ret ?_
          refine Q_then_ret ?_
          refine results_gen (rs := [.tmp 4]) (vs := [_]) rfl ⟨rfl, trivial⟩ ?_
          refine congrArg Value.bool (hne (fun h => ?_) rfl)
          simp only [sameM, decide_eq_true_eq] at h
          obtain ⟨g1, g2, g3, g4, g5⟩ := h
          exact absurd g4 h40
        ·
          intro h40
          refine K_gyes rfl rfl ?_
          refine KV (R_fieldAddr 3 fd42_3 rfl) rfl ?_
          refine K_gyes rfl rfl ?_
          refine KV (R_loadO ty25 2 rfl rfl rfl rfl (fun _ => rfl) rfl) rfl ?_
          refine K_gyes rfl rfl ?_
          refine KV (R_fieldAddr 3 fd42_3 rfl) rfl ?_
          refine K_gyes rfl rfl ?_
          refine KV (R_loadO ty25 3 rfl rfl rfl rfl (fun _ => rfl) rfl) rfl ?_
          refine K_gyes rfl rfl ?_
          refine K_call c68 rfl rfl (within_spec b.final a.final _ _ V4 (hb3.mono hv4).f (ha3.mono hv4).f hbfl hafl) ?_
          rintro _ V5 hv5 rfl
          refine K_gyes rfl rfl ?_
          refine KV (R_notP rfl) rfl ?_
          refine KV (R_pickF rfl rfl) rfl ?_
          refine K_nil ?_
          refine Q_then ?_
          refine K_if rfl (fun h47 => ?_) (fun h47 => ?_)
          ·
            refine K_seq ?_
            refine K_region ?_
            refine KV (R_assign rfl) rfl ?_
            refine K_nil ?_
            refine Q_then ?_
            refine K_ret ?_
            refine Q_then_ret ?_
            refine results_gen (rs := [.tmp 4]) (vs := [_]) rfl ⟨rfl, trivial⟩ ?_
            refine congrArg Value.bool (hne (fun h => ?_) rfl)
            simp only [sameM, decide_eq_true_eq] at h
            obtain ⟨g1, g2, g3, g4, g5⟩ := h
            exact absurd g5 h47
          ·
            have hle1_ : (sortedM a).rules.length = (sortedM b).rules.length := by omega
            have hf1 : ∀ x ∈ a.final, x ∈ b.final := Decidable.not_not.1 h40
            have hf2 : ∀ x ∈ b.final, x ∈ a.final := Decidable.not_not.1 h47
            refine K_skip ?_
            refine Q_then ?_
            refine K_seq ?_
            refine K_seq ?_
            refine K_region ?_
            refine KV (R_assign rfl) rfl ?_
            refine K_nil ?_
            refine Q_then ?_
            refine K_block ?_
            refine K_loopD (G := Nat × View) [4, 7, 48, 49, 50, 51, 52, 53, 54, 55, 56, 57, 58, 59, 60, 61, 62, 63, 64, 65, 66, 67, 68] (fun g => [(7, .int .i64 (g.1 : Int))]) (fun hl g => hl) (fun g => g.2) (fun g => (g.1 ≤ (sortedM a).rules.length) ∧ (VLe V3 g.2) ∧ (∀ j (h : j < (sortedM a).rules.length) (h2 : j < (sortedM b).rules.length), j < g.1 → keyL (sortedM a).rules[j] = keyL (sortedM b).rules[j])) (fun g => (sortedM a).rules.length - g.1) (0, V5) ⟨Nat.zero_le _, hv4.trans hv5, fun j _ _ h => by simp at h⟩ ⟨rfl, trivial⟩ (by simp only [args0, Nat.reduceAdd, del, memN, beqN, Nat.reduceBEq, cond_true, cond_false]; rfl) rfl rfl ?_
            rintro ⟨k, V⟩ ⟨hk, hV, hyes⟩
            dsimp only at hk hV hyes
            dsimp only [List.set, List.cons_append, List.nil_append]
            refine K_seq ?_
            refine K_seq ?_
            refine K_region ?_
            refine KV (R_move rfl) rfl ?_
            refine KV (R_fieldAddr 2 fd42_2 rfl) rfl ?_
            refine KV (R_loadO ty40 0 rfl rfl rfl rfl (fun _ => rfl) rfl) rfl ?_
            refine KV (R_len sl40 rfl) rfl ?_
            refine KV (R_cmp rfl rfl rfl) rfl ?_
            refine K_nil ?_
            refine Q_then ?_
            refine K_if rfl (fun h52 => ?_) (fun h52 => ?_)
            ·
              have hk' : k < (sortedM a).rules.length := by omega
              have hk2 : k < (sortedM b).rules.length := by omega
              obtain ⟨ub, uo, ucp2, xa, xcp, hue, hc1_, hs1, hsy1, hto1, hl1⟩ := (hpa3.mono hV).rule hk'
              cases hue
              obtain ⟨ub2, uo2, ucp3, xa2, xcp2, hue2, hc2_, hs2, hsy2, hto2, hl2⟩ := (hqa.mono hV).rule hk2
              cases hue2
              have hm1 := hra _ (sortR_mem (show (sortedM a).rules[k] ∈ sortR a.rules from List.getElem_mem hk'))
              have hm2 := hrb _ (sortR_mem (show (sortedM b).rules[k] ∈ sortR b.rules from List.getElem_mem hk2))
              refine K_skip ?_
              refine Q_then ?_
              refine K_seq ?_
              refine K_block ?_
              refine K_seq ?_
              refine K_regionD (fin := false) (R := [0, 1, 2, 3, 4, 6, 7, 8, 9, 10, 5, 11, 12, 13]) (by kernel_rfl) mixed (.cons_cons _ (.cons_cons _ (.cons_cons _ (.cons_cons _ (List.nil_sublist _))))) ?_
              refine D_val rfl rfl rfl (R_fieldAddr 2 fd42_2 rfl) ?_
              refine D_val rfl rfl rfl (R_loadO ty40 0 rfl rfl rfl rfl (fun _ => rfl) rfl) ?_
              refine D_val rfl rfl rfl (R_move rfl) ?_
              refine D_val rfl rfl rfl (R_indexN sl40 ty100 rfl rfl (by omega)) ?_
              refine D_val rfl rfl rfl (R_loadH ty100 rfl (hc1_) rfl (fun e => by cases e) rfl) ?_
              refine D_val rfl rfl rfl (R_fieldAddr 2 fd42_2 rfl) ?_
              refine D_val rfl rfl rfl (R_loadO ty40 1 rfl rfl rfl rfl (fun _ => rfl) rfl) ?_
              refine D_val rfl rfl rfl (R_move rfl) ?_
              refine D_val rfl rfl rfl (R_indexN sl40 ty100 rfl rfl (by omega)) ?_
              refine D_val rfl rfl rfl (R_loadH ty100 rfl (hc2_) rfl (fun e => by cases e) rfl) ?_
              refine D_call rfl rfl c69 rfl ⟨⟨0, rfl⟩, ⟨1, rfl⟩, ⟨2, rfl⟩, ⟨3, rfl⟩, trivial⟩ (key_spec2 (sortedM a).rules[k] _ V hs1 hsy1 hto1 hl1) ?_
              rintro kv1 U1 hU1 hk1
              obtain ⟨ka1, kc1x, rfl⟩ := hk1.shape
              refine D_call rfl rfl c69 rfl ⟨⟨0, rfl⟩, ⟨1, rfl⟩, ⟨2, rfl⟩, ⟨3, rfl⟩, trivial⟩ (key_spec2 (sortedM b).rules[k] _ U1 (hs2.mono hU1) hsy2 hto2 hl2) ?_
              rintro kv2 U2 hU2 hky2
              obtain ⟨ka2, kc2x, rfl⟩ := hky2.shape
              refine D_call rfl rfl c60 rfl ⟨⟨0, rfl⟩, ⟨1, rfl⟩, ⟨2, rfl⟩, ⟨3, rfl⟩, trivial⟩ (cmpl_spec (keyL (sortedM a).rules[k]) (keyL (sortedM b).rules[k]) _ _ U2 (hk1.mono hU2) hky2 (by rw [keyL_len]; omega) (by rw [keyL_len]; omega)) ?_
              rintro _ U3 hU3 rfl
              refine D_val rfl rfl rfl (R_cmp rfl rfl rfl) ?_
              refine D_done ?_
              refine Q_then ?_
              refine K_if rfl (fun h68 => ?_) (fun h68 => ?_)
              ·
                refine K_seq ?_
                refine K_region ?_
                refine KV (R_assign rfl) rfl ?_
                refine K_nil ?_
                refine Q_then ?_
                refine K_ret ?_
                refine Q_block_ret ?_
                refine Q_then_ret ?_
                refine Q_then_ret ?_
                refine Q_block_ret ?_
                refine Q_then_ret ?_
                refine results_gen (rs := [.tmp 4]) (vs := [_]) rfl ⟨rfl, trivial⟩ ?_
                refine congrArg Value.bool (hne (fun h => ?_) rfl)
                simp only [sameM, decide_eq_true_eq] at h
                obtain ⟨g1, g2, g3, g4, g5⟩ := h
                have h9 : ((sortedM a).rules.map keyL)[k]'(by rw [List.length_map]; exact hk') = ((sortedM b).rules.map keyL)[k]'(by rw [List.length_map]; exact hk2) := by simp only [hpl, hql, g3]
                rw [List.getElem_map, List.getElem_map] at h9; exact h68 (cmpL_eq.2 h9)
              ·
                have hyes2 : ∀ j (h : j < (sortedM a).rules.length) (h2 : j < (sortedM b).rules.length), j < k + 1 → keyL (sortedM a).rules[j] = keyL (sortedM b).rules[j] := by
                  intro j h h2 hj
                  by_cases e : j = k
                  · subst e; exact cmpL_eq.1 (Decidable.not_not.1 h68)
                  · exact hyes j h h2 (by omega)
                refine K_skip ?_
                refine Q_block ?_
                refine Q_then ?_
                refine K_region ?_
                refine KV (R_move rfl) rfl ?_
                refine KV (R_add rfl rfl (by omega)) rfl ?_
                refine KV (R_assign rfl) rfl ?_
                refine K_nil ?_
                refine Q_nextD (k + 1, U3) ⟨hk', hV.trans (hU1.trans (hU2.trans hU3)), hyes2⟩ (by (try dsimp only); omega) ⟨rfl, trivial⟩ rfl rfl rfl
            ·
              have hk' : k = (sortedM a).rules.length := by omega
              refine K_exit ?_
              refine Q_then_exit ?_
              refine Q_then_exit ?_
              refine Q_block_exit ?_
              refine Q_then ?_
              refine K_seq ?_
              refine K_region ?_
              refine KV (R_assign rfl) rfl ?_
              refine K_nil ?_
              refine Q_then ?_
              refine K_ret ?_
              refine results_gen (rs := [.tmp 4]) (vs := [_]) rfl ⟨rfl, trivial⟩ ?_
              refine congrArg Value.bool (Eq.symm ?_)
              simp only [sameM, decide_eq_true_eq]
              refine ⟨hst, hrr, ?_, hf1, hf2⟩
              refine List.ext_getElem (by rw [List.length_map, List.length_map]; exact hle1_) fun j g1 g2 => ?_
              rw [List.getElem_map, List.getElem_map]
              rw [List.length_map] at g1 g2
              exact hyes j g1 g2 (by rw [hk']; exact g1)

end Go.Proofs.X

namespace Go.Proofs.X
open Go Pal Go.Proofs
attribute [local irreducible] Pal.KO Pal.KC Pal.KQ Pal.KD

theorem clone25o_spec (p : HL) (xs : List Int) (v : Value) (H : View) (hrd : Rd H p v xs.length (ints xs)) (hl : xs.length ≤ 1099511627776) : SatO Tryz.prog F65 #[v] H p (fun w _ q => q = row w T3 1 xs.length (ints xs) :: p) := by
  obtain ⟨a, cp, rfl, hsh⟩ := hrd.sh
  refine enterO (n := 8) (args := [.slice a xs.length cp]) Tryz.func79 rfl rfl rfl fun w0 => ?_
  refine K_seq ?_
  refine K_region ?_
  refine KV (R_assign rfl) rfl ?_
  refine K_nil ?_
  refine Q_then ?_
  refine K_seq ?_
  refine K_seq ?_
  refine K_region ?_
  refine KV (R_move rfl) rfl ?_
  refine KV (R_sliceNil sl25 rfl rfl) rfl ?_
  refine K_nil ?_
  refine Q_then ?_
  cases a with
  | none =>
    have hx0 : xs = [] := by
      rcases hsh with h3 | ⟨b, off, h3⟩
      · exact List.eq_nil_of_length_eq_zero h3
      · cases h3
    subst hx0
    refine K_ifT rfl ?_
    refine K_seq ?_
    refine K_region ?_
    refine KV (R_assign rfl) rfl ?_
    refine K_nil ?_
    refine Q_then ?_
    refine K_ret ?_
    refine Q_then_ret ?_
    refine KQ_nilrow T3 1 ?_
    refine results_gen (rs := [.tmp 2]) (vs := [_]) rfl ⟨rfl, trivial⟩ ?_
    rfl
  | some aa =>
    refine K_ifF rfl ?_
    refine K_skip ?_
    refine Q_then ?_
    refine K_seq ?_
    refine K_region ?_
    refine KA (A_buildSlice (vs := []) sl25 ty3 z3 rfl rfl (by simp) (by simp) rfl (by decide)) rfl fun b5 => ?_
    refine KV (R_move rfl) rfl ?_
    refine K_appendRd0 (p := p) (r := []) ap25 sl25 rfl rfl (by rw [List.append_nil]; exact List.Perm.refl _) hrd (by simp [ints]) (ints_one _) ⟨by omega, by omega⟩ rfl fun a7 k7 => ?_
    refine KV (R_assign rfl) rfl ?_
    refine K_nil ?_
    refine Q_then ?_
    refine K_ret ?_
    refine results_gen (rs := [.tmp 2]) (vs := [_]) rfl ⟨rfl, trivial⟩ ?_
    rw [List.append_nil]; rfl
end Go.Proofs.X

namespace Go.Proofs.X
open Go Pal Go.Proofs
attribute [local irreducible] Pal.KO Pal.KC Pal.KQ Pal.KD
theorem c2068 : callable Tryz.prog F2068 = true := by kernel_rfl
theorem c2071 : callable Tryz.prog F2071 = true := by kernel_rfl
theorem c2089 : callable Tryz.prog F2089 = true := by kernel_rfl
theorem isNaN_spec (x : Int) (H : View) : Sat Tryz.prog F2089 #[.int .i64 x] H (fun r _ => r = .bool false) := by
  refine enterO (n := 6) (args := [.int .i64 x]) Tryz.func125 rfl rfl rfl fun w0 => ?_
  refine K_seq ?_
  refine K_region ?_
  refine KV (R_assign rfl) rfl ?_
  refine K_nil ?_
  refine Q_then ?_
  refine K_seq ?_
  refine K_region ?_
  refine KV (R_move rfl) rfl ?_
  refine KV (R_move rfl) rfl ?_
  refine KV (R_cmp rfl rfl rfl) rfl ?_
  refine KV (R_assign rfl) rfl ?_
  refine K_nil ?_
  refine Q_then ?_
  refine K_ret ?_
  refine results_gen (rs := [.tmp 2]) (vs := [_]) rfl ⟨rfl, trivial⟩ ?_
  simp [tupV]

theorem ccmp_spec (x y : Int) (H : View) : Sat Tryz.prog F2071 #[.int .i64 x, .int .i64 y] H (fun r _ => r = .int .i64 (if x < y then -1 else if y < x then 1 else 0)) := by
  refine enterO (n := 20) (args := [.int .i64 x, .int .i64 y]) Tryz.func102 rfl rfl rfl fun w0 => ?_
  refine K_seq ?_
  refine K_region ?_
  refine KV (R_assign rfl) rfl ?_
  refine K_nil ?_
  refine Q_then ?_
  refine K_seq ?_
  refine K_region ?_
  refine KV (R_move rfl) rfl ?_
  refine K_call c2089 rfl rfl (isNaN_spec x H) ?_
  rintro _ V1 hv1 rfl
  refine KV (R_assign rfl) rfl ?_
  refine K_nil ?_
  refine Q_then ?_
  refine K_seq ?_
  refine K_region ?_
  refine KV (R_move rfl) rfl ?_
  refine K_call c2089 rfl rfl (isNaN_spec y V1) ?_
  rintro _ V2 hv2 rfl
  refine KV (R_assign rfl) rfl ?_
  refine K_nil ?_
  refine Q_then ?_
  refine K_seq ?_
  refine K_seq ?_
  refine K_region ?_
  refine KV (R_move rfl) rfl ?_
  refine K_nil ?_
  refine Q_then ?_
  refine K_ifB rfl (fun h11 => ?_) (fun h11 => ?_)
  ·
    cases h11
  ·
    refine K_skip ?_
    refine Q_then ?_
    refine K_seq ?_
    refine K_seq ?_
    refine K_region ?_
    refine KV (R_move rfl) rfl ?_
    refine K_nil ?_
    refine Q_then ?_
    refine K_ifB rfl (fun h13 => ?_) (fun h13 => ?_)
    ·
      cases h13
    ·
      refine K_skip ?_
      refine Q_then ?_
      refine K_seq ?_
      refine K_seq ?_
      refine K_region ?_
      refine KV (R_move rfl) rfl ?_
      refine KV (R_move rfl) rfl ?_
      refine KV (R_cmp rfl rfl rfl) rfl ?_
      refine K_nil ?_
      refine Q_then ?_
      refine K_if rfl (fun h16 => ?_) (fun h16 => ?_)
      ·
        refine K_seq ?_
        refine K_region ?_
        refine KV (R_assign rfl) rfl ?_
        refine K_nil ?_
        refine Q_then ?_
        refine K_ret ?_
        refine Q_then_ret ?_
        refine results_gen (rs := [.tmp 4]) (vs := [_]) rfl ⟨rfl, trivial⟩ ?_
        rw [if_pos h16]; rfl
      ·
        refine K_skip ?_
        refine Q_then ?_
        refine K_seq ?_
        refine K_seq ?_
        refine K_region ?_
        refine KV (R_move rfl) rfl ?_
        refine KV (R_move rfl) rfl ?_
        refine KV (R_cmp rfl rfl rfl) rfl ?_
        refine K_nil ?_
        refine Q_then ?_
        refine K_if rfl (fun h19 => ?_) (fun h19 => ?_)
        ·
          refine K_seq ?_
          refine K_region ?_
          refine KV (R_assign rfl) rfl ?_
          refine K_nil ?_
          refine Q_then ?_
          refine K_ret ?_
          refine Q_then_ret ?_
          refine results_gen (rs := [.tmp 4]) (vs := [_]) rfl ⟨rfl, trivial⟩ ?_
          rw [if_neg h16, if_pos (by omega)]; rfl
        ·
          refine K_skip ?_
          refine Q_then ?_
          refine K_seq ?_
          refine K_region ?_
          refine KV (R_assign rfl) rfl ?_
          refine K_nil ?_
          refine Q_then ?_
          refine K_ret ?_
          refine results_gen (rs := [.tmp 4]) (vs := [_]) rfl ⟨rfl, trivial⟩ ?_
          rw [if_neg h16, if_neg (by omega)]; rfl

theorem indexI_spec (y : Int) (xs : List Int) (v : Value) (H : View) (hv : SI H v xs) (hl : xs.length ≤ 1099511627776) : Sat Tryz.prog F2068 #[v, .int .i64 y] H (fun r _ => ∃ i : Int, r = .int .i64 i ∧ (0 ≤ i ↔ y ∈ xs)) := by
  obtain ⟨a, cp, rfl⟩ := hv.shape
  refine enterO (n := 19) (args := [.slice a xs.length cp, .int .i64 y]) Tryz.func99 rfl rfl rfl fun w0 => ?_
  refine K_seq ?_
  refine K_region ?_
  refine KV (R_assign rfl) rfl ?_
  refine K_nil ?_
  refine Q_then ?_
  refine K_seq ?_
  refine K_seq ?_
  refine K_region ?_
  refine KV (R_move rfl) rfl ?_
  refine KV (R_len sl25 rfl) rfl ?_
  refine KV (R_move rfl) rfl ?_
  refine K_nil ?_
  refine Q_then ?_
  refine K_block ?_
  refine K_loopD (G := Nat) [4, 5, 8, 9, 10, 11, 12, 13, 14, 15, 16, 17, 18] (fun g => [(8, .int .i64 (g : Int))]) (fun hl g => hl) (fun g => H) (fun g => (g ≤ xs.length) ∧ (∀ j (h : j < xs.length), j < g → xs[j] ≠ y)) (fun g => xs.length - g) 0 ⟨Nat.zero_le _, fun j _ h => by simp at h⟩ ⟨rfl, trivial⟩ (by simp only [args0, Nat.reduceAdd, del, memN, beqN, Nat.reduceBEq, cond_true, cond_false]; rfl) rfl rfl ?_
  rintro k ⟨hk, hno⟩
  try dsimp only at hk
  try dsimp only at hno
  dsimp only [List.set, List.cons_append, List.nil_append]
  refine K_seq ?_
  refine K_region ?_
  refine KV (R_cmp rfl rfl rfl) rfl ?_
  refine K_nil ?_
  refine Q_then ?_
  refine K_seq ?_
  refine K_if rfl (fun h9 => ?_) (fun h9 => ?_)
  ·
    have hk' : k < xs.length := by omega
    obtain ⟨tb, to_, hte, hta⟩ := hv.get hk'
    cases hte
    refine K_skip ?_
    refine Q_then ?_
    refine K_seq ?_
    refine K_block ?_
    refine K_seq ?_
    refine K_region ?_
    refine KV (R_move rfl) rfl ?_
    refine KV (R_assign rfl) rfl ?_
    refine K_nil ?_
    refine Q_then ?_
    refine K_seq ?_
    refine K_region ?_
    refine KV (R_move rfl) rfl ?_
    refine KV (R_move rfl) rfl ?_
    refine KV (R_move rfl) rfl ?_
    refine KV (R_indexN sl25 ty3 rfl rfl (by omega)) rfl ?_
    refine KV (R_loadH ty3 rfl (hta) rfl (fun _ => rfl) rfl) rfl ?_
    refine KV (R_cmp rfl rfl rfl) rfl ?_
    refine K_nil ?_
    refine Q_then ?_
    refine K_if rfl (fun h16 => ?_) (fun h16 => ?_)
    ·
      refine K_seq ?_
      refine K_region ?_
      refine KV (R_move rfl) rfl ?_
      refine KV (R_assign rfl) rfl ?_
      refine K_nil ?_
      refine Q_then ?_
      refine K_ret ?_
      refine Q_block_ret ?_
      refine Q_then_ret ?_
      refine Q_then_ret ?_
      refine Q_block_ret ?_
      refine Q_then_ret ?_
      refine results_gen (rs := [.tmp 4]) (vs := [_]) rfl ⟨rfl, trivial⟩ ?_
      refine ⟨k, rfl, fun _ => ?_, fun _ => by omega⟩
      have e : y = xs[k] := by omega
      rw [e]; exact List.getElem_mem hk'
    ·
      have hno2 : ∀ j (h : j < xs.length), j < k + 1 → xs[j] ≠ y := by
        intro j h hj
        by_cases e : j = k
        · subst e; omega
        · exact hno j h (by omega)
      refine K_skip ?_
      refine Q_block ?_
      refine Q_then ?_
      refine K_region ?_
      refine KV (R_add rfl rfl (by omega)) rfl ?_
      refine KV (R_move rfl) rfl ?_
      refine K_nil ?_
      refine Q_nextD (k + 1) ⟨hk', hno2⟩ (by (try dsimp only); omega) ⟨rfl, trivial⟩ rfl rfl rfl
  ·
    have hk' : k = xs.length := by omega
    refine K_exit ?_
    refine Q_then_exit ?_
    refine Q_then_exit ?_
    refine Q_block_exit ?_
    refine Q_then ?_
    refine K_seq ?_
    refine K_region ?_
    refine KV (R_assign rfl) rfl ?_
    refine K_nil ?_
    refine Q_then ?_
    refine K_ret ?_
    refine results_gen (rs := [.tmp 4]) (vs := [_]) rfl ⟨rfl, trivial⟩ ?_
    refine ⟨-1, rfl, fun h => by omega, fun h => ?_⟩
    obtain ⟨j, hj, e⟩ := List.getElem_of_mem h
    exact absurd e (hno j hj (by omega))

theorem containsI_spec (y : Int) (xs : List Int) (v : Value) (H : View) (hv : SI H v xs) (hl : xs.length ≤ 1099511627776) : Sat Tryz.prog F2041 #[v, .int .i64 y] H (fun r _ => r = .bool (decide (y ∈ xs))) := by
  obtain ⟨a, cp, rfl⟩ := hv.shape
  refine enterO (n := 9) (args := [.slice a xs.length cp, .int .i64 y]) Tryz.func58 rfl rfl rfl fun w0 => ?_
  refine K_seq ?_
  refine K_region ?_
  refine KV (R_assign rfl) rfl ?_
  refine K_nil ?_
  refine Q_then ?_
  refine K_seq ?_
  refine K_region ?_
  refine KV (R_move rfl) rfl ?_
  refine KV (R_move rfl) rfl ?_
  refine K_call c2068 rfl rfl (indexI_spec y xs _ H hv hl) ?_
  rintro _ V1 hv1 ⟨i, rfl, hi⟩
  refine KV (R_cmp rfl rfl rfl) rfl ?_
  refine KV (R_assign rfl) rfl ?_
  refine K_nil ?_
  refine Q_then ?_
  refine K_ret ?_
  refine results_gen (rs := [.tmp 4]) (vs := [_]) rfl ⟨rfl, trivial⟩ ?_
  refine congrArg Value.bool ?_
  by_cases h : 0 ≤ i
  · rw [decide_eq_true h]; exact (decide_eq_true (hi.1 h)).symm
  · rw [decide_eq_false h]; exact (decide_eq_false fun h2 => h (hi.2 h2)).symm

theorem compareI_spec (xs ys : List Int) (v w : Value) (H : View) (hv : SI H v xs) (hw : SI H w ys) (hx : xs.length ≤ 1099511627776) (hy : ys.length ≤ 1099511627776) : Sat Tryz.prog F2044 #[v, w] H (fun r _ => r = .int .i64 (cmpL xs ys)) := by
  obtain ⟨xa, xcp, rfl⟩ := hv.shape
  obtain ⟨ya, ycp, rfl⟩ := hw.shape
  refine enterO (n := 36) (args := [.slice xa xs.length xcp, .slice ya ys.length ycp]) Tryz.func63 rfl rfl rfl fun w0 => ?_
  refine K_seq ?_
  refine K_region ?_
  refine KV (R_assign rfl) rfl ?_
  refine K_nil ?_
  refine Q_then ?_
  refine K_seq ?_
  refine K_seq ?_
  refine K_region ?_
  refine KV (R_move rfl) rfl ?_
  refine KV (R_len sl25 rfl) rfl ?_
  refine KV (R_move rfl) rfl ?_
  refine K_nil ?_
  refine Q_then ?_
  refine K_block ?_
  refine K_loopD (G := Nat × View) [4, 5, 6, 7, 8, 11, 12, 13, 14, 15, 16, 17, 18, 19, 20, 21, 22, 23, 24, 25, 26, 27, 28, 29, 30] (fun g => [(11, .int .i64 (g.1 : Int))]) (fun hl g => hl) (fun g => g.2) (fun g => (g.1 ≤ xs.length) ∧ (g.1 ≤ ys.length) ∧ (VLe H g.2) ∧ (cmpL xs ys = cmpL (xs.drop g.1) (ys.drop g.1))) (fun g => xs.length - g.1) (0, H) ⟨Nat.zero_le _, Nat.zero_le _, VLe.refl _, rfl⟩ ⟨rfl, trivial⟩ (by simp only [args0, Nat.reduceAdd, del, memN, beqN, Nat.reduceBEq, cond_true, cond_false]; rfl) rfl rfl ?_
  rintro ⟨k, V⟩ ⟨hk1, hk2, hV, hc⟩
  dsimp only at hk1 hk2 hV hc
  dsimp only [List.set, List.cons_append, List.nil_append]
  refine K_seq ?_
  refine K_region ?_
  refine KV (R_cmp rfl rfl rfl) rfl ?_
  refine K_nil ?_
  refine Q_then ?_
  refine K_seq ?_
  refine K_if rfl (fun h12 => ?_) (fun h12 => ?_)
  ·
    have hx1 : k < xs.length := by omega
    obtain ⟨xb, xo, hxe, hxa⟩ := (hv.mono hV).get hx1
    cases hxe
    refine K_skip ?_
    refine Q_then ?_
    refine K_seq ?_
    refine K_block ?_
    refine K_seq ?_
    refine K_region ?_
    refine KV (R_move rfl) rfl ?_
    refine KV (R_indexN sl25 ty3 rfl rfl (by omega)) rfl ?_
    refine KV (R_loadH ty3 rfl (hxa) rfl (fun _ => rfl) rfl) rfl ?_
    refine KV (R_assign rfl) rfl ?_
    refine KV (R_assign rfl) rfl ?_
    refine K_nil ?_
    refine Q_then ?_
    refine K_seq ?_
    refine K_seq ?_
    refine K_region ?_
    refine KV (R_move rfl) rfl ?_
    refine KV (R_move rfl) rfl ?_
    refine KV (R_len sl25 rfl) rfl ?_
    refine KV (R_cmp rfl rfl rfl) rfl ?_
    refine K_nil ?_
    refine Q_then ?_
    refine K_if rfl (fun h19 => ?_) (fun h19 => ?_)
    ·
      have hend := cmpL_end hk1 hk2 (.inr (by omega))
      refine K_seq ?_
      refine K_region ?_
      refine KV (R_assign rfl) rfl ?_
      refine K_nil ?_
      refine Q_then ?_
      refine K_ret ?_
      refine Q_then_ret ?_
      refine Q_block_ret ?_
      refine Q_then_ret ?_
      refine Q_then_ret ?_
      refine Q_block_ret ?_
      refine Q_then_ret ?_
      refine results_gen (rs := [.tmp 4]) (vs := [_]) rfl ⟨rfl, trivial⟩ ?_
      rw [hc, hend, if_neg (by omega), if_pos (by omega)]; rfl
    ·
      have hy1 : k < ys.length := by omega
      obtain ⟨yb, yo, hye, hya⟩ := (hw.mono hV).get hy1
      cases hye
      have hcx : cmpL (xs.drop k) (ys.drop k) = if xs[k] < ys[k] then -1 else if ys[k] < xs[k] then 1 else cmpL (xs.drop (k + 1)) (ys.drop (k + 1)) := by
        rw [List.drop_eq_getElem_cons hx1, List.drop_eq_getElem_cons hy1]; rfl
      refine K_skip ?_
      refine Q_then ?_
      refine K_seq ?_
      refine K_region ?_
      refine KV (R_move rfl) rfl ?_
      refine KV (R_move rfl) rfl ?_
      refine KV (R_indexN sl25 ty3 rfl rfl (by omega)) rfl ?_
      refine KV (R_loadH ty3 rfl (hya) rfl (fun _ => rfl) rfl) rfl ?_
      refine KV (R_assign rfl) rfl ?_
      refine K_nil ?_
      refine Q_then ?_
      refine K_seq ?_
      refine K_region ?_
      refine KV (R_move rfl) rfl ?_
      refine KV (R_move rfl) rfl ?_
      refine K_call c2071 rfl rfl (ccmp_spec xs[k] ys[k] V) ?_
      rintro _ V1 hv1 rfl
      refine KV (R_assign rfl) rfl ?_
      refine K_nil ?_
      refine Q_then ?_
      refine K_seq ?_
      refine K_region ?_
      refine KV (R_move rfl) rfl ?_
      refine KV (R_cmp rfl rfl rfl) rfl ?_
      refine K_nil ?_
      refine Q_then ?_
      refine K_if rfl (fun h28 => ?_) (fun h28 => ?_)
      ·
        refine K_seq ?_
        refine K_region ?_
        refine KV (R_move rfl) rfl ?_
        refine KV (R_assign rfl) rfl ?_
        refine K_nil ?_
        refine Q_then ?_
        refine K_ret ?_
        refine Q_block_ret ?_
        refine Q_then_ret ?_
        refine Q_then_ret ?_
        refine Q_block_ret ?_
        refine Q_then_ret ?_
        refine results_gen (rs := [.tmp 4]) (vs := [_]) rfl ⟨rfl, trivial⟩ ?_
        rw [hc, hcx]
        by_cases a1 : xs[k] < ys[k]
        · rw [if_pos a1, if_pos a1]; rfl
        · by_cases a2 : ys[k] < xs[k]
          · rw [if_neg a1, if_neg a1, if_pos a2, if_pos a2]; rfl
          · rw [if_neg a1, if_neg a2] at h28; exact absurd rfl h28
      ·
        have hn1 : ¬ xs[k] < ys[k] := by intro h; rw [if_pos h] at h28; exact h28 (by decide)
        have hn2 : ¬ ys[k] < xs[k] := by intro h; rw [if_neg hn1, if_pos h] at h28; exact h28 (by decide)
        refine K_skip ?_
        refine Q_block ?_
        refine Q_then ?_
        refine K_region ?_
        refine KV (R_add rfl rfl (by omega)) rfl ?_
        refine KV (R_move rfl) rfl ?_
        refine K_nil ?_
        refine Q_nextD (k + 1, V1) ⟨hx1, hy1, hV.trans hv1, by rw [hc, hcx, if_neg hn1, if_neg hn2]⟩ (by (try dsimp only); omega) ⟨rfl, trivial⟩ rfl rfl rfl
  ·
    have hend := cmpL_end hk1 hk2 (.inl (by omega))
    refine K_exit ?_
    refine Q_then_exit ?_
    refine Q_then_exit ?_
    refine Q_block_exit ?_
    refine Q_then ?_
    refine K_seq ?_
    refine K_seq ?_
    refine K_region ?_
    refine KV (R_move rfl) rfl ?_
    refine KV (R_len sl25 rfl) rfl ?_
    refine KV (R_move rfl) rfl ?_
    refine KV (R_len sl25 rfl) rfl ?_
    refine KV (R_cmp rfl rfl rfl) rfl ?_
    refine K_nil ?_
    refine Q_then ?_
    refine K_if rfl (fun h35 => ?_) (fun h35 => ?_)
    ·
      refine K_seq ?_
      refine K_region ?_
      refine KV (R_assign rfl) rfl ?_
      refine K_nil ?_
      refine Q_then ?_
      refine K_ret ?_
      refine Q_then_ret ?_
      refine results_gen (rs := [.tmp 4]) (vs := [_]) rfl ⟨rfl, trivial⟩ ?_
      rw [hc, hend, if_pos (by omega)]; rfl
    ·
      refine K_skip ?_
      refine Q_then ?_
      refine K_seq ?_
      refine K_region ?_
      refine KV (R_assign rfl) rfl ?_
      refine K_nil ?_
      refine Q_then ?_
      refine K_ret ?_
      refine results_gen (rs := [.tmp 4]) (vs := [_]) rfl ⟨rfl, trivial⟩ ?_
      rw [hc, hend, if_neg (by omega), if_neg (by omega)]; rfl
end Go.Proofs.X

namespace Go.Proofs.X
open Go Pal Go.Proofs
attribute [local irreducible] Pal.KO Pal.KC Pal.KQ Pal.KD
theorem ty164 : Ty Tryz.prog T164 false 1 := .of (by kernel_rfl)
theorem ty2007 : Ty Tryz.prog T2007 false 1 := .of (by kernel_rfl)
theorem sl2007 : slcOk Tryz.prog T2007 T164 := by unfold slcOk; kernel_rfl
theorem fd2009_0 : fldOk Tryz.prog T2009 0 0 = true := by kernel_rfl
theorem c2046 : callable Tryz.prog F2046 = true := by kernel_rfl
theorem word_spec (ws : List Nat) (i : Nat) (v : Value) (H : View) (hv : UW H v ws) (hi : i ≤ 1099511627776) : Sat Tryz.prog F2064 #[.agg #[v], .int .i64 (i : Int)] H (fun r _ => r = .int .u64 ((ws.getD i 0 : Nat) : Int)) := by
  obtain ⟨a, cp, rfl⟩ := hv.shape
  have hok := hv.2
  refine enterO (n := 16) (args := [.agg #[.slice a ws.length cp], .int .i64 (i : Int)]) Tryz.func91 rfl rfl rfl fun w0 => ?_
  refine K_seq ?_
  refine K_region ?_
  refine KA (A_box rfl) rfl fun b2 => ?_
  refine KV (R_assign rfl) rfl ?_
  refine K_nil ?_
  refine Q_then ?_
  refine K_seq ?_
  refine K_seq ?_
  refine K_region ?_
  refine KV (R_move rfl) rfl ?_
  refine KV (R_fieldAddr 0 fd2009_0 rfl) rfl ?_
  refine KV (R_loadO ty2007 0 rfl rfl rfl rfl (fun _ => rfl) rfl) rfl ?_
  refine KV (R_len sl2007 rfl) rfl ?_
  refine KV (R_cmp rfl rfl rfl) rfl ?_
  refine K_nil ?_
  refine Q_then ?_
  refine K_if rfl (fun h9 => ?_) (fun h9 => ?_)
  ·
    refine K_seq ?_
    refine K_region ?_
    refine KV (R_assign rfl) rfl ?_
    refine K_nil ?_
    refine Q_then ?_
    refine K_ret ?_
    refine Q_then_ret ?_
    refine results_gen (rs := [.tmp 4]) (vs := [_]) rfl ⟨rfl, trivial⟩ ?_
    simp [tupV, List.getD, show ws.length ≤ i by omega]
  ·
    have hi2 : i < ws.length := by omega
    obtain ⟨b, off, hbe, hba⟩ := hv.get hi2
    cases hbe
    have hw := hok _ (List.getElem_mem hi2)
    refine K_skip ?_
    refine Q_then ?_
    refine K_seq ?_
    refine K_region ?_
    refine KV (R_fieldAddr 0 fd2009_0 rfl) rfl ?_
    refine KV (R_loadO ty2007 0 rfl rfl rfl rfl (fun _ => rfl) rfl) rfl ?_
    refine KV (R_move rfl) rfl ?_
    refine KV (R_indexN sl2007 ty164 rfl rfl (by omega)) rfl ?_
    refine KV (R_loadH ty164 rfl (hba) rfl (fun _ => rfl) rfl) rfl ?_
    refine KV (R_convII (by kernel_rfl) ⟨_, Tryz.underlying105⟩ rfl (IntWalk.u64_in ((ws[i] : Nat) : Int) (by omega))) rfl ?_
    refine KV (R_assign rfl) rfl ?_
    refine K_nil ?_
    refine Q_then ?_
    refine K_ret ?_
    refine results_gen (rs := [.tmp 4]) (vs := [_]) rfl ⟨rfl, trivial⟩ ?_
    simp [tupV, List.getD, hi2]

theorem eqU_spec (xs ys : List Nat) (v w : Value) (H : View) (hv : UW H v xs) (hw : UW H w ys) (hl : xs.length ≤ 1099511627776) : Sat Tryz.prog F2046 #[v, w] H (fun r _ => r = .bool (decide (xs = ys))) := by
  obtain ⟨a, cp, rfl⟩ := hv.shape
  obtain ⟨a2, cp2, rfl⟩ := hw.shape
  refine enterO (n := 26) (args := [.slice a xs.length cp, .slice a2 ys.length cp2]) Tryz.func65 rfl rfl rfl fun w0 => ?_
  refine K_seq ?_
  refine K_region ?_
  refine KV (R_assign rfl) rfl ?_
  refine K_nil ?_
  refine Q_then ?_
  refine K_seq ?_
  refine K_seq ?_
  refine K_region ?_
  refine KV (R_move rfl) rfl ?_
  refine KV (R_len sl2007 rfl) rfl ?_
  refine KV (R_move rfl) rfl ?_
  refine KV (R_len sl2007 rfl) rfl ?_
  refine KV (R_cmp rfl rfl rfl) rfl ?_
  refine K_nil ?_
  refine Q_then ?_
  refine K_if rfl (fun h10 => ?_) (fun h10 => ?_)
  ·
    refine K_seq ?_
    refine K_region ?_
    refine KV (R_assign rfl) rfl ?_
    refine K_nil ?_
    refine Q_then ?_
    refine K_ret ?_
    refine Q_then_ret ?_
    refine results_gen (rs := [.tmp 4]) (vs := [_]) rfl ⟨rfl, trivial⟩ ?_
    refine congrArg Value.bool (Eq.symm (decide_eq_false ?_))
    intro e; subst e; omega
  ·
    have hle : xs.length = ys.length := by omega
    refine K_skip ?_
    refine Q_then ?_
    refine K_seq ?_
    refine K_seq ?_
    refine K_region ?_
    refine KV (R_move rfl) rfl ?_
    refine KV (R_len sl2007 rfl) rfl ?_
    refine KV (R_move rfl) rfl ?_
    refine K_nil ?_
    refine Q_then ?_
    refine K_block ?_
    refine K_loopD (G := Nat) [4, 5, 13, 14, 15, 16, 17, 18, 19, 20, 21, 22, 23, 24, 25] (fun g => [(13, .int .i64 (g : Int))]) (fun hl g => hl) (fun g => H) (fun g => (g ≤ xs.length) ∧ (∀ j (h : j < xs.length) (h2 : j < ys.length), j < g → xs[j] = ys[j])) (fun g => xs.length - g) 0 ⟨Nat.zero_le _, fun j _ _ h => by simp at h⟩ ⟨rfl, trivial⟩ (by simp only [args0, Nat.reduceAdd, del, memN, beqN, Nat.reduceBEq, cond_true, cond_false]; rfl) rfl rfl ?_
    rintro k ⟨hk, hyes⟩
    try dsimp only at hk
    try dsimp only at hyes
    dsimp only [List.set, List.cons_append, List.nil_append]
    refine K_seq ?_
    refine K_region ?_
    refine KV (R_cmp rfl rfl rfl) rfl ?_
    refine K_nil ?_
    refine Q_then ?_
    refine K_seq ?_
    refine K_if rfl (fun h14 => ?_) (fun h14 => ?_)
    ·
      have hk' : k < xs.length := by omega
      obtain ⟨tb, to_, hte, hta⟩ := hv.get hk'
      cases hte
      obtain ⟨ub, uo, hue, htb⟩ := hw.get (show k < ys.length by omega)
      cases hue
      refine K_skip ?_
      refine Q_then ?_
      refine K_seq ?_
      refine K_block ?_
      refine K_seq ?_
      refine K_region ?_
      refine KV (R_move rfl) rfl ?_
      refine KV (R_assign rfl) rfl ?_
      refine K_nil ?_
      refine Q_then ?_
      refine K_seq ?_
      refine K_regionD (fin := false) (R := [0, 1, 2, 3, 4, 5, 6, 7, 8]) (by kernel_rfl) mixed (List.nil_sublist _) ?_
      refine D_val rfl rfl rfl (R_move rfl) ?_
      refine D_val rfl rfl rfl (R_move rfl) ?_
      refine D_val rfl rfl rfl (R_indexN sl2007 ty164 rfl rfl (by omega)) ?_
      refine D_val rfl rfl rfl (R_loadH ty164 rfl (hta) rfl (fun _ => rfl) rfl) ?_
      refine D_val rfl rfl rfl (R_move rfl) ?_
      refine D_val rfl rfl rfl (R_move rfl) ?_
      refine D_val rfl rfl rfl (R_indexN sl2007 ty164 rfl rfl (by omega)) ?_
      refine D_val rfl rfl rfl (R_loadH ty164 rfl (htb) rfl (fun _ => rfl) rfl) ?_
      refine D_val rfl rfl rfl (R_cmp rfl rfl rfl) ?_
      refine D_done ?_
      refine Q_then ?_
      refine K_if rfl (fun h24 => ?_) (fun h24 => ?_)
      ·
        refine K_seq ?_
        refine K_region ?_
        refine KV (R_assign rfl) rfl ?_
        refine K_nil ?_
        refine Q_then ?_
        refine K_ret ?_
        refine Q_block_ret ?_
        refine Q_then_ret ?_
        refine Q_then_ret ?_
        refine Q_block_ret ?_
        refine Q_then_ret ?_
        refine results_gen (rs := [.tmp 4]) (vs := [_]) rfl ⟨rfl, trivial⟩ ?_
        refine congrArg Value.bool (Eq.symm (decide_eq_false ?_))
        intro e; subst e; omega
      ·
        have hyes2 : ∀ j (h : j < xs.length) (h2 : j < ys.length), j < k + 1 → xs[j] = ys[j] := by
          intro j h h2 hj
          by_cases e : j = k
          · subst e; omega
          · exact hyes j h h2 (by omega)
        refine K_skip ?_
        refine Q_block ?_
        refine Q_then ?_
        refine K_region ?_
        refine KV (R_add rfl rfl (by omega)) rfl ?_
        refine KV (R_move rfl) rfl ?_
        refine K_nil ?_
        refine Q_nextD (k + 1) ⟨hk', hyes2⟩ (by (try dsimp only); omega) ⟨rfl, trivial⟩ rfl rfl rfl
    ·
      have hk' : k = xs.length := by omega
      refine K_exit ?_
      refine Q_then_exit ?_
      refine Q_then_exit ?_
      refine Q_block_exit ?_
      refine Q_then ?_
      refine K_seq ?_
      refine K_region ?_
      refine KV (R_assign rfl) rfl ?_
      refine K_nil ?_
      refine Q_then ?_
      refine K_ret ?_
      refine results_gen (rs := [.tmp 4]) (vs := [_]) rfl ⟨rfl, trivial⟩ ?_
      refine congrArg Value.bool (Eq.symm (decide_eq_true ?_))
      exact List.ext_getElem hle fun j h h2 => hyes j h h2 (by omega)

theorem eqN_spec (n m : Nat) (v w : Value) (H : View) (hv : RepN H v n) (hw : RepN H w m) (hl : n < 2 ^ 64) : Sat Tryz.prog F2018 #[.agg #[v], .agg #[w]] H (fun r _ => r = .bool (decide (n = m))) := by
  obtain ⟨xs, hx1, hx2, hx3⟩ := hv
  obtain ⟨ys, hy1, hy2, hy3⟩ := hw
  have hlen : xs.length ≤ 1099511627776 := by
    rcases Nat.lt_or_ge 2 xs.length with h | h
    · exfalso
      have hne : xs ≠ [] := by intro e; subst e; simp at h
      obtain ⟨us, y, rfl⟩ : ∃ us y, xs = us ++ [y] := ⟨xs.dropLast, xs.getLast hne, (List.dropLast_concat_getLast hne).symm⟩
      have hy0 : y ≠ 0 := by intro e; subst e; exact hx1.2 (by simp)
      rw [valW_snoc] at hx2
      have h2 : 4294967296 ^ 2 ≤ 4294967296 ^ us.length := Nat.pow_le_pow_right (by decide) (by simp at h; omega)
      have h3 : 4294967296 ^ us.length * 1 ≤ 4294967296 ^ us.length * y := Nat.mul_le_mul_left _ (by omega)
      omega
    · omega
  obtain ⟨a, cp, rfl⟩ := hx3.shape
  obtain ⟨a2, cp2, rfl⟩ := hy3.shape
  have heq : decide (xs = ys) = decide (n = m) := by
    by_cases e : xs = ys
    · subst e; rw [decide_eq_true rfl, decide_eq_true (by omega)]
    · rw [decide_eq_false e, decide_eq_false (fun h => e (hx1.uniq hy1 (by omega)))]
  refine enterO (n := 10) (args := [.agg #[.slice a xs.length cp], .agg #[.slice a2 ys.length cp2]]) Tryz.func27 rfl rfl rfl fun w0 => ?_
  refine K_seq ?_
  refine K_region ?_
  refine KA (A_box rfl) rfl fun b2 => ?_
  refine KA (A_box rfl) rfl fun b3 => ?_
  refine KV (R_assign rfl) rfl ?_
  refine K_nil ?_
  refine Q_then ?_
  refine K_seq ?_
  refine K_region ?_
  refine KV (R_fieldAddr 0 fd2009_0 rfl) rfl ?_
  refine KV (R_loadO ty2007 1 rfl rfl rfl rfl (fun _ => rfl) rfl) rfl ?_
  refine KV (R_fieldAddr 0 fd2009_0 rfl) rfl ?_
  refine KV (R_loadO ty2007 0 rfl rfl rfl rfl (fun _ => rfl) rfl) rfl ?_
  refine K_call c2046 rfl rfl (eqU_spec xs ys _ _ H hx3 hy3 hlen) ?_
  rintro _ V1 hv1 rfl
  refine KV (R_assign rfl) rfl ?_
  refine K_nil ?_
  refine Q_then ?_
  refine K_ret ?_
  refine results_gen (rs := [.tmp 4]) (vs := [_]) rfl ⟨rfl, trivial⟩ ?_
  exact congrArg Value.bool heq
end Go.Proofs.X

namespace Go.Proofs.X
open Go Pal Go.Proofs
attribute [local irreducible] Pal.KO Pal.KC Pal.KQ Pal.KD
theorem ty2009 : Ty Tryz.prog T2009 true 1 := .of (by kernel_rfl)
theorem z164 : zeroOk Tryz.prog T164 (.int .u32 0) := .of (by kernel_rfl)
theorem z2009 : zeroOk Tryz.prog T2009 (.agg #[.slice none 0 0]) := .of (by kernel_rfl)
theorem pl2009 : placesOk Tryz.prog T2009 [(0, 1)] := ⟨_, Tryz.underlying56, by kernel_rfl⟩
theorem c2047 : callable Tryz.prog F2047 = true := by kernel_rfl
theorem trimW_spec (ws : List Nat) (a : Option Addr) (cp : Nat) (H : View) (hv : UW H (.slice a ws.length cp) ws) (hc : ws.length ≤ cp) (hl : ws.length ≤ 1099511627776) : Sat Tryz.prog F2047 #[.slice a ws.length cp] H (fun r H' => ∃ xa k, r = .agg #[.slice xa k cp] ∧ RepN H' (.slice xa k cp) (valW ws)) := by
  have hok := hv.2
  refine enterO (n := 22) (args := [.slice a ws.length cp]) Tryz.func66 rfl rfl rfl fun w0 => ?_
  refine K_seq ?_
  refine K_region ?_
  refine KA (A_alloc z2009) rfl fun b2 => ?_
  refine K_nil ?_
  refine Q_then ?_
  refine K_seq ?_
  refine K_block ?_
  refine K_loopD (G := Nat × Option Addr) [0, 3, 4, 5, 6, 7, 8, 9, 10, 11, 12, 13, 14, 15, 16, 17, 18, 19] (fun g => [(0, .slice g.2 g.1 cp)]) (fun hl g => hl) (fun g => H) (fun g => (g.1 ≤ ws.length) ∧ (SlAt H (.slice g.2 g.1 cp) g.1 (words (ws.take g.1))) ∧ (∀ j (h : j < ws.length), g.1 ≤ j → ws[j] = 0)) (fun g => g.1) (ws.length, a) ⟨Nat.le_refl _, by rw [List.take_length]; exact hv.1, fun j h h2 => by omega⟩ ⟨rfl, trivial⟩ (by simp only [args0, Nat.reduceAdd, del, memN, beqN, Nat.reduceBEq, cond_true, cond_false]; rfl) rfl rfl ?_
  rintro ⟨k, xa⟩ ⟨hk, hs, hz⟩
  dsimp only at hk hs hz
  dsimp only [List.set, List.cons_append, List.nil_append]
  have htl : (ws.take k).length = k := by rw [List.length_take]; omega
  have hu : UW H (.slice xa k cp) (ws.take k) := ⟨by rw [htl]; exact hs, fun x hx => hok x (List.mem_of_mem_take hx)⟩
  refine K_seq ?_
  refine K_seq ?_
  refine K_region ?_
  refine KV (R_move rfl) rfl ?_
  refine KV (R_len sl2007 rfl) rfl ?_
  refine KV (R_cmp rfl rfl rfl) rfl ?_
  refine KV (R_move rfl) rfl ?_
  refine K_split ?_ ?_
  ·
    intro h6
    have hk0 : k - 1 < (ws.take k).length := by omega
    obtain ⟨tb, to_, hte, hta⟩ := hu.get hk0
    cases hte
    have e9 : ((k : Int) - 1).toNat = k - 1 := by omega
    have hta2 : At H tb (to_ + ((k : Int) - 1).toNat * 1) [.int .u32 (((ws.take k)[k - 1] : Nat) : Int)] := by rw [e9]; exact hta
    refine K_gyes rfl rfl ?_
    refine KV (R_move rfl) rfl ?_
    refine K_gyes rfl rfl ?_
    refine KV (R_move rfl) rfl ?_
    refine K_gyes rfl rfl ?_
    refine KV (R_len sl2007 rfl) rfl ?_
    refine K_gyes rfl rfl ?_
    refine KV (R_sub rfl rfl (by omega)) rfl ?_
    refine K_gyes rfl rfl ?_
    refine KV (R_index sl2007 ty164 rfl rfl ⟨by omega, by omega⟩) rfl ?_
    refine K_gyes rfl rfl ?_
    refine KV (R_loadH ty164 rfl (hta2) rfl (fun _ => rfl) rfl) rfl ?_
    refine K_gyes rfl rfl ?_
    refine KV (R_cmp rfl rfl rfl) rfl ?_
    refine KV (R_pickT rfl rfl) rfl ?_
    refine K_nil ?_
    refine Q_then ?_
    refine K_if rfl (fun h14 => ?_) (fun h14 => ?_)
    ·
      have hz0 : ws[k - 1]'(by omega) = 0 := by rw [List.getElem_take] at h14; omega
      have hwt : (words (ws.take k)).take (k - 1) = words (ws.take (k - 1)) := by
        unfold words
        rw [← List.map_take, List.take_take, Nat.min_eq_left (by omega)]
      refine K_skip ?_
      refine Q_then ?_
      refine K_block ?_
      refine K_region ?_
      refine KV (R_move rfl) rfl ?_
      refine KV (R_move rfl) rfl ?_
      refine KV (R_len sl2007 rfl) rfl ?_
      refine KV (R_sub rfl rfl (by omega)) rfl ?_
      rw [show (k : Int) - 1 = ((k - 1 : Nat) : Int) by omega]
      refine KV (R_sliceHi (m := k - 1) sl2007 ty164 rfl rfl (by omega)) rfl ?_
      refine KV (R_assign rfl) rfl ?_
      refine K_nil ?_
      refine Q_block ?_
      refine Q_nextD (k - 1, (if cp = 0 then some ⟨tb, to_, none⟩ else (some (⟨tb, to_, none⟩ : Addr)).map (·.add 0))) ⟨by dsimp only; omega, by have h3 := hs.hi (m := k - 1) (sz := 1) (by omega) (by omega); rw [Nat.mul_one, hwt] at h3; exact h3, fun j h h2 => by
          dsimp only at h2
          by_cases e : j = k - 1
          · subst e; exact hz0
          · exact hz j h (by omega)⟩ (by (try dsimp only); omega) ⟨rfl, trivial⟩ rfl rfl rfl
    ·
      refine K_exit ?_
      refine Q_then_exit ?_
      refine Q_then_exit ?_
      refine Q_block_exit ?_
      refine Q_then ?_
      refine K_seq ?_
      refine K_region ?_
      refine KV (R_move rfl) rfl ?_
      refine KV (R_build z2009 pl2009 rfl rfl) rfl ?_
      refine K_store ty2009 0 rfl rfl rfl rfl rfl rfl ?_
      refine K_nil ?_
      refine Q_then ?_
      refine K_ret ?_
      refine results_gen (rs := [.cell 2 56]) (vs := [_]) rfl ⟨⟨_, _, _, _, _, _, 0, rfl, rfl, ty2009, (fun e => by cases e), rfl, rfl⟩, trivial⟩ ?_
      refine ⟨_, _, rfl, ws.take k, ?_, valW_take hz, ?_⟩
      · refine Canon.take hok hk ?_
        by_cases h0 : k = 0
        · exact .inl h0
        · first
          | (exfalso; omega)
          | (refine .inr ⟨by omega, ?_⟩; intro e; rw [List.getElem_take] at h14; omega)
      · exact hu
  ·
    intro h6
    refine K_gno rfl rfl rfl rfl ?_
    refine K_gno rfl rfl rfl rfl ?_
    refine K_gno rfl rfl rfl rfl ?_
    refine K_gno rfl rfl rfl rfl ?_
    refine K_gno rfl rfl rfl rfl ?_
    refine K_gno rfl rfl rfl rfl ?_
    refine K_gno rfl rfl rfl rfl ?_
    refine KV (R_pickF rfl rfl) rfl ?_
    refine K_nil ?_
    refine Q_then ?_
    refine K_ifF rfl ?_
    refine K_exit ?_
    refine Q_then_exit ?_
    refine Q_then_exit ?_
    refine Q_block_exit ?_
    refine Q_then ?_
    refine K_seq ?_
    refine K_region ?_
    refine KV (R_move rfl) rfl ?_
    refine KV (R_build z2009 pl2009 rfl rfl) rfl ?_
    refine K_store ty2009 0 rfl rfl rfl rfl rfl rfl ?_
    refine K_nil ?_
    refine Q_then ?_
    refine K_ret ?_
    refine results_gen (rs := [.cell 2 56]) (vs := [_]) rfl ⟨⟨_, _, _, _, _, _, 0, rfl, rfl, ty2009, (fun e => by cases e), rfl, rfl⟩, trivial⟩ ?_
    refine ⟨_, _, rfl, ws.take k, ?_, valW_take hz, ?_⟩
    · refine Canon.take hok hk ?_
      by_cases h0 : k = 0
      · exact .inl h0
      · first
        | (exfalso; omega)
        | (refine .inr ⟨by omega, ?_⟩; intro e; rw [List.getElem_take] at h14; omega)
    · exact hu

theorem fromU_spec (n : Nat) (hn : n < 18446744073709551616) (H : View) : Sat Tryz.prog F2019 #[.int .u64 (n : Int)] H (fun r H' => ∃ xa k cp, r = .agg #[.slice xa k cp] ∧ RepN H' (.slice xa k cp) n) := by
  have hw1 : IntKind.u32.wrap (n : Int) = ((n % 4294967296 : Nat) : Int) := by rw [IntKind.wrap_u32]; omega
  have hw2 : IntKind.u32.wrap ((n / 2 ^ 32 : Nat) : Int) = ((n / 4294967296 : Nat) : Int) := by rw [IntKind.wrap_u32]; omega
  refine enterO (n := 10) (args := [.int .u64 (n : Int)]) Tryz.func28 rfl rfl rfl fun w0 => ?_
  refine K_seq ?_
  refine K_region ?_
  refine KA (A_alloc z2009) rfl fun b2 => ?_
  refine K_nil ?_
  refine Q_then ?_
  refine K_seq ?_
  refine K_region ?_
  refine KV (R_move rfl) rfl ?_
  refine KV (R_convII (by kernel_rfl) ⟨_, Tryz.underlying62⟩ rfl hw1) rfl ?_
  refine KV (R_move rfl) rfl ?_
  refine KV (R_shrU (k := 32) rfl rfl (by decide)) rfl ?_
  refine KV (R_convII (by kernel_rfl) ⟨_, Tryz.underlying62⟩ rfl hw2) rfl ?_
  refine KA (A_buildSlice (vs := [.int .u32 ((n % 4294967296 : Nat) : Int), .int .u32 ((n / 4294967296 : Nat) : Int)]) sl2007 ty164 z164 rfl rfl (by simp [Value.cells]) (by simp) rfl (by decide)) rfl fun b8 => ?_
  refine KO_pubF fun U hU hb8 => ?_
  have hu : UW U (slc 2 b8) [n % 4294967296, n / 4294967296] := ⟨⟨_, _, rfl, .inr ⟨b8, 0, rfl, At.of hb8⟩⟩, fun w hw => by simp at hw; omega⟩
  have hval : valW [n % 4294967296, n / 4294967296] = n := by simp only [valW]; omega
  refine K_call c2047 rfl rfl (trimW_spec [n % 4294967296, n / 4294967296] _ 2 U hu (by simp) (by simp)) ?_
  rintro _ V1 hv1 ⟨xa, k, rfl, hN⟩
  rw [hval] at hN
  refine K_store ty2009 0 rfl rfl rfl rfl rfl rfl ?_
  refine K_nil ?_
  refine Q_then ?_
  refine K_ret ?_
  refine results_gen (rs := [.cell 2 56]) (vs := [_]) rfl ⟨⟨_, _, _, _, _, _, 0, rfl, rfl, ty2009, (fun e => by cases e), rfl, rfl⟩, trivial⟩ ?_
  exact ⟨_, _, _, rfl, hN⟩
end Go.Proofs.X

namespace Go.Proofs.X
open Go Pal Go.Proofs
attribute [local irreducible] Pal.KO Pal.KC Pal.KQ Pal.KD
theorem c2064 : callable Tryz.prog F2064 = true := by kernel_rfl
theorem addc_spec (xs ys : List Nat) (i c b2 b3 : Nat) (v w : Value) (H : View) (hv : UW H v xs) (hw : UW H w ys) (hA2 : At H b2 0 [v]) (hA3 : At H b3 0 [w]) (hi : i ≤ 1099511627776) (hc : c ≤ 1) :
    Sat Tryz.prog F2063 #[.int .i64 (i : Int), .int .u64 (c : Int), ptr b2, ptr b3] H (fun r _ => r = .tuple #[.int .u32 (((xs.getD i 0 + ys.getD i 0 + c) % 4294967296 : Nat) : Int), .int .u64 (((xs.getD i 0 + ys.getD i 0 + c) / 2 ^ 32 : Nat) : Int)]) := by
  obtain ⟨a, cp, rfl⟩ := hv.shape
  obtain ⟨a2, cp2, rfl⟩ := hw.shape
  have hx : xs.getD i 0 < 4294967296 := by
    by_cases h : i < xs.length
    · have := hv.2 _ (List.getElem_mem h); simpa [List.getD, h] using this
    · simp [List.getD, h]
  have hy : ys.getD i 0 < 4294967296 := by
    by_cases h : i < ys.length
    · have := hw.2 _ (List.getElem_mem h); simpa [List.getD, h] using this
    · simp [List.getD, h]
  generalize hx0 : xs.getD i 0 = x at hx ⊢
  generalize hy0 : ys.getD i 0 = y at hy ⊢
  refine enterO (n := 22) (args := [.int .i64 (i : Int), .int .u64 (c : Int), ptr b2, ptr b3]) Tryz.func90 rfl rfl rfl fun w0 => ?_
  refine K_seq ?_
  refine K_region ?_
  refine KV (R_assign rfl) rfl ?_
  refine KV (R_assign rfl) rfl ?_
  refine K_nil ?_
  refine Q_then ?_
  refine K_seq ?_
  refine K_regionD (fin := false) (R := [0, 1, 3, 4, 7, 2, 5, 6, 8, 9]) (by kernel_rfl) mixed (List.nil_sublist _) ?_
  refine D_val rfl rfl rfl (R_loadH ty2009 rfl (hA2) rfl (fun e => by cases e) rfl) ?_
  refine D_val rfl rfl rfl (R_move rfl) ?_
  refine D_val rfl rfl rfl (R_loadH ty2009 rfl (hA3) rfl (fun e => by cases e) rfl) ?_
  refine D_val rfl rfl rfl (R_move rfl) ?_
  refine D_val rfl rfl rfl (R_move rfl) ?_
  refine D_call rfl rfl c2064 rfl trivial (word_spec xs i _ H hv hi) ?_
  rintro _ V1 hv1 rfl
  rw [hx0]
  refine D_call rfl rfl c2064 rfl trivial (word_spec ys i _ V1 (hw.mono hv1) hi) ?_
  rintro _ V2 hv2 rfl
  rw [hy0]
  refine D_val rfl rfl rfl (R_arith (r := ((x + y : Nat) : Int)) rfl rfl (.inl ⟨rfl, by rw [IntWalk.u64_in _ (by omega)]; omega⟩)) ?_
  refine D_val rfl rfl rfl (R_arith (r := ((x + y + c : Nat) : Int)) rfl rfl (.inl ⟨rfl, by rw [IntWalk.u64_in _ (by omega)]; omega⟩)) ?_
  refine D_val rfl rfl rfl (R_assign rfl) ?_
  refine D_done ?_
  refine Q_then ?_
  refine K_seq ?_
  refine K_region ?_
  refine KV (R_move rfl) rfl ?_
  refine KV (R_convII (by kernel_rfl) ⟨_, Tryz.underlying62⟩ rfl (r := (((x + y + c) % 4294967296 : Nat) : Int)) (by rw [IntKind.wrap_u32]; omega)) rfl ?_
  refine KV (R_move rfl) rfl ?_
  refine KV (R_shrU (k := 32) rfl rfl (by decide)) rfl ?_
  refine KV (R_assign rfl) rfl ?_
  refine KV (R_assign rfl) rfl ?_
  refine K_nil ?_
  refine Q_then ?_
  refine K_ret ?_
  refine results_gen (rs := [.tmp 6, .tmp 7]) (vs := [_, _]) rfl ⟨rfl, ⟨rfl, trivial⟩⟩ ?_
  rfl
end Go.Proofs.X

namespace Go.Proofs.X
open Go Pal Go.Proofs
attribute [local irreducible] Pal.KO Pal.KC Pal.KQ Pal.KD
theorem ap2007 : App Tryz.prog T2007 T164 1 4 := .of sl2007 (by kernel_rfl)
theorem join_spec (n m gf : Nat) (cap0 : List Value) (f : Nat → Nat → Nat × Nat) (H : View) (hn : n ≤ 1073741824) (hm : m < 4294967296) (hf : ∀ i c, c ≤ m → (f i c).1 < 4294967296 ∧ (f i c).2 ≤ m) (hct : callable Tryz.prog gf = true)
    (hdo : ∀ H' (i c : Nat), VLe H H' → i < n → c ≤ m → Sat Tryz.prog gf ([] ++ [Value.int .i64 (i : Int), .int .u64 (c : Int)] ++ cap0).toArray H' (fun r _ => r = .tuple #[.int .u32 ((f i c).1 : Int), .int .u64 ((f i c).2 : Int)])) :
    SatO Tryz.prog F2062 #[.int .i64 (n : Int), .func (.func gf) #[] cap0.toArray] H [] (fun r _ q => ∃ xa cap, r = .slice xa (joinW f n).length cap ∧ q = [row (.slice xa (joinW f n).length cap) T164 1 (joinW f n).length (words (joinW f n))]) := by
  refine enterO (n := 36) (args := [.int .i64 (n : Int), .func (.func gf) #[] cap0.toArray]) Tryz.func89 rfl rfl rfl fun w0 => ?_
  refine K_seq ?_
  refine K_region ?_
  refine KV (R_assign rfl) rfl ?_
  refine K_nil ?_
  refine Q_then ?_
  refine K_seq ?_
  refine K_region ?_
  refine KV (R_move rfl) rfl ?_
  refine KV (R_add rfl rfl (by omega)) rfl ?_
  refine KA (A_makeSlice0 (k := n + 1) ap2007 z164 ty164 rfl rfl (by omega) (by omega)) rfl fun b11 => ?_
  refine KV (R_assign rfl) rfl ?_
  refine K_nil ?_
  refine KQ_rowMade (cap := n + 1) (sz := 1) (by simp [madeCells]) (by simp only [maxLen]; omega) ?_
  refine Q_then ?_
  refine K_seq ?_
  refine K_region ?_
  refine KV (R_assign rfl) rfl ?_
  refine K_nil ?_
  refine Q_then ?_
  refine K_seq ?_
  refine K_seq ?_
  refine K_region ?_
  refine KV (R_move rfl) rfl ?_
  refine KV (R_move rfl) rfl ?_
  refine K_nil ?_
  refine Q_then ?_
  refine K_block ?_
  refine K_loopD (G := Nat × View × Option Addr × Nat) [5, 6, 7, 8, 13, 14, 15, 16, 17, 18, 19, 20, 21, 22, 23, 24, 25, 26, 27] (fun g => [(13, .int .i64 (g.1 : Int)), (6, .int .u64 ((joinF f g.1).2 : Int)), (5, .slice g.2.2.1 g.1 g.2.2.2)]) (fun hl g => (hl.set 0 (row (.slice g.2.2.1 g.1 g.2.2.2) T164 1 g.1 (words (joinF f g.1).1)))) (fun g => g.2.1) (fun g => (g.1 ≤ n) ∧ (VLe H g.2.1)) (fun g => n - g.1) (0, H, some ⟨b11, 0, none⟩, n + 1) ⟨Nat.zero_le _, VLe.refl _⟩ ⟨rfl, rfl, rfl, trivial⟩ (by simp only [args0, Nat.reduceAdd, del, memN, beqN, Nat.reduceBEq, cond_true, cond_false]; rfl) rfl rfl ?_
  rintro ⟨i, V, xa, cp⟩ ⟨hi, hV⟩
  dsimp only at hi hV
  dsimp only [List.set, List.cons_append, List.nil_append]
  obtain ⟨hjo, hjm⟩ := joinF_ok hf i
  have hjl := joinF_len f i
  refine K_seq ?_
  refine K_region ?_
  refine KV (R_cmp rfl rfl rfl) rfl ?_
  refine K_nil ?_
  refine Q_then ?_
  refine K_seq ?_
  refine K_if rfl (fun h14 => ?_) (fun h14 => ?_)
  ·
    have hi2 : i < n := by omega
    refine K_skip ?_
    refine Q_then ?_
    refine K_seq ?_
    refine K_block ?_
    refine K_seq ?_
    refine K_region ?_
    refine KV (R_move rfl) rfl ?_
    refine KV (R_assign rfl) rfl ?_
    refine K_nil ?_
    refine Q_then ?_
    refine K_seq ?_
    refine K_region ?_
    refine KV (R_assign rfl) rfl ?_
    refine K_nil ?_
    refine Q_then ?_
    refine K_seq ?_
    refine K_region ?_
    refine KV (R_move rfl) rfl ?_
    refine KV (R_move rfl) rfl ?_
    refine KV (R_move rfl) rfl ?_
    refine K_callV hct rfl rfl rfl (hdo V i (joinF f i).2 hV hi2 hjm) ?_
    rintro _ V1 hv1 rfl
    refine KV (R_move rfl) rfl ?_
    refine KV (R_extract rfl rfl) rfl ?_
    refine KV (R_extract rfl rfl) rfl ?_
    refine KV (R_assign rfl) rfl ?_
    refine KV (R_assign rfl) rfl ?_
    refine K_nil ?_
    refine Q_then ?_
    refine K_region ?_
    refine KV (R_move rfl) rfl ?_
    refine KV (R_move rfl) rfl ?_
    refine KA (A_buildSlice (vs := [.int .u32 ((f i (joinF f i).2).1 : Int)]) sl2007 ty164 z164 rfl rfl (by simp [Value.cells]) (by simp) rfl (by decide)) rfl fun b25 => ?_
    refine K_append1 0 ap2007 rfl rfl rfl rfl rfl rfl ⟨by omega, by omega⟩ rfl fun a26 k26 hn26 => ?_
    refine KV (R_assign rfl) rfl ?_
    refine K_nil ?_
    refine Q_block ?_
    refine Q_then ?_
    refine K_region ?_
    refine KV (R_add rfl rfl (by omega)) rfl ?_
    refine KV (R_move rfl) rfl ?_
    refine K_nil ?_
    refine Q_nextD (i + 1, V1, a26, k26) ⟨hi2, hV.trans hv1⟩ (by (try dsimp only); omega) ⟨rfl, rfl, rfl, trivial⟩ rfl (by dsimp only [joinF]; rw [words_snoc]; rfl) rfl
  ·
    have hi2 : i = n := by omega
    rw [hi2] at hjl hjm hjo ⊢
    refine K_exit ?_
    refine Q_then_exit ?_
    refine Q_then_exit ?_
    refine Q_block_exit ?_
    refine Q_then ?_
    refine K_seq ?_
    refine K_seq ?_
    refine K_region ?_
    refine KV (R_move rfl) rfl ?_
    refine KV (R_cmp rfl rfl rfl) rfl ?_
    refine K_nil ?_
    refine Q_then ?_
    refine K_if rfl (fun h29 => ?_) (fun h29 => ?_)
    ·
      refine K_region ?_
      refine KV (R_move rfl) rfl ?_
      refine KV (R_move rfl) rfl ?_
      refine KV (R_convII (by kernel_rfl) ⟨_, Tryz.underlying62⟩ rfl (r := (((joinF f n).2 : Nat) : Int)) (by rw [IntKind.wrap_u32]; omega)) rfl ?_
      refine KA (A_buildSlice (vs := [.int .u32 ((joinF f n).2 : Int)]) sl2007 ty164 z164 rfl rfl (by simp [Value.cells]) (by simp) rfl (by decide)) rfl fun b33 => ?_
      refine K_append1 0 ap2007 rfl rfl rfl rfl rfl rfl ⟨by omega, by omega⟩ rfl fun a34 k34 hn34 => ?_
      refine KV (R_assign rfl) rfl ?_
      refine K_nil ?_
      refine Q_then ?_
      refine K_seq ?_
      refine K_region ?_
      refine KV (R_move rfl) rfl ?_
      refine KV (R_assign rfl) rfl ?_
      refine K_nil ?_
      refine Q_then ?_
      refine K_ret ?_
      refine results_sel [0] rfl (rs := [.tmp 4]) (vs := [_]) rfl ⟨rfl, trivial⟩ ?_
      have e : joinW f n = (joinF f n).1 ++ [(joinF f n).2] := by unfold joinW; rw [if_pos (by omega)]
      have el : (joinW f n).length = n + 1 := by rw [e, List.length_append, hjl]; rfl
      rw [el, e, words_snoc]
      exact ⟨_, _, rfl, rfl⟩
    ·
      refine K_skip ?_
      refine Q_then ?_
      refine K_seq ?_
      refine K_region ?_
      refine KV (R_move rfl) rfl ?_
      refine KV (R_assign rfl) rfl ?_
      refine K_nil ?_
      refine Q_then ?_
      refine K_ret ?_
      refine results_sel [0] rfl (rs := [.tmp 4]) (vs := [_]) rfl ⟨rfl, trivial⟩ ?_
      have e : joinW f n = (joinF f n).1 := by unfold joinW; rw [if_neg (by omega)]
      rw [e, hjl]
      exact ⟨_, _, rfl, rfl⟩
end Go.Proofs.X

namespace Go.Proofs.X
open Go Pal Go.Proofs
attribute [local irreducible] Pal.KO Pal.KC Pal.KQ Pal.KD
theorem c2062 : callable Tryz.prog F2062 = true := by kernel_rfl
theorem c2063 : callable Tryz.prog F2063 = true := by kernel_rfl
theorem addN_spec (xs ys : List Nat) (v w : Value) (H : View) (hv : UW H v xs) (hw : UW H w ys) (hlx : xs.length ≤ 1048576) (hly : ys.length ≤ 1048576) : Sat Tryz.prog F2035 #[.agg #[v], .agg #[w]] H (fun r H' => ∃ xa k cp, r = .agg #[.slice xa k cp] ∧ RepN H' (.slice xa k cp) (valW xs + valW ys)) := by
  obtain ⟨a, cp, rfl⟩ := hv.shape
  obtain ⟨a2, cp2, rfl⟩ := hw.shape
  have hf : ∀ i c, c ≤ 1 → (addF xs ys i c).1 < 4294967296 ∧ (addF xs ys i c).2 ≤ 1 := by
    intro i c hc
    have hx : xs.getD i 0 < 4294967296 := by
      by_cases h : i < xs.length
      · have := hv.2 _ (List.getElem_mem h); simpa [List.getD, h] using this
      · simp [List.getD, h]
    have hy : ys.getD i 0 < 4294967296 := by
      by_cases h : i < ys.length
      · have := hw.2 _ (List.getElem_mem h); simpa [List.getD, h] using this
      · simp [List.getD, h]
    simp only [addF]
    omega
  refine enterO (n := 15) (args := [.agg #[.slice a xs.length cp], .agg #[.slice a2 ys.length cp2]]) Tryz.func46 rfl rfl rfl fun w0 => ?_
  refine K_seq ?_
  refine K_region ?_
  refine KA (A_box rfl) rfl fun b2 => ?_
  refine KA (A_box rfl) rfl fun b3 => ?_
  refine KA (A_alloc z2009) rfl fun b4 => ?_
  refine K_nil ?_
  refine KQ_front 1 rfl ?_
  refine KQ_pubF fun Va hva hb3 => ?_
  try dsimp only [List.eraseIdx]
  refine KQ_front 1 rfl ?_
  refine KQ_pubF fun U hvb hb2 => ?_
  try dsimp only [List.eraseIdx]
  have hU := hva.trans hvb
  have hA2 := At.of hb2
  have hA3 := (At.of hb3).mono hvb
  refine Q_then ?_
  refine K_seq ?_
  refine K_region ?_
  refine KV (R_fieldAddr 0 fd2009_0 rfl) rfl ?_
  refine KV (R_loadH ty2007 rfl (hA2.one (j := 0) rfl) rfl (fun _ => rfl) rfl) rfl ?_
  refine KV (R_len sl2007 rfl) rfl ?_
  refine KV (R_fieldAddr 0 fd2009_0 rfl) rfl ?_
  refine KV (R_loadH ty2007 rfl (hA3.one (j := 0) rfl) rfl (fun _ => rfl) rfl) rfl ?_
  refine KV (R_len sl2007 rfl) rfl ?_
  refine KV (R_max2 rfl rfl) rfl ?_
  refine KV (R_makeFunc rfl rfl) rfl ?_
  obtain ⟨n, hn, hnx, hny, hn2⟩ : ∃ n : Nat, (if (ys.length : Int) > (xs.length : Int) then (ys.length : Int) else (xs.length : Int)) = (n : Int) ∧ xs.length ≤ n ∧ ys.length ≤ n ∧ n ≤ 1048576 := by
    by_cases h : (ys.length : Int) > (xs.length : Int)
    · exact ⟨ys.length, by rw [if_pos h], by omega, Nat.le_refl _, by omega⟩
    · exact ⟨xs.length, by rw [if_neg h], Nat.le_refl _, by omega, by omega⟩
  rw [hn]
  refine K_callO (first := []) [] [_] (List.Perm.refl _) c2062 rfl rfl rfl (join_spec n 1 F2063 [ptr b2, ptr b3] (addF xs ys) U (by omega) (by decide) hf c2063 (fun H2 i c hle hi hc => addc_spec xs ys i c b2 b3 _ _ H2 (hv.mono (hU.trans hle)) (hw.mono (hU.trans hle)) (hA2.mono hle) (hA3.mono hle) (by omega) hc)) ?_
  rintro _ V1 q hv1 ⟨xa, cq, rfl, rfl⟩
  dsimp only [List.cons_append, List.nil_append]
  refine KO_pubrowF fun V2 hv2 hrow hcap => ?_
  obtain ⟨xa2, cq2, he, hcle⟩ := hcap
  cases he
  have hjw : WordsOk (joinW (addF xs ys) n) := by
    obtain ⟨g1, g2⟩ := joinF_ok hf n
    unfold joinW
    split
    · intro w hw
      rcases List.mem_append.1 hw with hw | hw
      · exact g1 w hw
      · simp at hw; subst hw; omega
    · exact g1
  have hjl : (joinW (addF xs ys) n).length ≤ n + 1 := by
    have := joinF_len (addF xs ys) n
    unfold joinW
    split
    · rw [List.length_append]; simp; omega
    · omega
  refine K_call c2047 rfl rfl (trimW_spec (joinW (addF xs ys) n) _ _ V2 ⟨hrow.sl, hjw⟩ hcle (by omega)) ?_
  rintro _ V3 hv3 ⟨ta, tk, rfl, hN⟩
  rw [joinW_val xs ys n hnx hny] at hN
  refine K_store ty2009 0 rfl rfl rfl rfl rfl rfl ?_
  refine K_nil ?_
  refine Q_then ?_
  refine K_ret ?_
  refine results_gen (rs := [.cell 4 56]) (vs := [_]) rfl ⟨⟨_, _, _, _, _, _, 0, rfl, rfl, ty2009, (fun e => by cases e), rfl, rfl⟩, trivial⟩ ?_
  exact ⟨_, _, _, rfl, hN⟩
end Go.Proofs.X

namespace Go.Proofs.X
open Go Pal Go.Proofs
attribute [local irreducible] Pal.KO Pal.KC Pal.KQ Pal.KD
theorem c2044 : callable Tryz.prog F2044 = true := by kernel_rfl
theorem c2076 : callable Tryz.prog F2076 = true := by kernel_rfl
theorem or_spec (xs : List Int) (b : Nat) (H : View) (hl : xs.length ≤ 1099511627776) : SatO Tryz.prog F2076 #[slc xs.length b] H [blk b (.cells (ints xs).toArray T3 (0, 0))] (fun r _ q => q = [] ∧ r = .int .i64 ((xs.find? fun x => decide (x ≠ 0)).getD 0)) := by
  refine enterO (n := 18) (args := [slc xs.length b]) Tryz.func110 rfl rfl rfl fun w0 => ?_
  refine K_seq ?_
  refine K_region ?_
  refine KV (R_assign rfl) rfl ?_
  refine K_nil ?_
  refine Q_then ?_
  refine K_seq ?_
  refine K_region ?_
  refine KV (R_assign rfl) rfl ?_
  refine K_nil ?_
  refine Q_then ?_
  refine K_seq ?_
  refine K_seq ?_
  refine K_region ?_
  refine KV (R_move rfl) rfl ?_
  refine KV (R_len sl25 rfl) rfl ?_
  refine KV (R_move rfl) rfl ?_
  refine K_nil ?_
  refine Q_then ?_
  refine K_block ?_
  refine K_loopD (G := Nat) [2, 5, 8, 9, 10, 11, 12, 13, 14, 15, 16] (fun g => [(8, .int .i64 (g : Int))]) (fun hl g => hl) (fun g => H) (fun g => (g ≤ xs.length) ∧ (xs.find? (fun x => decide (x ≠ 0)) = (xs.drop g).find? fun x => decide (x ≠ 0))) (fun g => xs.length - g) (0 : Nat) ⟨Nat.zero_le _, rfl⟩ ⟨rfl, trivial⟩ (by simp only [args0, Nat.reduceAdd, del, memN, beqN, Nat.reduceBEq, cond_true, cond_false]; rfl) rfl rfl ?_
  rintro k ⟨hk, hc⟩
  try dsimp only at hk
  try dsimp only at hc
  dsimp only [List.set, List.cons_append, List.nil_append]
  refine K_seq ?_
  refine K_region ?_
  refine KV (R_cmp rfl rfl rfl) rfl ?_
  refine K_nil ?_
  refine Q_then ?_
  refine K_seq ?_
  refine K_if rfl (fun h9 => ?_) (fun h9 => ?_)
  ·
    have hk' : k < xs.length := by omega
    refine K_skip ?_
    refine Q_then ?_
    refine K_seq ?_
    refine K_block ?_
    refine K_seq ?_
    refine K_region ?_
    refine KV (R_indexN sl25 ty3 rfl rfl (by omega)) rfl ?_
    refine KV (R_loadC ty3 0 rfl rfl (by simp [ints, hk'] : ((ints xs).toArray)[(0 + k * 1)]? = some (.int .i64 xs[k]))) rfl ?_
    refine KV (R_assign rfl) rfl ?_
    refine K_nil ?_
    refine Q_then ?_
    refine K_seq ?_
    refine K_region ?_
    refine KV (R_move rfl) rfl ?_
    refine KV (R_move rfl) rfl ?_
    refine KV (R_cmp rfl rfl rfl) rfl ?_
    refine K_nil ?_
    refine Q_then ?_
    refine K_if rfl (fun h14 => ?_) (fun h14 => ?_)
    ·
      refine K_seq ?_
      refine K_region ?_
      refine KV (R_move rfl) rfl ?_
      refine KV (R_assign rfl) rfl ?_
      refine K_nil ?_
      refine Q_then ?_
      refine K_ret ?_
      refine Q_block_ret ?_
      refine Q_then_ret ?_
      refine Q_then_ret ?_
      refine Q_block_ret ?_
      refine Q_then_ret ?_
      refine results_sel [] rfl (rs := [.tmp 2]) (vs := [_]) rfl ⟨rfl, trivial⟩ ?_
      rw [hc, List.drop_eq_getElem_cons hk', List.find?_cons_of_pos (by simpa using h14)]
      exact ⟨rfl, rfl⟩
    ·
      have hc2 : xs.find? (fun x => decide (x ≠ 0)) = (xs.drop (k + 1)).find? fun x => decide (x ≠ 0) := by
        rw [hc, List.drop_eq_getElem_cons hk', List.find?_cons_of_neg (by simpa using h14)]
      refine K_skip ?_
      refine Q_block ?_
      refine Q_then ?_
      refine K_region ?_
      refine KV (R_add rfl rfl (by omega)) rfl ?_
      refine KV (R_move rfl) rfl ?_
      refine K_nil ?_
      refine Q_nextD ((k + 1)) ⟨hk', hc2⟩ (by (try dsimp only); omega) ⟨rfl, trivial⟩ rfl rfl rfl
  ·
    have hk' : k = xs.length := by omega
    refine K_exit ?_
    refine Q_then_exit ?_
    refine Q_then_exit ?_
    refine Q_block_exit ?_
    refine Q_then ?_
    refine K_seq ?_
    refine K_region ?_
    refine KV (R_move rfl) rfl ?_
    refine KV (R_assign rfl) rfl ?_
    refine K_nil ?_
    refine Q_then ?_
    refine K_ret ?_
    refine results_sel [] rfl (rs := [.tmp 2]) (vs := [_]) rfl ⟨rfl, trivial⟩ ?_
    rw [hc, hk', List.drop_length]
    exact ⟨rfl, rfl⟩

theorem order_spec (r s : Rl) (a a2 : Option Addr) (cp cp2 : Nat) (H : View) (hr : SI H (.slice a r.args.length cp) r.args) (hs : SI H (.slice a2 s.args.length cp2) s.args) (hrl : r.args.length ≤ 1099511627776) (hsl : s.args.length ≤ 1099511627776) :
    Sat Tryz.prog F2050 #[.agg #[.int .i64 r.sym, .slice a r.args.length cp, .int .i64 r.to], .agg #[.int .i64 s.sym, .slice a2 s.args.length cp2, .int .i64 s.to]] H (fun v _ => v = .int .i64 (ordR r s)) := by
  refine enterO (n := 22) (args := [.agg #[.int .i64 r.sym, .slice a r.args.length cp, .int .i64 r.to], .agg #[.int .i64 s.sym, .slice a2 s.args.length cp2, .int .i64 s.to]]) Tryz.func75 rfl rfl rfl fun w0 => ?_
  refine K_seq ?_
  refine K_region ?_
  refine KA (A_box rfl) rfl fun b2 => ?_
  refine KA (A_box rfl) rfl fun b3 => ?_
  refine KV (R_assign rfl) rfl ?_
  refine K_nil ?_
  refine Q_then ?_
  refine K_seq ?_
  refine K_regionD (fin := false) (R := [0, 1, 2, 3, 5, 6, 7, 8, 10, 11, 12, 13, 4, 9, 14, 15, 16, 17]) (by kernel_rfl) mixed (.cons_cons _ (.cons_cons _ (List.nil_sublist _))) ?_
  refine D_val rfl rfl rfl (R_fieldAddr 0 fd85_0 rfl) ?_
  refine D_val rfl rfl rfl (R_loadO ty3 1 rfl rfl rfl rfl (fun _ => rfl) rfl) ?_
  refine D_val rfl rfl rfl (R_fieldAddr 0 fd85_0 rfl) ?_
  refine D_val rfl rfl rfl (R_loadO ty3 0 rfl rfl rfl rfl (fun _ => rfl) rfl) ?_
  refine D_val rfl rfl rfl (R_fieldAddr 1 fd85_1 rfl) ?_
  refine D_val rfl rfl rfl (R_loadO ty25 1 rfl rfl rfl rfl (fun _ => rfl) rfl) ?_
  refine D_val rfl rfl rfl (R_fieldAddr 1 fd85_1 rfl) ?_
  refine D_val rfl rfl rfl (R_loadO ty25 0 rfl rfl rfl rfl (fun _ => rfl) rfl) ?_
  refine D_val rfl rfl rfl (R_fieldAddr 2 fd85_2 rfl) ?_
  refine D_val rfl rfl rfl (R_loadO ty3 1 rfl rfl rfl rfl (fun _ => rfl) rfl) ?_
  refine D_val rfl rfl rfl (R_fieldAddr 2 fd85_2 rfl) ?_
  refine D_val rfl rfl rfl (R_loadO ty3 0 rfl rfl rfl rfl (fun _ => rfl) rfl) ?_
  refine D_call rfl rfl c2071 rfl ⟨⟨0, rfl⟩, ⟨1, rfl⟩, trivial⟩ (ccmp_spec r.sym s.sym H) ?_
  rintro _ V1 hv1 rfl
  refine D_call rfl rfl c2044 rfl ⟨⟨0, rfl⟩, ⟨1, rfl⟩, trivial⟩ (compareI_spec r.args s.args _ _ V1 (hr.mono hv1) (hs.mono hv1) hrl hsl) ?_
  rintro _ V2 hv2 rfl
  refine D_call rfl rfl c2071 rfl ⟨⟨0, rfl⟩, ⟨1, rfl⟩, trivial⟩ (ccmp_spec r.to s.to V2) ?_
  rintro _ V3 hv3 rfl
  refine D_alloc rfl rfl rfl (A_buildSlice (vs := [.int .i64 (if r.sym < s.sym then -1 else if s.sym < r.sym then 1 else 0), .int .i64 (cmpL r.args s.args), .int .i64 (if r.to < s.to then -1 else if s.to < r.to then 1 else 0)]) sl25 ty3 z3 rfl rfl (by simp [Value.cells]) (by simp) rfl (by decide)) fun b20 => ?_
  refine D_callO (first := []) [_] _ rfl rfl c2076 rfl rfl (List.Perm.refl _) ⟨⟨0, rfl⟩, ⟨1, rfl⟩, trivial⟩ (or_spec [(if r.sym < s.sym then -1 else if s.sym < r.sym then 1 else 0), cmpL r.args s.args, (if r.to < s.to then -1 else if s.to < r.to then 1 else 0)] b20 V3 (by simp)) ?_
  rintro _ V4 q hle4 ⟨rfl, rfl⟩
  dsimp only [List.nil_append]
  refine D_val rfl rfl rfl (R_assign rfl) ?_
  refine D_done ?_
  refine Q_then ?_
  refine K_ret ?_
  refine results_gen (rs := [.tmp 4]) (vs := [_]) rfl ⟨rfl, trivial⟩ ?_
  refine congrArg (Value.int .i64) ?_
  unfold ordR
  by_cases h1 : r.sym < s.sym
  · simp [h1]
  · by_cases h2 : s.sym < r.sym
    · simp [h1, h2]
    · by_cases h3 : cmpL r.args s.args = 0
      · by_cases h4 : r.to < s.to
        · simp [h1, h2, h3, h4]
        · by_cases h5 : s.to < r.to
          · simp [h1, h2, h3, h4, h5]
          · simp [h1, h2, h3, h4, h5]
      · simp [h1, h2, h3]
end Go.Proofs.X
