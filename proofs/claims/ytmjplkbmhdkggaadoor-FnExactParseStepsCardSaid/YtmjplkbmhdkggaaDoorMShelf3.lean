/- Contracts of strconv.ParseInt, strconv.FormatInt, strings.Split, as the kit lays them (a part of what it lays). No conditions. -/
import Derived.Shelf.LaysM
import Derived.Shelf.Strconv.Itoa4
import Derived.Shelf.Strconv.ParseIntPublic10
import Derived.Shelf.Strconv.ErrVarParseInt
import Derived.Shelf.Strings.Split
import Derived.Test.YtmjplkbmhdkggaaDoorProg
import Derived.Lib.AppendIntMem
import Derived.Lib.AtoiErrMem
import Derived.Lib.ParseIntBTie
import Derived.Shelf.Vars
import Derived.Stop.LaidErr
import Derived.Lib.LaidTab
import Derived.HandedShaped
import Derived.MakeChecks
import Derived.Test.YtmjplkbmhdkggaaDoorMStxI
namespace Go.Proofs
open Go.Shelf
def Tryd.laysM173_ren : Go.Shelf.Ren := ⟨fun | 173 => 29 | 246 => 35 | 283 => 42 | 284 => 43 | 285 => 44 | 286 => 45 | 129 => 55 | 317 => 54 | 318 => 56 | 319 => 57 | 320 => 58 | 337 => 69 | 338 => 70 | n => n, fun | 2 => 2 | 3 => 3 | 9 => 9 | 4 => 4 | 171 => 71 | 0 => 0 | 53 => 72 | 37 => 55 | 5 => 5 | 173 => 75 | 212 => 87 | 51 => 88 | 20 => 20 | 213 => 89 | 46 => 91 | 232 => 111 | 233 => 112 | n => n, fun | 17 => 0 | 18 => 6 | 19 => 7 | n => n⟩
theorem Tryd.laysM173 : Go.Proofs.LaysM.n173 Tryd.prog Tryd.laysM173_ren := {
 mixed := by kernel_rfl
 f129 := Tryd.func55.trans (congrArg some (by kernel_rfl))
 f173 := Tryd.func29.trans (congrArg some (by kernel_rfl))
 f246 := Tryd.func35.trans (congrArg some (by kernel_rfl))
 f283 := Tryd.func42.trans (congrArg some (by kernel_rfl))
 f284 := Tryd.func43.trans (congrArg some (by kernel_rfl))
 f285 := Tryd.func44.trans (congrArg some (by kernel_rfl))
 f286 := Tryd.func45.trans (congrArg some (by kernel_rfl))
 f317 := Tryd.func54.trans (congrArg some (by kernel_rfl))
 f318 := Tryd.func56.trans (congrArg some (by kernel_rfl))
 f319 := Tryd.func57.trans (congrArg some (by kernel_rfl))
 f320 := Tryd.func58.trans (congrArg some (by kernel_rfl))
 f337 := Tryd.func69.trans (congrArg some (by kernel_rfl))
 f338 := Tryd.func70.trans (congrArg some (by kernel_rfl))
 t0 := Tryd.underlying0
 a0 := Tryd.isAgg0
 z0 := Tryd.sizeOf0
 v0 := Tryd.zeroValue0
 t2 := Tryd.underlying2
 a2 := Tryd.isAgg2
 z2 := Tryd.sizeOf2
 v2 := Tryd.zeroValue2
 t3 := Tryd.underlying3
 a3 := Tryd.isAgg3
 z3 := Tryd.sizeOf3
 v3 := Tryd.zeroValue3
 t4 := Tryd.underlying4
 a4 := Tryd.isAgg4
 z4 := Tryd.sizeOf4
 v4 := Tryd.zeroValue4
 t5 := Tryd.underlying5
 a5 := Tryd.isAgg5
 z5 := Tryd.sizeOf5
 v5 := Tryd.zeroValue5
 t9 := Tryd.underlying9
 a9 := Tryd.isAgg9
 z9 := Tryd.sizeOf9
 v9 := Tryd.zeroValue9
 t20 := Tryd.underlying20
 a20 := Tryd.isAgg20
 z20 := Tryd.sizeOf20
 v20 := Tryd.zeroValue20
 t37 := Tryd.underlying55
 a37 := Tryd.isAgg55
 z37 := Tryd.sizeOf55
 v37 := Tryd.zeroValue55
 t46 := Tryd.underlying91
 a46 := Tryd.isAgg91
 z46 := Tryd.sizeOf91
 v46 := Tryd.zeroValue91
 t51 := Tryd.underlying88
 a51 := Tryd.isAgg88
 z51 := Tryd.sizeOf88
 v51 := Tryd.zeroValue88
 t53 := Tryd.underlying72
 a53 := Tryd.isAgg72
 z53 := Tryd.sizeOf72
 v53 := Tryd.zeroValue72
 t171 := Tryd.underlying71
 a171 := Tryd.isAgg71
 z171 := Tryd.sizeOf71
 v171 := Tryd.zeroValue71
 t173 := Tryd.underlying75
 a173 := Tryd.isAgg75
 z173 := Tryd.sizeOf75
 v173 := Tryd.zeroValue75
 t212 := Tryd.underlying87
 a212 := Tryd.isAgg87
 z212 := Tryd.sizeOf87
 v212 := Tryd.zeroValue87
 t213 := Tryd.underlying89
 a213 := Tryd.isAgg89
 z213 := Tryd.sizeOf89
 t232 := Tryd.underlying111
 a232 := Tryd.isAgg111
 z232 := Tryd.sizeOf111
 v232 := Tryd.zeroValue111
 t233 := Tryd.underlying112
 a233 := Tryd.isAgg112
 z233 := Tryd.sizeOf112
 v233 := Tryd.zeroValue112
 g17 := by kernel_rfl
 g18 := by kernel_rfl
 g19 := by kernel_rfl
 i0 := by kernel_rfl
 i2 := by kernel_rfl
 i3 := by kernel_rfl
 i4 := by kernel_rfl
 i5 := by kernel_rfl
 i9 := by kernel_rfl
 i20 := by kernel_rfl
 i37 := by kernel_rfl
 i46 := by kernel_rfl
 i51 := by kernel_rfl
 i53 := by kernel_rfl
 i171 := by kernel_rfl
 i173 := by kernel_rfl
 i212 := by kernel_rfl
 i232 := by kernel_rfl
 i233 := by kernel_rfl
 m17 := by kernel_rfl
 m18 := by kernel_rfl
 m19 := by kernel_rfl }
open Go.RowKit Go.Sort Go.Lib in
/-- strconv.FormatInt: "FormatInt returns the string representation of i in the given base": AT BASE 10: i's decimal numeral, for every int64. (LAID: no walk: one application.) -/
theorem Tryd.strconv_FormatInt_10 (n : Int) (h0 : -9223372036854775808 ≤ n) (h1 : n ≤ 9223372036854775807) (w : World) (htab : Lib.TabIs Tryd.prog w "internal/strconv.uint64pow10" .u64 Lib.pow10Tab) :
  Calls Tryd.prog 29 #[.int .i64 n, .int .i64 10] w fun e w' => e = .returned (.string ⟨(Lib.itoa n).toArray⟩) ∧ ∃ k os, w' = grow (w.drewN k) os := Any.strconv_FormatInt_10 Tryd.laysM173 n h0 h1 w htab
def Tryd.laysC174_ren : Go.Shelf.Ren := ⟨fun | 174 => 41 | 247 => 52 | 245 => 53 | 287 => 64 | 279 => 65 | 280 => 66 | 281 => 67 | 282 => 68 | 321 => 73 | 322 => 74 | 316 => 75 | 171 => 77 | 205 => 76 | 243 => 78 | 246 => 35 | 283 => 42 | 284 => 43 | 285 => 44 | 286 => 45 | 129 => 55 | 317 => 54 | 318 => 56 | 319 => 57 | 320 => 58 | 337 => 69 | 338 => 70 | n => n, fun | 9 => 9 | 3 => 3 | 2 => 2 | 75 => 60 | 85 => 68 | 4 => 4 | 167 => 93 | 5 => 5 | 53 => 72 | 175 => 94 | 46 => 91 | 168 => 96 | 37 => 55 | 0 => 0 | 210 => 109 | 21 => 21 | 127 => 65 | 145 => 115 | 143 => 113 | 171 => 71 | 173 => 75 | 212 => 87 | 51 => 88 | 20 => 20 | 213 => 89 | 232 => 111 | 233 => 112 | 80 => 63 | n => n, fun | 15 => 4 | 16 => 5 | 17 => 0 | 18 => 6 | 19 => 7 | n => n⟩
theorem Tryd.laysC174 : Go.Proofs.LaysC.n174 Tryd.prog Tryd.laysC174_ren := {
 mixed := by kernel_rfl
 f129 := Tryd.func55.trans (congrArg some (by kernel_rfl))
 f171 := Tryd.func77.trans (congrArg some (by kernel_rfl))
 f174 := Tryd.func41.trans (congrArg some (by kernel_rfl))
 f205 := Tryd.func76.trans (congrArg some (by kernel_rfl))
 f243 := Tryd.func78.trans (congrArg some (by kernel_rfl))
 f245 := Tryd.func53.trans (congrArg some (by kernel_rfl))
 f246 := Tryd.func35.trans (congrArg some (by kernel_rfl))
 f247 := Tryd.func52.trans (congrArg some (by kernel_rfl))
 f279 := Tryd.func65.trans (congrArg some (by kernel_rfl))
 f280 := Tryd.func66.trans (congrArg some (by kernel_rfl))
 f281 := Tryd.func67.trans (congrArg some (by kernel_rfl))
 f282 := Tryd.func68.trans (congrArg some (by kernel_rfl))
 f283 := Tryd.func42.trans (congrArg some (by kernel_rfl))
 f284 := Tryd.func43.trans (congrArg some (by kernel_rfl))
 f285 := Tryd.func44.trans (congrArg some (by kernel_rfl))
 f286 := Tryd.func45.trans (congrArg some (by kernel_rfl))
 f287 := Tryd.func64.trans (congrArg some (by kernel_rfl))
 f316 := Tryd.func75.trans (congrArg some (by kernel_rfl))
 f317 := Tryd.func54.trans (congrArg some (by kernel_rfl))
 f318 := Tryd.func56.trans (congrArg some (by kernel_rfl))
 f319 := Tryd.func57.trans (congrArg some (by kernel_rfl))
 f320 := Tryd.func58.trans (congrArg some (by kernel_rfl))
 f321 := Tryd.func73.trans (congrArg some (by kernel_rfl))
 f322 := Tryd.func74.trans (congrArg some (by kernel_rfl))
 f337 := Tryd.func69.trans (congrArg some (by kernel_rfl))
 f338 := Tryd.func70.trans (congrArg some (by kernel_rfl))
 t0 := Tryd.underlying0
 a0 := Tryd.isAgg0
 z0 := Tryd.sizeOf0
 v0 := Tryd.zeroValue0
 t2 := Tryd.underlying2
 a2 := Tryd.isAgg2
 z2 := Tryd.sizeOf2
 v2 := Tryd.zeroValue2
 t3 := Tryd.underlying3
 a3 := Tryd.isAgg3
 z3 := Tryd.sizeOf3
 v3 := Tryd.zeroValue3
 t4 := Tryd.underlying4
 a4 := Tryd.isAgg4
 z4 := Tryd.sizeOf4
 v4 := Tryd.zeroValue4
 t5 := Tryd.underlying5
 a5 := Tryd.isAgg5
 z5 := Tryd.sizeOf5
 v5 := Tryd.zeroValue5
 t9 := Tryd.underlying9
 a9 := Tryd.isAgg9
 z9 := Tryd.sizeOf9
 v9 := Tryd.zeroValue9
 t20 := Tryd.underlying20
 a20 := Tryd.isAgg20
 z20 := Tryd.sizeOf20
 v20 := Tryd.zeroValue20
 t21 := Tryd.underlying21
 a21 := Tryd.isAgg21
 z21 := Tryd.sizeOf21
 v21 := Tryd.zeroValue21
 t37 := Tryd.underlying55
 a37 := Tryd.isAgg55
 z37 := Tryd.sizeOf55
 v37 := Tryd.zeroValue55
 t46 := Tryd.underlying91
 a46 := Tryd.isAgg91
 z46 := Tryd.sizeOf91
 v46 := Tryd.zeroValue91
 t51 := Tryd.underlying88
 a51 := Tryd.isAgg88
 z51 := Tryd.sizeOf88
 v51 := Tryd.zeroValue88
 t53 := Tryd.underlying72
 a53 := Tryd.isAgg72
 z53 := Tryd.sizeOf72
 v53 := Tryd.zeroValue72
 t75 := Tryd.underlying60
 a75 := Tryd.isAgg60
 z75 := Tryd.sizeOf60
 v75 := Tryd.zeroValue60
 t85 := Tryd.underlying68
 a85 := Tryd.isAgg68
 z85 := Tryd.sizeOf68
 v85 := Tryd.zeroValue68
 t127 := Tryd.underlying65
 a127 := Tryd.isAgg65
 z127 := Tryd.sizeOf65
 v127 := Tryd.zeroValue65
 t143 := Tryd.underlying113
 a143 := Tryd.isAgg113
 z143 := Tryd.sizeOf113
 v143 := Tryd.zeroValue113
 t145 := Tryd.underlying115
 a145 := Tryd.isAgg115
 z145 := Tryd.sizeOf115
 v145 := Tryd.zeroValue115
 t167 := Tryd.underlying93
 a167 := Tryd.isAgg93
 z167 := Tryd.sizeOf93
 v167 := Tryd.zeroValue93
 t168 := Tryd.underlying96
 a168 := Tryd.isAgg96
 z168 := Tryd.sizeOf96
 v168 := Tryd.zeroValue96
 t171 := Tryd.underlying71
 a171 := Tryd.isAgg71
 z171 := Tryd.sizeOf71
 v171 := Tryd.zeroValue71
 t173 := Tryd.underlying75
 a173 := Tryd.isAgg75
 z173 := Tryd.sizeOf75
 v173 := Tryd.zeroValue75
 t175 := Tryd.underlying94
 a175 := Tryd.isAgg94
 z175 := Tryd.sizeOf94
 v175 := Tryd.zeroValue94
 t210 := Tryd.underlying109
 a210 := Tryd.isAgg109
 z210 := Tryd.sizeOf109
 v210 := Tryd.zeroValue109
 t212 := Tryd.underlying87
 a212 := Tryd.isAgg87
 z212 := Tryd.sizeOf87
 v212 := Tryd.zeroValue87
 t213 := Tryd.underlying89
 a213 := Tryd.isAgg89
 z213 := Tryd.sizeOf89
 t232 := Tryd.underlying111
 a232 := Tryd.isAgg111
 z232 := Tryd.sizeOf111
 v232 := Tryd.zeroValue111
 t233 := Tryd.underlying112
 a233 := Tryd.isAgg112
 z233 := Tryd.sizeOf112
 v233 := Tryd.zeroValue112
 g15 := by kernel_rfl
 g16 := by kernel_rfl
 g17 := by kernel_rfl
 g18 := by kernel_rfl
 g19 := by kernel_rfl
 t80 := Tryd.underlying63
 a80 := Tryd.isAgg63
 z80 := Tryd.sizeOf63
 v80 := Tryd.zeroValue63
 i0 := by kernel_rfl
 i2 := by kernel_rfl
 i3 := by kernel_rfl
 i4 := by kernel_rfl
 i5 := by kernel_rfl
 i9 := by kernel_rfl
 i20 := by kernel_rfl
 i21 := by kernel_rfl
 i37 := by kernel_rfl
 i46 := by kernel_rfl
 i51 := by kernel_rfl
 i53 := by kernel_rfl
 i75 := by kernel_rfl
 i80 := by kernel_rfl
 i85 := by kernel_rfl
 i127 := by kernel_rfl
 i143 := by kernel_rfl
 i145 := by kernel_rfl
 i167 := by kernel_rfl
 i168 := by kernel_rfl
 i171 := by kernel_rfl
 i173 := by kernel_rfl
 i175 := by kernel_rfl
 i210 := by kernel_rfl
 i212 := by kernel_rfl
 i232 := by kernel_rfl
 i233 := by kernel_rfl
 m15 := by kernel_rfl
 m16 := by kernel_rfl
 m17 := by kernel_rfl
 m18 := by kernel_rfl
 m19 := by kernel_rfl
 c0 := by kernel_rfl
 c2 := by kernel_rfl
 c3 := by kernel_rfl
 c4 := by kernel_rfl
 c5 := by kernel_rfl
 c9 := by kernel_rfl
 c20 := by kernel_rfl
 c21 := by kernel_rfl
 c37 := by kernel_rfl
 c46 := by kernel_rfl
 c51 := by kernel_rfl
 c53 := by kernel_rfl
 c75 := by kernel_rfl
 c80 := by kernel_rfl
 c85 := by kernel_rfl
 c127 := by kernel_rfl
 c143 := by kernel_rfl
 c145 := by kernel_rfl
 c167 := by kernel_rfl
 c168 := by kernel_rfl
 c171 := by kernel_rfl
 c173 := by kernel_rfl
 c175 := by kernel_rfl
 c210 := by kernel_rfl
 c212 := by kernel_rfl
 c213 := by kernel_rfl
 c232 := by kernel_rfl
 c233 := by kernel_rfl }
open Go.RowKit in
open Go.RowKit in
open Go.RowKit in
open Go.RowKit in
/-- strconv.ParseInt(s, 10, 64), AT EVERY STRING THAT SPELLS AN int64 ('Lib.parseIntB 64 s.data.toList = .ok v'): v, AND NO ERROR. (LAID: no walk: one application.) -/
theorem Tryd.strconv_ParseInt_10_at64_ok (s : ByteArray) (hmax : s.size ≤ 9223372036854775806) (v : Int) (h : Lib.parseIntB 64 s.data.toList = .ok v) (w : World) :
  Calls Tryd.prog 41 #[.string s, .int .i64 10, .int .i64 64] w fun e w' => e = .returned (.tuple #[.int .i64 v, .nilIface]) ∧ (w' = w ∨ ∃ t, w' = Lib.bytesWorld w 5 t) := Any.strconv_ParseInt_10_at64_ok Tryd.laysC174 s hmax v h w
open Go.RowKit in
open Go.RowKit in
open Go.RowKit in
open Go.RowKit in
open Go.RowKit in
open Go.RowKit in
open Go.RowKit in
open Go.RowKit in
open Go.RowKit in
open Go.RowKit in
open Go.RowKit in
open Go.RowKit in
open Go.RowKit in
open Go.RowKit in
theorem Tryd.strconv_ParseInt_10_at64_syntax_var (s : ByteArray) (hlim : s.size ≤ 281474976710656) (h : Lib.parseIntB 64 s.data.toList = .«syntax») (tp : TypeId) (p : Value) (w : World) (hvar : w.var? Tryd.prog "strconv.ErrSyntax" = some #[.iface tp p]) :
  Calls Tryd.prog 41 #[.string s, .int .i64 10, .int .i64 64] w fun e w' => ∃ N, e = .returned (.tuple #[.int .i64 (0), .iface 96 (.pointer (some ⟨N, 0, none⟩))]) ∧ w.heap.size ≤ N ∧ w'.heap[N]? = some (.cells #[.string ⟨#[80, 97, 114, 115, 101, 73, 110, 116]⟩, .string s, .iface tp p] 109 (0, 0)) ∧ Below w.heap.size w w' := Any.strconv_ParseInt_10_at64_syntax_var Tryd.laysC174 s hlim h tp p w hvar
open Go.RowKit in
theorem Tryd.strconv_ParseInt_10_at64_range_var (s : ByteArray) (hlim : s.size ≤ 281474976710656) (h : Lib.parseIntB 64 s.data.toList = .range) (tp : TypeId) (p : Value) (w : World) (hvar : w.var? Tryd.prog "strconv.ErrRange" = some #[.iface tp p]) :
  Calls Tryd.prog 41 #[.string s, .int .i64 10, .int .i64 64] w fun e w' => ∃ N, e = .returned (.tuple #[.int .i64 (Lib.intSat 64 s.data.toList), .iface 96 (.pointer (some ⟨N, 0, none⟩))]) ∧ w.heap.size ≤ N ∧ w'.heap[N]? = some (.cells #[.string ⟨#[80, 97, 114, 115, 101, 73, 110, 116]⟩, .string s, .iface tp p] 109 (0, 0)) ∧ Below w.heap.size w w' := Any.strconv_ParseInt_10_at64_range_var Tryd.laysC174 s hlim h tp p w hvar
open Go.RowKit in
open Go.RowKit in
open Go.RowKit in
open Go.RowKit in
open Go.RowKit in
open Go.RowKit in
def Tryd.lays146_ren : Go.Shelf.Ren := ⟨fun | 146 => 24 | 221 => 33 | 268 => 38 | 138 => 39 | 143 => 40 | 195 => 48 | 197 => 49 | 218 => 50 | 219 => 51 | 260 => 59 | 217 => 60 | 225 => 61 | 224 => 62 | 267 => 63 | 266 => 71 | 314 => 72 | n => n, fun | 9 => 9 | 31 => 40 | 3 => 3 | 4 => 4 | 0 => 0 | 105 => 81 | 21 => 21 | 5 => 5 | 46 => 91 | 119 => 100 | 139 => 103 | 138 => 102 | 146 => 104 | 51 => 88 | n => n, fun | 1 => 1 | 3 => 2 | 4 => 3 | n => n⟩
theorem Tryd.lays146 : Go.Proofs.Lays.n146 Tryd.prog Tryd.lays146_ren := {
 mixed := by kernel_rfl
 f138 := Tryd.func39.trans (congrArg some (by kernel_rfl))
 f143 := Tryd.func40.trans (congrArg some (by kernel_rfl))
 f146 := Tryd.func24.trans (congrArg some (by kernel_rfl))
 f195 := Tryd.func48.trans (congrArg some (by kernel_rfl))
 f197 := Tryd.func49.trans (congrArg some (by kernel_rfl))
 f217 := Tryd.func60.trans (congrArg some (by kernel_rfl))
 f218 := Tryd.func50.trans (congrArg some (by kernel_rfl))
 f219 := Tryd.func51.trans (congrArg some (by kernel_rfl))
 f221 := Tryd.func33.trans (congrArg some (by kernel_rfl))
 f224 := Tryd.func62.trans (congrArg some (by kernel_rfl))
 f225 := Tryd.func61.trans (congrArg some (by kernel_rfl))
 f260 := Tryd.func59.trans (congrArg some (by kernel_rfl))
 f266 := Tryd.func71.trans (congrArg some (by kernel_rfl))
 f267 := Tryd.func63.trans (congrArg some (by kernel_rfl))
 f268 := Tryd.func38.trans (congrArg some (by kernel_rfl))
 f314 := Tryd.func72.trans (congrArg some (by kernel_rfl))
 t0 := Tryd.underlying0
 a0 := Tryd.isAgg0
 z0 := Tryd.sizeOf0
 v0 := Tryd.zeroValue0
 t3 := Tryd.underlying3
 a3 := Tryd.isAgg3
 z3 := Tryd.sizeOf3
 v3 := Tryd.zeroValue3
 t4 := Tryd.underlying4
 a4 := Tryd.isAgg4
 z4 := Tryd.sizeOf4
 v4 := Tryd.zeroValue4
 t5 := Tryd.underlying5
 a5 := Tryd.isAgg5
 z5 := Tryd.sizeOf5
 v5 := Tryd.zeroValue5
 t9 := Tryd.underlying9
 a9 := Tryd.isAgg9
 z9 := Tryd.sizeOf9
 v9 := Tryd.zeroValue9
 t21 := Tryd.underlying21
 a21 := Tryd.isAgg21
 z21 := Tryd.sizeOf21
 v21 := Tryd.zeroValue21
 t31 := Tryd.underlying40
 a31 := Tryd.isAgg40
 z31 := Tryd.sizeOf40
 v31 := Tryd.zeroValue40
 t46 := Tryd.underlying91
 a46 := Tryd.isAgg91
 z46 := Tryd.sizeOf91
 v46 := Tryd.zeroValue91
 t51 := Tryd.underlying88
 a51 := Tryd.isAgg88
 z51 := Tryd.sizeOf88
 v51 := Tryd.zeroValue88
 t105 := Tryd.underlying81
 a105 := Tryd.isAgg81
 z105 := Tryd.sizeOf81
 v105 := Tryd.zeroValue81
 t119 := Tryd.underlying100
 a119 := Tryd.isAgg100
 z119 := Tryd.sizeOf100
 t138 := Tryd.underlying102
 a138 := Tryd.isAgg102
 z138 := Tryd.sizeOf102
 v138 := Tryd.zeroValue102
 t139 := Tryd.underlying103
 a139 := Tryd.isAgg103
 z139 := Tryd.sizeOf103
 v139 := Tryd.zeroValue103
 t146 := Tryd.underlying104
 a146 := Tryd.isAgg104
 z146 := Tryd.sizeOf104
 v146 := Tryd.zeroValue104
 g1 := by kernel_rfl
 g3 := by kernel_rfl
 g4 := by kernel_rfl }
open Go.RowKit Go.Lib in
/-- strings.Split. (LAID: no walk: one application.) -/
theorem Tryd.strings_Split (s sep : ByteArray) (m : Int) (w : World) (hs : s.size < 4294967281) (hm : w.cell? ⟨1, 0, none⟩ = some (.int .i64 m)) (h1 : 1 ≤ sep.size) :
  Calls Tryd.prog 24 #[.string s, .string sep] w fun e w' =>
   e = .returned (.slice (some ⟨w.heap.size, 0, none⟩) (Lib.countB s sep + 1) (Lib.countB s sep + 1)) ∧ w' = w.alloc (.cells ((Lib.splitB sep 0 (Lib.countB s sep) s).map Value.string).toArray 9) := Any.strings_Split Tryd.lays146 (by kernel_rfl) s sep m w hs hm h1
end Go.Proofs
namespace Go.Proofs.YtmjplkbmhdkggaaDoor
open Go.RowKit
set_option linter.unusedVariables false
set_option linter.unusedSimpArgs false
/-- What the library's variables hold. -/
structure Env (w : World) : Prop where
 tab : Lib.TabIs Tryd.prog w "internal/strconv.uint64pow10" .u64 Lib.pow10Tab
 es : ∃ tp p, w.var? Tryd.prog "strconv.ErrSyntax" = some #[.iface tp p]
 er : ∃ tp p, w.var? Tryd.prog "strconv.ErrRange" = some #[.iface tp p]
 ml : ∃ m, w.var? Tryd.prog "internal/bytealg.MaxLen" = some #[.int .i64 m]
theorem var_below {P : Program} {n : String} {w w' : World} {cs : Array Value} (h : w.var? P n = some cs) (hb : Below w.heap.size w w') : w'.var? P n = some cs := by
 unfold World.var? at h ⊢
 cases hg : P.globalNamed n with
 | none => rw [hg] at h; cases h
 | some g =>
   rw [hg] at h
   simp only [Option.bind_some] at h ⊢
   have hlt : g < w.heap.size := by
    rcases Nat.lt_or_ge g w.heap.size with h' | h'
    ·exact h'
    ·rw [Array.getElem?_eq_none h'] at h; cases h
   rw [hb.block g hlt]
   exact h
theorem Env.below {w w' : World} (h : Env w) (hb : Below w.heap.size w w') : Env w' :=
 ⟨var_below h.tab hb, h.es.imp fun _ => Exists.imp fun _ h => var_below h hb, h.er.imp fun _ => Exists.imp fun _ h => var_below h hb, h.ml.imp fun _ h => var_below h hb⟩
theorem text_all (n : Int) (h0 : -9223372036854775808 ≤ n) (h1 : n ≤ 9223372036854775807) (w : World) (hE : Env w) :
  Calls Tryd.prog 19 #[.int .i64 n] w fun e w' => e = .returned (.string (bs (Lib.itoa n))) ∧ Below w.heap.size w w' := by
 have hc := Go.Proofs.Tryd.strconv_FormatInt_10 n h0 h1 w hE.tab
 have HC := Lib.hid hc; clear hc
 go_enter Tryd.func19, Tryd.ntmps19
 go_wp2_with fail
 refine HC.out.mono ?_
 rintro e' w2 ⟨rfl, k, os, hw⟩
 have hb : Below w.heap.size w w2 := by rw [hw]; exact Lib.below_grow w.heap.size w (Nat.le_refl _) k os
 clear hw
 go_wp2_with fail
 go_ret
 exact ⟨rfl, hb⟩
set_option maxRecDepth 100000 in
set_option maxHeartbeats 1000000 in
theorem number_any (l : List UInt8) (W : World) (hl : l.length ≤ 1048576) (hE : Env W) :
  Calls Tryd.prog 34 #[.string (bs l)] W fun e' w' => ∃ n, e' = .returned (.tuple #[.int .i64 n, .bool (numI l).1]) ∧ ((numI l).1 = true → n = (numI l).2) ∧ Below W.heap.size W w' := by
 have hd : (bs l).data.toList = l := bs_data l
 have hz : (bs l).size = l.length := bs_size l
 cases hp : Lib.parseIntB 64 l with
 | ok v =>
   have hb := Lib.parseIntB_bounds hp
   have hc := Go.Proofs.Tryd.strconv_ParseInt_10_at64_ok (bs l) (by omega) v (by rw [hd]; exact hp) W
   have hn : numI l = (decide (Lib.itoa v = l), v) := by unfold numI; rw [hp]
   rw [← str_eq] at hn
   have H := Lib.hid (And.intro hc (And.intro hn (And.intro hb hE))); clear hc hn hb hE hp hd
   go_enter Tryd.func34, Tryd.ntmps34
   go_wp2_with fail
   refine H.out.1.mono ?_
   rintro e' w2 ⟨rfl, hw⟩
   have hb2 : Below W.heap.size W w2 := by
    rcases hw with rfl | ⟨t, rfl⟩
    ·exact Below.refl _ _
    ·exact Lib.bytesWorld_below _ _ _
   clear hw
   go_wp2_with fail
   refine (text_all v (by have := H.out.2.2.1.1; omega) (by have := H.out.2.2.1.2; omega) _ (H.out.2.2.2.below hb2)).mono ?_
   rintro e' w3 ⟨rfl, hb3⟩
   go_wp2_with fail
   go_ret2
   exact ⟨v, by rw [H.out.2.1]; rfl, fun _ => by rw [H.out.2.1], hb2.trans (hb3.mono hb2.size)⟩
 | «syntax» =>
   obtain ⟨tp, p, hv⟩ := hE.es
   have hc := Go.Proofs.Tryd.strconv_ParseInt_10_at64_syntax_var (bs l) (by omega) (by rw [hd]; exact hp) tp p W hv
   have hn : numI l = (false, 0) := by unfold numI; rw [hp]
   have H := Lib.hid (And.intro hc hn); clear hc hn hp hd hv hE
   go_enter Tryd.func34, Tryd.ntmps34
   go_wp2_with fail
   refine H.out.1.mono ?_
   rintro e' w2 ⟨N, rfl, _, _, hb2⟩
   go_wp2_with fail
   go_ret2
   exact ⟨_, by rw [H.out.2]; rfl, (fun h => absurd h (by rw [H.out.2]; decide)), hb2⟩
 | range =>
   obtain ⟨tp, p, hv⟩ := hE.er
   have hc := Go.Proofs.Tryd.strconv_ParseInt_10_at64_range_var (bs l) (by omega) (by rw [hd]; exact hp) tp p W hv
   have hn : numI l = (false, 0) := by unfold numI; rw [hp]
   have H := Lib.hid (And.intro hc hn); clear hc hn hp hd hv hE
   go_enter Tryd.func34, Tryd.ntmps34
   go_wp2_with fail
   refine H.out.1.mono ?_
   rintro e' w2 ⟨N, rfl, _, _, hb2⟩
   go_wp2_with fail
   go_ret2
   exact ⟨_, by rw [H.out.2]; rfl, (fun h => absurd h (by rw [H.out.2]; decide)), hb2⟩
theorem SW.keep {w w' : World} {g off n c : Nat} {ws : List (List UInt8)} (h : SW w (.slice (some ⟨g, off, none⟩) n c) ws) (hk : w'.heap[g]? = w.heap[g]?) : SW w' (.slice (some ⟨g, off, none⟩) n c) ws := by
 obtain ⟨a, c', e, h⟩ := h
 cases e
 refine ⟨_, _, rfl, fun k hkl => ?_⟩
 obtain ⟨g', off', ha, hc⟩ := h k hkl
 cases ha
 exact ⟨_, _, rfl, cell_keep hc hk⟩
theorem split_any (l : List UInt8) (c : UInt8) (W : World) (hl : l.length ≤ 1048576) (hE : Env W) :
  Calls Tryd.prog 24 #[.string (bs l), .string (bs [c])] W fun e' w' => ∃ cp, e' = .returned (.slice (some ⟨W.heap.size, 0, none⟩) (splitL c l).length cp) ∧ SW w' (.slice (some ⟨W.heap.size, 0, none⟩) (splitL c l).length cp) (splitL c l) ∧ W.heap.size < w'.heap.size ∧ Below W.heap.size W w' := by
 obtain ⟨m, hm⟩ := hE.ml
 have hc := Go.Proofs.Tryd.strings_Split (bs l) (bs [c]) m W (by rw [bs_size]; omega) (by refine (World.var?_cell ?_ hm 0).trans rfl; kernel_rfl) (by rw [bs_size]; exact Nat.le_refl _)
 have hall := Lib.splitB_all (bs [c]) (by rw [bs_size]; exact Nat.le_refl _) 0 (Lib.countB (bs l) (bs [c])) (bs l) rfl
 have hdat := Lib.splitB_data (bs [c]) 0 (Lib.countB (bs l) (bs [c])) (bs l)
 rw [bs_data, bs_data] at hdat
 have hcnt : Lib.countB (bs l) (bs [c]) = Lib.count l [c] := by unfold Lib.countB; rw [bs_data, bs_data]
 have hsp : Lib.splitK [c] 0 (Lib.countB (bs l) (bs [c])) l = splitL c l := by rw [hcnt]; exact split_lib c l
 rw [hsp] at hdat
 obtain ⟨B, hB⟩ : ∃ B, Lib.splitB (bs [c]) 0 (Lib.countB (bs l) (bs [c])) (bs l) = B := ⟨_, rfl⟩
 rw [hB] at hall hdat hc
 have hlen : (splitL c l).length = B.length := by rw [← hdat, List.length_map]
 rw [← hall, ← hlen] at hc
 refine hc.mono ?_
 rintro e w' ⟨rfl, hw⟩
 have hb : Below W.heap.size W w' := by rw [hw]; exact (Below.refl _ _).alloc (Nat.le_refl _) _
 have hh : w'.heap[W.heap.size]? = some (.cells (B.map Value.string).toArray 9 (0, 0)) := by rw [hw]; exact heap_alloc_self _ _
 refine ⟨_, rfl, ⟨_, _, rfl, fun k hk => ⟨_, _, rfl, ?_⟩⟩, lt_of_heap hh, hb⟩
 rw [cell_of_block hh, Nat.zero_add]
 have hkB : k < B.length := by omega
 have hgw : getw (splitL c l) k = (B[k]).data.toList := by
  unfold getw
  rw [← hdat]
  simp [List.getD_eq_getElem?_getD, List.getElem?_eq_getElem hkB]
 have hbb : bs (getw (splitL c l) k) = B[k] := by
  rw [hgw]
  rfl
 rw [hbb]
 simp [List.getElem?_eq_getElem hkB]
def okN (ps : List (List UInt8)) : Nat → Bool
 | 0 => true
 | k + 1 => okN ps k && (numI (getw ps k)).1
def valsTo (ps : List (List UInt8)) : Nat → List Int
 | 0 => []
 | k + 1 => valsTo ps k ++ [(numI (getw ps k)).2]
theorem okN_false {ps : List (List UInt8)} {k : Nat} (h : okN ps k = false) : ∀ n, k ≤ n → okN ps n = false := by
 intro n hn
 induction n with
 | zero => obtain rfl : k = 0 := by omega
           exact h
 | succ n ih =>
   by_cases e : k = n + 1
   ·subst e; exact h
   ·unfold okN; rw [ih (by omega)]; rfl
set_option maxRecDepth 100000 in
set_option maxHeartbeats 4000000 in
theorem parted_any (w : List UInt8) (W : World) (hl : w.length ≤ 1048576) (hE : Env W) :
  Calls Tryd.prog 25 #[.string (bs w), .string (bs [47])] W fun e' w' => ∃ v', e' = .returned (.tuple #[v', .bool (okN (splitL 47 w) (splitL 47 w).length)]) ∧ (okN (splitL 47 w) (splitL 47 w).length = true → w'.ownsRow W.heap.size 2 1 v' (splitL 47 w).length ((valsTo (splitL 47 w) (splitL 47 w).length).map (Value.int .i64))) ∧ (∃ a n c, v' = .slice a n c) ∧ Below W.heap.size W w' := by
 have hplen := split_len 47 w
 have hpw := split_word 47 w
 have hown0 := own_lit0 W W.heap.size 2 1 (Nat.le_refl _)
 have hbl : Below W.heap.size W (W.alloc (.cells #[] 2)) := (Below.refl _ _).alloc (Nat.le_refl _) _
 obtain ⟨wx, hwx0⟩ : ∃ wx, wx = W.alloc (.cells #[] 2) := ⟨_, rfl⟩
 have hzx : W.heap.size < wx.heap.size := by rw [hwx0]; simp
 rw [← hwx0] at hown0 hbl
 have hsp := split_any w 47 wx hl (hE.below hbl)
 obtain ⟨ps, hps⟩ : ∃ ps, splitL 47 w = ps := ⟨_, rfl⟩
 rw [hps] at hplen hpw hsp ⊢
 have HP := Lib.hid (And.intro hpw (And.intro hsp (And.intro hown0 (And.intro hbl (And.intro hwx0 hE))))); clear hps hpw hsp hown0 hbl hE
 go_enter Tryd.func25, Tryd.ntmps25
 go_wp2_with fail
 rw [← HP.out.2.2.2.2.1]
 clear hwx0
 refine HP.out.2.1.mono ?_
 rintro e' w2 ⟨cp, rfl, hsw, hgl, hb2⟩
 have hB2 : Below W.heap.size W w2 := HP.out.2.2.2.1.trans (hb2.mono (by omega))
 have H2 := Lib.hid (And.intro hsw (And.intro hB2 (own_chg HP.out.2.2.1 (Chg.of_below (F := fun _ => False) hb2) (fun _ _ h => h)))); clear hsw hb2 hB2
 go_wp2_with fail
 go_loopw [6, 16] (fun ou i wr => ∃ k : Nat, k ≤ ps.length ∧ i = .int .i64 k ∧ okN ps k = true ∧ wr.ownsRow W.heap.size 2 1 ou k ((valsTo ps k).map (Value.int .i64)) ∧ ou.ownBlock ≠ some wx.heap.size ∧ wx.heap.size < wr.heap.size ∧ wr.heap[wx.heap.size]? = w2.heap[wx.heap.size]? ∧ Below W.heap.size W wr) (fun _ i _ => ps.length - (intOf i).toNat)
 case atStart => exact ⟨0, Nat.zero_le _, rfl, rfl, H2.out.2.2, (fun e => by simp [Value.ownBlock] at e; omega), hgl, rfl, H2.out.2.1⟩
 case round =>
  obtain ⟨k, hk, rfl, hok, hown, hne, hgr, hhr, hB⟩ := hrel
  have hzW := hB.size
  obtain ⟨oa, oc, rfl, _, _⟩ := own_form hown
  obtain ⟨wo, rfl⟩ : ∃ q, q = wr := ⟨_, rfl⟩
  have hsw := H2.out.1.keep hhr
  by_cases hkk : k < ps.length
  ·obtain ⟨g, off, e, _, hcw⟩ := hsw.cell hkk
   cases e
   rw [Nat.zero_add] at hcw
   have hkn : ¬ ps.length ≤ k := by omega
   have hkd : decide (k < ps.length) = true := decide_eq_true hkk
   have hlw : (getw ps k).length ≤ 1048576 := by have := HP.out.1 k; omega
   have hnum := number_any (getw ps k) wo hlw (HP.out.2.2.2.2.2.below hB)
   have hoks : okN ps (k + 1) = (numI (getw ps k)).1 := by unfold okN; rw [hok]; rfl
   have hvs : (valsTo ps (k + 1)).map (Value.int .i64) = (valsTo ps k).map (Value.int .i64) ++ [.int .i64 (numI (getw ps k)).2] := by simp [valsTo]
   obtain ⟨p, hp⟩ : ∃ p, getw ps k = p := ⟨_, rfl⟩
   rw [hp] at hcw hnum hoks hvs
   obtain ⟨r, hr⟩ : ∃ r, numI p = r := ⟨_, rfl⟩
   rw [hr] at hnum hoks hvs
   have HS := Lib.hid (And.intro hnum (And.intro hoks (And.intro hvs (And.intro hown (And.intro hne (And.intro hhr hB)))))); clear hnum hoks hvs hown hne hhr hB hok hsw hp hr hlw
   go_wp2_with fail
   refine HS.out.1.mono ?_
   rintro e' w3 ⟨n, rfl, hn, hb3⟩
   have hB3 : Below W.heap.size W w3 := HS.out.2.2.2.2.2.2.trans (hb3.mono hzW)
   have hz3 := hb3.size
   cases hr1 : r.1
   ·have hbad : okN ps ps.length = false := okN_false (k := k + 1) (by rw [HS.out.2.1, hr1]) _ (by omega)
    have Hb := Lib.hid (And.intro hbad (And.intro hr1 (And.intro hn hB3))); clear hbad hr1 hn hB3 hb3 hcw
    go_wp2_with fail
    go_ret2
    exact ⟨_, by rw [Hb.out.1]; rfl, (fun h => absurd h (by rw [Hb.out.1]; decide)), ⟨_, _, _, rfl⟩, Hb.out.2.2.2⟩
   ·have hn2 := hn hr1
    have hown3 := own_chg HS.out.2.2.2.1 (Chg.of_below (F := fun _ => False) hb3) (fun _ _ h => h)
    have hh3 : w3.heap[wx.heap.size]? = w2.heap[wx.heap.size]? := (hb3.block _ hgr).trans HS.out.2.2.2.2.2.1
    have Hn := Lib.hid (And.intro hr1 (And.intro hn2 (And.intro hh3 hB3))); clear hr1 hn2 hn hh3 hB3 hb3 hcw
    go_wp2_with ((at_builtin; refine wp_app1 _ rfl _ _ 50 rfl W.heap.size 2 (.int .i64 0) 8 Tryd.underlying50 inf_int rfl _ _ _ rfl hown3 (.int .i64 n) _ rfl rfl (by omega) (by omega) (by omega) ?_; intro v1 w1 hown1 hgrow1 hblk1 hB1); refine Hid.out ?_)
    refine Lib.hid ?_
    have hne8 : v1.ownBlock ≠ some wx.heap.size := fun e => by
     rcases hblk1 with h | ⟨g, h, hg⟩
     ·exact HS.out.2.2.2.2.1 (h.symm.trans e)
     ·rw [e] at h; cases h; omega
    have hh8 : w1.heap[wx.heap.size]? = w2.heap[wx.heap.size]? := (hgrow1.block _ (by omega) (fun e => HS.out.2.2.2.2.1 e.symm)).trans Hn.out.2.2.1
    have hz8 := hB1.size
    have HB := Lib.hid (And.intro hown1 (And.intro (Hn.out.2.2.2.trans hB1) (And.intro hne8 hh8))); clear hown1 hB1 hown3 hgrow1 hblk1 hne8 hh8
    obtain ⟨na, nc, rfl, _, _⟩ := own_form HB.out.1
    go_wp2_with fail
    go_roundw
    case rel => exact ⟨k + 1, by omega, by go_num, by rw [HS.out.2.1]; exact Hn.out.1, by rw [HS.out.2.2.1, ← Hn.out.2.1]; exact HB.out.1, HB.out.2.2.1, by omega, HB.out.2.2.2, HB.out.2.1⟩
    case measure => simp [intOf]; omega
  ·obtain rfl : k = ps.length := by omega
   have hkd : decide (ps.length < ps.length) = false := decide_eq_false (Nat.lt_irrefl _)
   have HF := Lib.hid (And.intro hok (And.intro hown hB)); clear hok hown hB hsw hne hhr
   go_wp2_with fail
   go_ret2
   exact ⟨_, by rw [HF.out.1]; rfl, fun _ => HF.out.2.1, ⟨_, _, _, rfl⟩, HF.out.2.2⟩
theorem infS : (Tryd.prog.info? 37).map (fun i => (i.zero, i.size, i.bytes)) = some (some (.agg #[.int .i64 0, .int .i64 0]), 2, 16) := by kernel_rfl
/-- The two cells of a pair that a part of the program has made. -/
theorem pair_cells {w : World} {B : Nat} {v : Value} {x y : Int} (h : w.ownsRow B 2 1 v 2 [.int .i64 x, .int .i64 y]) : ∃ g c, v = .slice (some ⟨g, 0, none⟩) 2 c ∧ 2 ≤ c ∧ B ≤ g ∧ g < w.heap.size ∧ w.cell? ⟨g, 0, none⟩ = some (.int .i64 x) ∧ w.cell? ⟨g, 1, none⟩ = some (.int .i64 y) := by
 rcases h.2 with ⟨_, h0⟩ | ⟨g, cap, cur, rfl, h1, h2, h3, _⟩
 ·cases h0
 ·have h7 := own_cellS (c := cap) h
  exact ⟨g, cap, rfl, h3, h1, h7.1, by have := h7.2.2 0 _ rfl; rwa [Nat.zero_add] at this, by have := h7.2.2 1 _ rfl; rwa [Nat.zero_add] at this⟩
set_option maxRecDepth 100000 in
set_option maxHeartbeats 8000000 in
theorem ParseSteps_any (t : List UInt8) (W : World) (hl : t.length ≤ 1048576) (hE : Env W) :
  Calls Tryd.prog 11 #[.string (bs t)] W fun e' w' => ∃ v', e' = .returned (.tuple #[v', .int .i64 (psAns t).2]) ∧ FS W.heap.size w' v' (psAns t).1 ∧ Below W.heap.size W w' := by
 rw [← ps_eq t]
 by_cases ht : t = []
 ·subst ht
  have hans : psImp [] = ([], 0) := rfl
  have H := Lib.hid hans; clear hans
  have he : bs [] = (ByteArray.mk #[]) := rfl
  rw [he]
  clear he
  go_enter Tryd.func11, Tryd.ntmps11
  go_wp2_with fail
  go_ret2
  exact ⟨_, by rw [H.out]; rfl, by rw [H.out]; exact FS.nil, Below.refl _ _⟩
 ·have hne : (bs t).toList.isEmpty = false := by
   rw [bs_toList]
   cases t with
   | nil => exact absurd rfl ht
   | cons x r => rfl
  have hplen := split_len 32 t
  have hpw := split_word 32 t
  have hown0 := own_lit0 W W.heap.size 37 2 (Nat.le_refl _)
  have hbl : Below W.heap.size W (W.alloc (.cells #[] 37)) := (Below.refl _ _).alloc (Nat.le_refl _) _
  obtain ⟨wx, hwx0⟩ : ∃ wx, wx = W.alloc (.cells #[] 37) := ⟨_, rfl⟩
  have hzx : W.heap.size < wx.heap.size := by rw [hwx0]; simp
  rw [← hwx0] at hown0 hbl
  have hsp := split_any t 32 wx hl (hE.below hbl)
  obtain ⟨ws, hws⟩ : ∃ ws, splitL 32 t = ws := ⟨_, rfl⟩
  rw [hws] at hplen hpw hsp
  have HP := Lib.hid (And.intro hpw (And.intro hsp (And.intro hown0 (And.intro hbl (And.intro hwx0 (And.intro hws hE)))))); clear hws hpw hsp hown0 hbl hE
  go_enter Tryd.func11, Tryd.ntmps11
  go_wp2_with fail
  rw [← HP.out.2.2.2.2.1]
  clear hwx0
  refine HP.out.2.1.mono ?_
  rintro e' w2 ⟨cp, rfl, hsw, hgl, hb2⟩
  have hB2 : Below W.heap.size W w2 := HP.out.2.2.2.1.trans (hb2.mono (by omega))
  have H2 := Lib.hid (And.intro hsw (And.intro hB2 (own2_keep HP.out.2.2.1 hb2))); clear hsw hb2 hB2
  go_wp2_with fail
  go_loopw [4, 17] (fun ou i wr => ∃ k : Nat, k ≤ ws.length ∧ i = .int .i64 k ∧ okTo pstI ws k = true ∧ wr.ownsRow W.heap.size 37 2 ou k (flS (outTo pstI ws k)) ∧ ou.ownBlock ≠ some wx.heap.size ∧ wx.heap.size < wr.heap.size ∧ wr.heap[wx.heap.size]? = w2.heap[wx.heap.size]? ∧ Below W.heap.size W wr) (fun _ i _ => ws.length - (intOf i).toNat)
  case atStart => exact ⟨0, Nat.zero_le _, rfl, rfl, H2.out.2.2, (fun e => by simp [Value.ownBlock] at e; omega), hgl, rfl, H2.out.2.1⟩
  case round =>
   obtain ⟨k, hk, rfl, hok, hown, hne', hgr, hhr, hB⟩ := hrel
   have hzW := hB.size
   obtain ⟨oa, oc, rfl, _, _⟩ := own2_form hown
   obtain ⟨wo, rfl⟩ : ∃ q, q = wr := ⟨_, rfl⟩
   have hsw := H2.out.1.keep hhr
   by_cases hkk : k < ws.length
   ·obtain ⟨g, off, e, _, hcw⟩ := hsw.cell hkk
    cases e
    rw [Nat.zero_add] at hcw
    have hkn : ¬ ws.length ≤ k := by omega
    have hkd : decide (k < ws.length) = true := decide_eq_true hkk
    obtain ⟨w, hw⟩ : ∃ w, getw ws k = w := ⟨_, rfl⟩
    have hoks : okTo pstI ws (k + 1) = (pstI w).1 := by rw [← hw]; unfold okTo; rw [hok]; rfl
    have houts : outTo pstI ws (k + 1) = outTo pstI ws k ++ [(pstI w).2] := by rw [← hw]; rfl
    have hlw : w.length ≤ 1048576 := by rw [← hw]; have := HP.out.1 k; omega
    rw [hw] at hcw
    have HS := Lib.hid (And.intro hoks (And.intro houts (And.intro hown (And.intro hne' (And.intro hhr hB))))); clear hoks houts hw hown hne' hhr hsw hB hok
    by_cases hplus : w = [43]
    ·have hpl : ((bs w).toList == [43]) = true := by rw [bs_toList, hplus]; rfl
     have hst : pstI w = (true, (-1, 0)) := by unfold pstI; rw [if_pos hplus]
     have Hst := Lib.hid hst; clear hst
     have hown5 := HS.out.2.2.1
     clear hplus
     have hzA : (wo.alloc (.cells #[.int .i64 (-1), .int .i64 (0)] 37)).heap.size = wo.heap.size + 1 := by simp
     go_wp2_with (at_builtin; refine wp_app rfl _ _ 26 rfl W.heap.size 37 (.agg #[.int .i64 0, .int .i64 0]) 2 16 Tryd.underlying26 infS rfl (by omega) _ _ _ rfl (hown5.alloc _) ⟨_, 0, none⟩ 1 1 [.int .i64 (-1), .int .i64 (0)] rfl rfl (World.news_of_block (heap_alloc_new _ _)) (by simp [Value.oneCell']) (by unfold maxLen; omega) (by omega) (by omega) ?_; intro v8 w8 hown8 hgrow8 hblk8; refine Hid.out ?_)
     refine Lib.hid ?_
     have hB8 : Below W.heap.size W w8 := (HS.out.2.2.2.2.2.alloc hzW _).grown hgrow8 (by omega) (fun g hg => (hown5.lt g hg).1)
     have hne8 : v8.ownBlock ≠ some wx.heap.size := fun e => by
      rcases hblk8 with h | h
      ·exact HS.out.2.2.2.1 (h.symm.trans e)
      ·rw [e] at h; have := Option.some.inj h; omega
     have hh8 : w8.heap[wx.heap.size]? = w2.heap[wx.heap.size]? := (hgrow8.block _ (by omega) (fun e => HS.out.2.2.2.1 e.symm)).trans ((((Below.refl _ _).alloc (Nat.le_refl _) _).block _ hgr).trans HS.out.2.2.2.2.1)
     have hz8 := hgrow8.size
     have HB := Lib.hid (And.intro hown8 (And.intro hB8 (And.intro hne8 hh8))); clear hown8 hgrow8 hblk8 hB8 hne8 hh8 hown5
     obtain ⟨na, nc, rfl, _, _⟩ := own2_form HB.out.1
     go_wp2_with fail
     go_roundw
     case rel => exact ⟨k + 1, by omega, by go_num, by rw [HS.out.1, Hst.out], by rw [HS.out.2.1, flS_snoc, Hst.out]; exact HB.out.1, HB.out.2.2.1, by omega, HB.out.2.2.2, HB.out.2.1⟩
     case measure => simp [intOf]; omega
    ·have hpl : ((bs w).toList == [43]) = false := by rw [bs_toList]; simp [hplus]
     have hpa := parted_any w wo hlw (HP.out.2.2.2.2.2.2.below HS.out.2.2.2.2.2)
     have hunf : pstI w = pairI (splitL 47 w) := pstI_pair hplus
     obtain ⟨ps, hps⟩ : ∃ ps, splitL 47 w = ps := ⟨_, rfl⟩
     rw [hps] at hpa hunf
     obtain ⟨ok, hok⟩ : ∃ ok, okN ps ps.length = ok := ⟨_, rfl⟩
     have Hps := Lib.hid (And.intro hunf hok)
     rw [hok] at hpa
     clear hunf hps hplus hok
     go_wp2_with fail
     refine hpa.mono ?_
     rintro e' w3 ⟨pv, rfl, hpv, ⟨pa, pn, pc, rfl⟩, hb3⟩
     have hB3 : Below W.heap.size W w3 := HS.out.2.2.2.2.2.trans (hb3.mono hzW)
     have hz3 := hb3.size
     clear hpa
     cases ok
     ·have hst : (pstI w).1 = false := by
       rw [Hps.out.1]
       by_cases h2 : ps.length = 2
       ·obtain ⟨p0, p1, rfl⟩ := two_of h2
        have := Hps.out.2
        exact this
       ·exact pairI_ne h2
      have hbad : psImp t = ([], 6) := by
       unfold psImp
       rw [if_neg ht, HP.out.2.2.2.2.2.1]
       rw [if_pos (ok_false (k := k + 1) (by rw [HS.out.1, hst]) _ (by omega))]
      have Hbad := Lib.hid hbad; clear hbad
      clear hst hpv hcw hb3
      go_wp2_with fail
      go_ret2
      exact ⟨_, by rw [Hbad.out]; rfl, by rw [Hbad.out]; exact FS.nil, hB3⟩
     ·have hpo := hpv rfl
      obtain ⟨_, _, e, _, _⟩ := own_form hpo
      cases e
      clear hpv
      by_cases h2 : ps.length = 2
      ·obtain ⟨p0, p1, rfl⟩ := two_of h2
       have h3 := Hps.out.2
       have hst : pstI w = (true, ((numI p0).2, (numI p1).2)) := by
        rw [Hps.out.1]
        show ((numI p0).1 && (numI p1).1, _) = _
        rw [show ((numI p0).1 && (numI p1).1) = true from h3]
       have hpo : w3.ownsRow wo.heap.size 2 1 (.slice pa 2 pc) 2 [.int .i64 (numI p0).2, .int .i64 (numI p1).2] := hpo
       obtain ⟨x, hx⟩ : ∃ x, (numI p0).2 = x := ⟨_, rfl⟩
       obtain ⟨y, hy⟩ : ∃ y, (numI p1).2 = y := ⟨_, rfl⟩
       rw [hx, hy] at hst hpo
       obtain ⟨pg, pc', e, hpc, hpg, hpl3, hc0, hc1⟩ := pair_cells hpo
       cases e
       have hown3 := own2_keep HS.out.2.2.1 hb3
       have hh3 : w3.heap[wx.heap.size]? = w2.heap[wx.heap.size]? := (hb3.block _ hgr).trans HS.out.2.2.2.2.1
       have Hn := Lib.hid (And.intro hst (And.intro hh3 (And.intro hB3 hown3))); clear hst hh3 hB3 hown3 hpo hb3 hcw h2 h3 hx hy
       obtain ⟨i0, gi, gz0, gz1, gz2⟩ := info_parts infS
       go_wp2_with fail
       refine wp_region_noPanic ?_
       refine wp_region_held_drew (S := fun w' => w'.cell? ⟨pg, 0, none⟩ = some (.int .i64 x) ∧ w'.cell? ⟨pg, 1, none⟩ = some (.int .i64 y)) (by kernel_rfl) ⟨cell_keep hc0 rfl, cell_keep hc1 rfl⟩ (fun hHeld => ?_)
       (refine wpAnyH_take (i := 0) (v := .slice oa k oc) rfl (by kernel_rfl) (by kernel_rfl) (by kernel_rfl) (fun _ _ _ h => h) (Or.inl ⟨by kernel_rfl, fun w hSw => by (try dsimp only at hSw); go_split_ands; go_simp⟩) (by assumption) ?_; simp only [Act.put, List.setIfInBounds_toArray, List.set_cons_zero, List.set_cons_succ])
       (refine wpAnyH_take (i := 1) (v := .slice (some ⟨pg, 0, none⟩) 2 pc) rfl (by kernel_rfl) (by kernel_rfl) (by kernel_rfl) (fun _ _ _ h => h) (Or.inl ⟨by kernel_rfl, fun w hSw => by (try dsimp only at hSw); go_split_ands; go_simp⟩) (by assumption) ?_; simp only [Act.put, List.setIfInBounds_toArray, List.set_cons_zero, List.set_cons_succ])
       (refine wpAnyH_take (i := 2) (v := .pointer (some ⟨pg, 0, none⟩)) rfl (by kernel_rfl) (by kernel_rfl) (by kernel_rfl) (fun _ _ _ h => h) (Or.inl ⟨by kernel_rfl, fun w hSw => by (try dsimp only at hSw); go_split_ands; go_simp⟩) (by assumption) ?_; simp only [Act.put, List.setIfInBounds_toArray, List.set_cons_zero, List.set_cons_succ])
       (refine wpAnyH_take (i := 3) (v := .int .i64 x) rfl (by kernel_rfl) (by kernel_rfl) (by kernel_rfl) (fun _ _ _ h => h) (Or.inl ⟨by kernel_rfl, fun w hSw => by (try dsimp only at hSw); go_split_ands; go_simp⟩) (by assumption) ?_; simp only [Act.put, List.setIfInBounds_toArray, List.set_cons_zero, List.set_cons_succ])
       (refine wpAnyH_take (i := 4) (v := .slice (some ⟨pg, 0, none⟩) 2 pc) rfl (by kernel_rfl) (by kernel_rfl) (by kernel_rfl) (fun _ _ _ h => h) (Or.inl ⟨by kernel_rfl, fun w hSw => by (try dsimp only at hSw); go_split_ands; go_simp⟩) (by assumption) ?_; simp only [Act.put, List.setIfInBounds_toArray, List.set_cons_zero, List.set_cons_succ])
       (refine wpAnyH_take (i := 5) (v := .pointer (some ⟨pg, 1, none⟩)) rfl (by kernel_rfl) (by kernel_rfl) (by kernel_rfl) (fun _ _ _ h => h) (Or.inl ⟨by kernel_rfl, fun w hSw => by (try dsimp only at hSw); go_split_ands; go_simp⟩) (by assumption) ?_; simp only [Act.put, List.setIfInBounds_toArray, List.set_cons_zero, List.set_cons_succ])
       (refine wpAnyH_take (i := 6) (v := .int .i64 y) rfl (by kernel_rfl) (by kernel_rfl) (by kernel_rfl) (fun _ _ _ h => h) (Or.inl ⟨by kernel_rfl, fun w hSw => by (try dsimp only at hSw); go_split_ands; go_simp⟩) (by assumption) ?_; simp only [Act.put, List.setIfInBounds_toArray, List.set_cons_zero, List.set_cons_succ])
       (refine wpAnyH_take (i := 7) (v := .agg #[.int .i64 x, .int .i64 y]) rfl (by kernel_rfl) (by kernel_rfl) (by kernel_rfl) (fun _ _ _ h => h) (Or.inl ⟨by kernel_rfl, fun w hSw => by (try dsimp only at hSw); go_split_ands; go_simp⟩) (by assumption) ?_; simp only [Act.put, List.setIfInBounds_toArray, List.set_cons_zero, List.set_cons_succ])
       obtain ⟨wb, hwb⟩ : ∃ wb, wb = (w3.alloc (.cells #[.int .i64 x, .int .i64 y] 37)).drew := ⟨_, rfl⟩
       have hbb : Below w3.heap.size w3 wb := by rw [hwb]; exact ((Below.refl _ _).alloc (Nat.le_refl _) _).drew
       have hownb := own2_keep Hn.out.2.2.2 hbb
       have hnb : ∀ j u, [Value.int .i64 x, .int .i64 y][j]? = some u → wb.cell? ((⟨w3.heap.size, 0, none⟩ : Addr).add j) = some u := by rw [hwb]; exact World.news_of_block (heap_alloc_new _ _)
       have hSb : wb.cell? ⟨pg, 0, none⟩ = some (.int .i64 x) ∧ wb.cell? ⟨pg, 1, none⟩ = some (.int .i64 y) := ⟨cell_keep hc0 (hbb.block _ hpl3), cell_keep hc1 (hbb.block _ hpl3)⟩
       have hzb3 := hbb.size
       have hzb : W.heap.size ≤ wb.heap.size := by omega
       have Hwb := Lib.hid hwb; clear hwb hc0 hc1
       refine wpAnyH_ready (rs := [8]) (by kernel_rfl) (by simp) (AllReadyH.cons rfl (fun K hK => ?_) AllReadyH.nil)
       go_simp
       rw [← Hwb.out]
       (refine hK.out _ _ hSb (fun hHeld => ?_); clear hK K; (try simp only [Act.put, List.setIfInBounds_toArray, List.set_cons_zero, List.set_cons_succ]))
       refine wpAnyH_ready (rs := [9]) (by kernel_rfl) (by simp) (AllReadyH.cons rfl (fun K hK => ?_) AllReadyH.nil)
       refine step_append_lies _ (by rfl) _ _ _ (by rfl) W.heap.size 37 i0 _ 2 16 Tryd.underlying26 gi gz0 gz1 gz2 rfl (by omega) _ k _ (by rfl) hownb ⟨_, 0, none⟩ 1 1 [.int .i64 x, .int .i64 y] (by rfl) (by rfl) hnb (by simp [Value.oneCell']) (by omega) (by unfold maxLen; omega) (by omega) hzb _ rfl ?_
       intro gg cap8 w8 hown8 hgrow8 hat8 hlt8
       have hB8 : Below W.heap.size wb w8 := (Below.refl _ _).grown hgrow8 hzb (fun g hg => (hownb.lt g hg).1)
       have hbase : ∀ g, Value.ownBlock (.slice oa k oc) = some g → g < wo.heap.size := fun g hg => (HS.out.2.2.1.lt g hg).2
       have hS8 : w8.cell? ⟨pg, 0, none⟩ = some (.int .i64 x) ∧ w8.cell? ⟨pg, 1, none⟩ = some (.int .i64 y) := by
        have hk8 : w8.heap[pg]? = wb.heap[pg]? := hgrow8.block _ (lt_of_cell hSb.1) (fun e => by have := hbase _ e.symm; omega)
        exact ⟨cell_keep hSb.1 hk8, cell_keep hSb.2 hk8⟩
       have hne8 : (Value.slice (some ⟨gg, 0, none⟩) (k + 1) cap8).ownBlock ≠ some wx.heap.size := fun e => by
        rcases hat8 with h | h
        ·rw [show (Value.slice (some ⟨gg, 0, none⟩) (k + 1) cap8).ownBlock = some gg from rfl] at e
         exact HS.out.2.2.2.1 (h.trans e)
        ·rw [show (Value.slice (some ⟨gg, 0, none⟩) (k + 1) cap8).ownBlock = some gg from rfl] at e
         cases e; omega
       have hh8 : w8.heap[wx.heap.size]? = w2.heap[wx.heap.size]? := (hgrow8.block _ (by omega) (fun e => HS.out.2.2.2.1 e.symm)).trans ((hbb.block _ (by omega)).trans Hn.out.2.1)
       have hz8 := hgrow8.size
       have HB := Lib.hid (And.intro hown8 (And.intro ((Hn.out.2.2.1.trans (hbb.mono (by omega))).trans hB8) (And.intro hne8 hh8))); clear hown8 hgrow8 hat8 hB8 hne8 hh8 hbase
       (refine hK.out _ _ hS8 (fun hHeld => ?_); clear hK K; (try simp only [Act.put, List.setIfInBounds_toArray, List.set_cons_zero, List.set_cons_succ]))
       (refine wpAnyH_ready (rs := [10]) (by kernel_rfl) (by simp) (AllReadyH.cons rfl (fun K hK => ?_) AllReadyH.nil); go_simp)
       (refine hK.out _ _ hS8 (fun hHeld => ?_); clear hK K; (try simp only [Act.put, List.setIfInBounds_toArray, List.set_cons_zero, List.set_cons_succ]))
       refine wpAnyH_done (by kernel_rfl) (NoPanic.normal ?_) _
       go_wp2_with fail
       go_roundw
       case rel => exact ⟨k + 1, by omega, by go_num, by rw [HS.out.1, Hn.out.1], by rw [HS.out.2.1, flS_snoc, Hn.out.1]; exact HB.out.1, HB.out.2.2.1, by omega, HB.out.2.2.2, HB.out.2.1⟩
       case measure => simp [intOf]; omega
      ·have hst : (pstI w).1 = false := by rw [Hps.out.1]; exact pairI_ne h2
       have hbad : psImp t = ([], 6) := by
        unfold psImp
        rw [if_neg ht, HP.out.2.2.2.2.2.1]
        rw [if_pos (ok_false (k := k + 1) (by rw [HS.out.1, hst]) _ (by omega))]
       have Hbad := Lib.hid hbad; clear hbad
       have h2d : ((ps.length : Int) != 2) = true := by simp; omega
       have h2e : ¬ ((ps.length : Int) = 2) := by omega
       clear hst hpo hcw hb3
       go_wp2_with fail
       go_ret2
       exact ⟨_, by rw [Hbad.out]; rfl, by rw [Hbad.out]; exact FS.nil, hB3⟩
   ·obtain rfl : k = ws.length := by omega
    have hkd : decide (ws.length < ws.length) = false := decide_eq_false (Nat.lt_irrefl _)
    obtain ⟨ol, hol⟩ : ∃ ol, outTo pstI ws ws.length = ol := ⟨_, rfl⟩
    have hll : ol.length = ws.length := by rw [← hol]; exact out_len _
    rw [hol] at hown
    have hfs := own2_FSn hown hll
    have htx := StepsText_any _ ol wo (hfs.vs) (by omega)
    have hans : psImp t = if (stxAns ol).2 ≠ 0 ∨ (stxAns ol).1 ≠ t then ([], 6) else (ol, 0) := by
     unfold psImp
     rw [if_neg ht, HP.out.2.2.2.2.2.1, if_neg (by rw [hok]; decide), hol]
    obtain ⟨r, hr⟩ : ∃ r, stxAns ol = r := ⟨_, rfl⟩
    rw [hr] at htx hans
    obtain ⟨s, cd⟩ := r
    have HC := Lib.hid (And.intro hfs (And.intro hB (And.intro htx hans))); clear hfs hB htx hans hok hol hown hsw hll hr hne' hhr
    by_cases hc0 : cd = 0
    ·subst hc0
     by_cases hst : s = t
     ·have hse : ((bs s).toList == (bs t).toList) = true := by rw [str_eq]; exact decide_eq_true hst
      have hans : psImp t = (ol, 0) := by rw [HC.out.2.2.2, if_neg (by simp [hst])]
      have Ha := Lib.hid hans; clear hans hst
      go_wp2_with fail
      refine HC.out.2.2.1.mono ?_
      rintro e' w6 ⟨rfl, hb6⟩
      have Hb6 := Lib.hid hb6; clear hb6
      go_wp2_with fail
      go_ret2
      exact ⟨_, by rw [Ha.out]; rfl, by rw [Ha.out]; exact HC.out.1.below Hb6.out, HC.out.2.1.trans (Hb6.out.mono hzW)⟩
     ·have hse : ((bs s).toList == (bs t).toList) = false := by rw [str_eq]; exact decide_eq_false hst
      have hans : psImp t = ([], 6) := by rw [HC.out.2.2.2, if_pos (.inr hst)]
      have Ha := Lib.hid hans; clear hans hst
      go_wp2_with fail
      refine HC.out.2.2.1.mono ?_
      rintro e' w6 ⟨rfl, hb6⟩
      have Hb6 := Lib.hid hb6; clear hb6
      go_wp2_with fail
      go_ret2
      exact ⟨_, by rw [Ha.out]; rfl, by rw [Ha.out]; exact FS.nil, HC.out.2.1.trans (Hb6.out.mono hzW)⟩
    ·have hans : psImp t = ([], 6) := by rw [HC.out.2.2.2, if_pos (.inl hc0)]
     have Ha := Lib.hid hans; clear hans
     have hcdd : (cd != 0) = true := by simp [hc0]
     clear hc0
     go_wp2_with fail
     refine HC.out.2.2.1.mono ?_
     rintro e' w6 ⟨rfl, hb6⟩
     have Hb6 := Lib.hid hb6; clear hb6
     go_wp2_with fail
     go_ret2
     exact ⟨_, by rw [Ha.out]; rfl, by rw [Ha.out]; exact FS.nil, HC.out.2.1.trans (Hb6.out.mono hzW)⟩
/-- A contract that asks for what the row lists and for the world's shape. -/
theorem handed_both {H : Type} {enc : TypeId × Value → H} {a : Assume} {C : Checked} {os : Os} {f : FuncId} {fn : Func} {s : ChangeSpec} {conds : List PathCond} {apart fresh handsOn again : Bool} {X : World → Array Value → Prop}
  (hX : ∀ (w w' : World) (args : Array Value), w.heap = w'.heap → X w args → X w' args)
  (own : ownKnob C.prog.godebug = none) (started : os.Started) (noInit : C.prog.inits.idxOf? f = none) (hfn : C.prog.funcs[f]? = some fn)
  (witness : ∃ (w : World) (tape : Tape) (i : Input), w.os = os ∧ (w.forCall tape i).Shaped C.prog ∧ i.vars = [] ∧ Input.okWide C.prog (w.forCall tape i) .any w.heap.size f i ∧
   ((s.pre enc C.prog fn conds apart (w.forCall tape i).memory i.args ∧ X (w.forCall tape i).memory i.args) ∧ sizedMet enc C.prog fn (OpenSpec.ofChange s) apart (w.forCall tape i).memory i.args) ∧ a.holds C.prog (lone (Frame.enter C.prog f i.args .normal) [] (w.forCall tape i)))
  (contract : ∀ (W : World) (base : Nat) (args : Array Value) (ds gs : List (DataW H)) (before : List MemPlace),
   (∀ (j : Nat) t v, fn.params[j]? = some t → args[j]? = some v → Value.okWide C.prog W .any base t v) →
   DataW.Whole enc C.prog fn.params.toList s.vars apart W args.toList ds gs before →
   conds.all (PathCond.test C.prog ⟨fn.params.toList, ds, s.plain.varTypes C.prog, gs⟩) = true →
   (DataW.weightsEach C.prog (fn.params.toList ++ s.plain.varTypes C.prog) (ds ++ gs)).all (· ≤ reachBytes) = true → X W args → W.ShapedOpen C.prog →
   a.holds C.prog (lone (Frame.enter C.prog f args .normal) [] W) →
   Calls C.prog f args W fun e W' => ∃ v, e = .returned v ∧ s.post enc C.prog fn apart fresh handsOn again W args v W') :
  ReturnsInHanded a C os f .any (fun w args => (s.pre enc C.prog fn conds apart w args ∧ X w args) ∧ sizedMet enc C.prog fn (OpenSpec.ofChange s) apart w args) (s.post enc C.prog fn apart fresh handsOn again) := by
 refine returnsInHanded_of_calls own started noInit witness ?_
 intro w tape i _ hsh _ hok hpre hholds
 obtain ⟨_, _, _, fn', hfn', _, _, _, _, hval⟩ := hok
 have e : fn' = fn := Option.some.inj (hfn'.symm.trans hfn)
 subst e
 obtain ⟨⟨⟨ds, gs, before, hw, hc⟩, hx⟩, hz⟩ := hpre
 have hw' := DataW.Whole.of_heap (w' := w.forCall tape i) (by rfl) hw
 refine (contract (w.forCall tape i) w.heap.size i.args ds gs before hval hw' hc (hz.weights hw) (hX _ _ _ (by rfl) hx) hsh hholds).mono fun e W' ⟨v, he, hp⟩ => ?_
 subst he
 exact ChangeSpec.post_blind hp
/-- A variable of an integer's type holds some integer. -/
theorem var_int_of_shaped {P : Program} {w : World} {n : String} {g : Nat} {t : TypeId} {zero : Array Value} {k : IntKind}
  (h : w.ShapedOpen P) (hn : P.globalNamed n = some g) (hg : g < P.globals.size)
  (h0 : ((begin P (fun _ _ => 0) default).world.heap[g]?).bind Obj.row? = some (zero, t)) (hz : zero.size = 1)
  (hb : P.buildable t = true) (hc : P.cellTypes P.depth t = some [t]) (hu : P.underlying t = some (.int k)) :
  ∃ m, w.var? P n = some #[.int k m] := by
 obtain ⟨m, hm⟩ := cell_of_shapedOpen_int h hg h0 hz hb hc hu
 obtain ⟨cs, hh, hs, _⟩ := h.1 g zero t hg h0
 refine ⟨m, ?_⟩
 unfold World.var?
 rw [hn]
 simp only [Option.bind_some, hh]
 have h1 : cs.size = 1 := by omega
 have h2 : cs[0]? = some (.int k m) := by simpa [World.cell?, hh] using hm
 obtain ⟨l⟩ := cs
 match l, h1 with
 | [x], _ =>
   have : x = .int k m := by simpa using h2
   rw [this]
theorem star : "*" ++ "errors.errorString" = "*errors.errorString" := by decide
theorem row_err (u : TypeId) (h : Tryd.prog.typeName? 3 u = some "*errors.errorString") : u = 113 :=
 typeName_ptr_named (nm := "errors.errorString") (by rw [star]; kernel_rfl) (by kernel_rfl) (by decide) u (by rw [star]; exact h)
/-- What the library's variables hold, out of a row's list that begins with the four tables. -/
theorem env_of {W : World} {d0 d1 d3 : DataW Unit} {n0 n1 n3 : String} {t0 t1 : List UInt8} {r : List (String × DataW Unit)}
  (hL : laidMet Tryd.prog ((n0, d0) :: (n1, d1) :: ("internal/strconv.uint64pow10", Lib.tabData .u64 Lib.pow10Tab) :: (n3, d3) :: ("strconv.ErrRange", .iface "*errors.errorString" (.ptr (.agg [.lit (.string t0)]))) :: ("strconv.ErrSyntax", .iface "*errors.errorString" (.ptr (.agg [.lit (.string t1)]))) :: r) W)
  (hsh : W.ShapedOpen Tryd.prog) : Env W := by
 refine ⟨?_, ?_, ?_, ?_⟩
 ·exact Lib.tabIs_of_head (g := 0) (t := 87) (e := 72) (n := 20) (by kernel_rfl) (by kernel_rfl) (by kernel_rfl) (by kernel_rfl) (by kernel_rfl) (by kernel_rfl) hL.tail.tail
 ·obtain ⟨a, s, hv, _⟩ := laid_sentinel (g := 4) (ti := 60) (tp := 113) (te := 115) (ts := 9) hL.tail.tail.tail.tail.tail (by kernel_rfl) (by kernel_rfl) Tryd.underlying60 row_err Tryd.underlying113 Tryd.underlying115 rfl rfl (by kernel_rfl) (by kernel_rfl) (by kernel_rfl)
  exact ⟨_, _, hv⟩
 ·obtain ⟨a, s, hv, _⟩ := laid_sentinel (g := 5) (ti := 60) (tp := 113) (te := 115) (ts := 9) hL.tail.tail.tail.tail (by kernel_rfl) (by kernel_rfl) Tryd.underlying60 row_err Tryd.underlying113 Tryd.underlying115 rfl rfl (by kernel_rfl) (by kernel_rfl) (by kernel_rfl)
  exact ⟨_, _, hv⟩
 ·exact var_int_of_shaped (g := 1) (t := 3) (zero := #[.int .i64 0]) hsh (by kernel_rfl) (of_decide_eq_true (by kernel_rfl)) (by kernel_rfl) rfl (by kernel_rfl) (by kernel_rfl) (by kernel_rfl)
end Go.Proofs.YtmjplkbmhdkggaaDoor
