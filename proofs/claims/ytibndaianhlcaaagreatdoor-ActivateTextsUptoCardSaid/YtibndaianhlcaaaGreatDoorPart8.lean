/- Contracts of the library laid at this dump. The table of tens, where the row says that it lies as it was laid. What the row's premises say of the library's variables: internal/bytealg.MaxLen, strconv's two errors, the table of tens; strconv.Atoi. Arguments that are slices of structs, opened to cells; the sizes of what lies within. Arguments of plain types, opened. Lists of entries and of texts in memory. -/
import Derived.Shelf.Strings.SplitShaped
import Derived.Shelf.Strings.Split
import Derived.Shelf.Strconv.AtoiAll
import Derived.Shelf.LaysM
import Derived.Shelf.LaysC
import Derived.Ground.GgwProg
import Derived.Ground.SlgnProg
import Derived.Ground.SlgfProg
import Derived.Test.YtibndaianhlcaaaGreatDoorProg
import Derived.Test.YtibndaianhlcaaaGreatDoorPart7
import Derived.LaidSub
import Derived.MakeChecks
import Derived.WalkSmall
import Derived.Lib.LaidTab
import Derived.Test.YtibndaianhlcaaaGreatDoorPart2
import Derived.Shelf.Vars
import Derived.LaidLaws
import Derived.Lib.AtoiTie
import Derived.Test.YtibndaianhlcaaaGreatDoorPart5
import Derived.SizedLaws
import Derived.Deep.Slices
import Derived.Deep.Fields
import Derived.ChangeSame
import Derived.Sort.OwnSorted
namespace Go.Proofs
open Go.Shelf
def Tryz.laysC172_ren : Go.Shelf.Ren := ⟨fun | 172 => 104 | 244 => 128 | 245 => 129 | 247 => 150 | 279 => 151 | 280 => 152 | 281 => 153 | 282 => 154 | 287 => 167 | 316 => 168 | 171 => 102 | 205 => 169 | 321 => 177 | 322 => 178 | 243 => 126 | 246 => 148 | 283 => 163 | 284 => 164 | 285 => 165 | 286 => 166 | 129 => 173 | 317 => 172 | 318 => 174 | 319 => 175 | 320 => 176 | 337 => 179 | 338 => 180 | n => n, fun | 9 => 9 | 3 => 3 | 75 => 116 | 76 => 117 | 4 => 4 | 5 => 5 | 167 => 167 | 37 => 33 | 0 => 0 | 85 => 168 | 2 => 2 | 168 => 170 | 53 => 182 | 175 => 187 | 46 => 159 | 210 => 191 | 127 => 137 | 145 => 203 | 143 => 201 | 21 => 21 | 171 => 181 | 173 => 185 | 212 => 196 | 51 => 178 | 20 => 20 | 213 => 197 | 232 => 205 | 233 => 206 | 80 => 122 | n => n, fun | 15 => 3 | 16 => 4 | 17 => 5 | 18 => 6 | 19 => 7 | n => n⟩
theorem Tryz.laysC172 : Go.Proofs.LaysC.n172 Tryz.prog Tryz.laysC172_ren := {
  mixed := by kernel_rfl
  f129 := Tryz.func173.trans (congrArg some (by kernel_rfl))
  f171 := Tryz.func102.trans (congrArg some (by kernel_rfl))
  f172 := Tryz.func104.trans (congrArg some (by kernel_rfl))
  f205 := Tryz.func169.trans (congrArg some (by kernel_rfl))
  f243 := Tryz.func126.trans (congrArg some (by kernel_rfl))
  f244 := Tryz.func128.trans (congrArg some (by kernel_rfl))
  f245 := Tryz.func129.trans (congrArg some (by kernel_rfl))
  f246 := Tryz.func148.trans (congrArg some (by kernel_rfl))
  f247 := Tryz.func150.trans (congrArg some (by kernel_rfl))
  f279 := Tryz.func151.trans (congrArg some (by kernel_rfl))
  f280 := Tryz.func152.trans (congrArg some (by kernel_rfl))
  f281 := Tryz.func153.trans (congrArg some (by kernel_rfl))
  f282 := Tryz.func154.trans (congrArg some (by kernel_rfl))
  f283 := Tryz.func163.trans (congrArg some (by kernel_rfl))
  f284 := Tryz.func164.trans (congrArg some (by kernel_rfl))
  f285 := Tryz.func165.trans (congrArg some (by kernel_rfl))
  f286 := Tryz.func166.trans (congrArg some (by kernel_rfl))
  f287 := Tryz.func167.trans (congrArg some (by kernel_rfl))
  f316 := Tryz.func168.trans (congrArg some (by kernel_rfl))
  f317 := Tryz.func172.trans (congrArg some (by kernel_rfl))
  f318 := Tryz.func174.trans (congrArg some (by kernel_rfl))
  f319 := Tryz.func175.trans (congrArg some (by kernel_rfl))
  f320 := Tryz.func176.trans (congrArg some (by kernel_rfl))
  f321 := Tryz.func177.trans (congrArg some (by kernel_rfl))
  f322 := Tryz.func178.trans (congrArg some (by kernel_rfl))
  f337 := Tryz.func179.trans (congrArg some (by kernel_rfl))
  f338 := Tryz.func180.trans (congrArg some (by kernel_rfl))
  t0 := Tryz.underlying0
  a0 := Tryz.isAgg0
  z0 := Tryz.sizeOf0
  v0 := Tryz.zeroValue0
  t2 := Tryz.underlying2
  a2 := Tryz.isAgg2
  z2 := Tryz.sizeOf2
  v2 := Tryz.zeroValue2
  t3 := Tryz.underlying3
  a3 := Tryz.isAgg3
  z3 := Tryz.sizeOf3
  v3 := Tryz.zeroValue3
  t4 := Tryz.underlying4
  a4 := Tryz.isAgg4
  z4 := Tryz.sizeOf4
  v4 := Tryz.zeroValue4
  t5 := Tryz.underlying5
  a5 := Tryz.isAgg5
  z5 := Tryz.sizeOf5
  v5 := Tryz.zeroValue5
  t9 := Tryz.underlying9
  a9 := Tryz.isAgg9
  z9 := Tryz.sizeOf9
  v9 := Tryz.zeroValue9
  t20 := Tryz.underlying20
  a20 := Tryz.isAgg20
  z20 := Tryz.sizeOf20
  v20 := Tryz.zeroValue20
  t21 := Tryz.underlying21
  a21 := Tryz.isAgg21
  z21 := Tryz.sizeOf21
  v21 := Tryz.zeroValue21
  t37 := Tryz.underlying33
  a37 := Tryz.isAgg33
  z37 := Tryz.sizeOf33
  v37 := Tryz.zeroValue33
  t46 := Tryz.underlying159
  a46 := Tryz.isAgg159
  z46 := Tryz.sizeOf159
  v46 := Tryz.zeroValue159
  t51 := Tryz.underlying178
  a51 := Tryz.isAgg178
  z51 := Tryz.sizeOf178
  v51 := Tryz.zeroValue178
  t53 := Tryz.underlying182
  a53 := Tryz.isAgg182
  z53 := Tryz.sizeOf182
  v53 := Tryz.zeroValue182
  t75 := Tryz.underlying116
  a75 := Tryz.isAgg116
  z75 := Tryz.sizeOf116
  v75 := Tryz.zeroValue116
  t76 := Tryz.underlying117
  a76 := Tryz.isAgg117
  z76 := Tryz.sizeOf117
  v76 := Tryz.zeroValue117
  t85 := Tryz.underlying168
  a85 := Tryz.isAgg168
  z85 := Tryz.sizeOf168
  v85 := Tryz.zeroValue168
  t127 := Tryz.underlying137
  a127 := Tryz.isAgg137
  z127 := Tryz.sizeOf137
  v127 := Tryz.zeroValue137
  t143 := Tryz.underlying201
  a143 := Tryz.isAgg201
  z143 := Tryz.sizeOf201
  v143 := Tryz.zeroValue201
  t145 := Tryz.underlying203
  a145 := Tryz.isAgg203
  z145 := Tryz.sizeOf203
  v145 := Tryz.zeroValue203
  t167 := Tryz.underlying167
  a167 := Tryz.isAgg167
  z167 := Tryz.sizeOf167
  v167 := Tryz.zeroValue167
  t168 := Tryz.underlying170
  a168 := Tryz.isAgg170
  z168 := Tryz.sizeOf170
  v168 := Tryz.zeroValue170
  t171 := Tryz.underlying181
  a171 := Tryz.isAgg181
  z171 := Tryz.sizeOf181
  v171 := Tryz.zeroValue181
  t173 := Tryz.underlying185
  a173 := Tryz.isAgg185
  z173 := Tryz.sizeOf185
  v173 := Tryz.zeroValue185
  t175 := Tryz.underlying187
  a175 := Tryz.isAgg187
  z175 := Tryz.sizeOf187
  v175 := Tryz.zeroValue187
  t210 := Tryz.underlying191
  a210 := Tryz.isAgg191
  z210 := Tryz.sizeOf191
  v210 := Tryz.zeroValue191
  t212 := Tryz.underlying196
  a212 := Tryz.isAgg196
  z212 := Tryz.sizeOf196
  v212 := Tryz.zeroValue196
  t213 := Tryz.underlying197
  a213 := Tryz.isAgg197
  z213 := Tryz.sizeOf197
  t232 := Tryz.underlying205
  a232 := Tryz.isAgg205
  z232 := Tryz.sizeOf205
  v232 := Tryz.zeroValue205
  t233 := Tryz.underlying206
  a233 := Tryz.isAgg206
  z233 := Tryz.sizeOf206
  v233 := Tryz.zeroValue206
  g15 := by kernel_rfl
  g16 := by kernel_rfl
  g17 := by kernel_rfl
  g18 := by kernel_rfl
  g19 := by kernel_rfl
  t80 := Tryz.underlying122
  a80 := Tryz.isAgg122
  z80 := Tryz.sizeOf122
  v80 := Tryz.zeroValue122
  i0 := by kernel_rfl
  i2 := by kernel_rfl
  i3 := by kernel_rfl
  i4 := by kernel_rfl
  i5 := by kernel_rfl
  i9 := by kernel_rfl
  i20 := by kernel_rfl
  i21 := by kernel_rfl
  i37 := by kernel_rfl
  i46 := by kernel_rfl
  i51 := by kernel_rfl
  i53 := by kernel_rfl
  i75 := by kernel_rfl
  i76 := by kernel_rfl
  i80 := by kernel_rfl
  i85 := by kernel_rfl
  i127 := by kernel_rfl
  i143 := by kernel_rfl
  i145 := by kernel_rfl
  i167 := by kernel_rfl
  i168 := by kernel_rfl
  i171 := by kernel_rfl
  i173 := by kernel_rfl
  i175 := by kernel_rfl
  i210 := by kernel_rfl
  i212 := by kernel_rfl
  i232 := by kernel_rfl
  i233 := by kernel_rfl
  m15 := by kernel_rfl
  m16 := by kernel_rfl
  m17 := by kernel_rfl
  m18 := by kernel_rfl
  m19 := by kernel_rfl
  c0 := by kernel_rfl
  c2 := by kernel_rfl
  c3 := by kernel_rfl
  c4 := by kernel_rfl
  c5 := by kernel_rfl
  c9 := by kernel_rfl
  c20 := by kernel_rfl
  c21 := by kernel_rfl
  c37 := by kernel_rfl
  c46 := by kernel_rfl
  c51 := by kernel_rfl
  c53 := by kernel_rfl
  c75 := by kernel_rfl
  c76 := by kernel_rfl
  c80 := by kernel_rfl
  c85 := by kernel_rfl
  c127 := by kernel_rfl
  c143 := by kernel_rfl
  c145 := by kernel_rfl
  c167 := by kernel_rfl
  c168 := by kernel_rfl
  c171 := by kernel_rfl
  c173 := by kernel_rfl
  c175 := by kernel_rfl
  c210 := by kernel_rfl
  c212 := by kernel_rfl
  c213 := by kernel_rfl
  c232 := by kernel_rfl
  c233 := by kernel_rfl }
open Go.RowKit in
/-- strconv.Atoi, AT EVERY STRING THAT SPELLS AN int ('Lib.atoiAll .. = .ok v'; of whatever length: leading zeros count): v, AND NO ERROR. The world: as it was, or with the one new row that '[]byte(..)' lays. (LAID: no walk: one application.) -/
theorem Tryz.strconv_Atoi_ok (s : ByteArray) (hmax : s.size ≤ 9223372036854775806) (v : Int) (h : Lib.atoiAll s.data.toList = .ok v) (w : World) :
    Calls Tryz.prog 104 #[.string s] w fun e w' => e = .returned (.tuple #[.int .i64 v, .nilIface]) ∧ (w' = w ∨ ∃ t, w' = Lib.bytesWorld w 5 t) := Any.strconv_Atoi_ok Tryz.laysC172 s hmax v h w
open Go.RowKit in
/-- strconv.Atoi, AT EVERY STRING THAT IS NO DECIMAL NUMERAL ('.syntax'): 0, AND AN ERROR THAT IS NOT nil: a *NumError in a new block N: {Func: "Atoi", Num: s's bytes, Err: what the variable ErrSyntax holds}. Of what was there nothing has turned. (LAID: no walk: one application.) -/
theorem Tryz.strconv_Atoi_syntax (s : ByteArray) (hlim : s.size ≤ 281474976710656) (h : ∀ v, Lib.atoiAll s.data.toList ≠ .ok v) (h2 : Lib.atoiAll s.data.toList ≠ .range) (ev : Value) (w : World) (hv : w.cell? ⟨3, 0, none⟩ = some ev) (hev : ev = .nilIface ∨ ∃ te pe, ev = .iface te pe) :
    Calls Tryz.prog 104 #[.string s] w fun e w' => ∃ N, e = .returned (.tuple #[.int .i64 (0), .iface 170 (.pointer (some ⟨N, 0, none⟩))]) ∧ w.heap.size ≤ N ∧ w'.heap[N]? = some (.cells #[.string ⟨#[65, 116, 111, 105]⟩, .string s, ev] 191 (0, 0)) ∧ Below w.heap.size w w' := by
  rcases hc : Lib.atoiAll s.data.toList with v | _ | _
  · exact absurd hc (h v)
  · exact Any.strconv_Atoi_syntax Tryz.laysC172 s hlim hc ev w hv hev
  · exact absurd hc h2
open Go.RowKit in
/-- strconv.Atoi, AT EVERY NUMERAL THAT NO int HOLDS ('.range'): THE GREATEST OR THE LEAST int, BY THE SIGN ('Lib.atoiSat'), AND AN ERROR THAT IS NOT nil: a *NumError in a new block N: {Func: "Atoi", Num: s's bytes, Err: what the variable ErrRange holds}. Of what was there nothing has turned. (LAID: no walk: one application.) -/
theorem Tryz.strconv_Atoi_range (s : ByteArray) (hlim : s.size ≤ 281474976710656) (h : Lib.atoiAll s.data.toList = .range) (ev : Value) (w : World) (hv : w.cell? ⟨4, 0, none⟩ = some ev) (hev : ev = .nilIface ∨ ∃ te pe, ev = .iface te pe) :
    Calls Tryz.prog 104 #[.string s] w fun e w' => ∃ N, e = .returned (.tuple #[.int .i64 (Lib.atoiSat s.data.toList), .iface 170 (.pointer (some ⟨N, 0, none⟩))]) ∧ w.heap.size ≤ N ∧ w'.heap[N]? = some (.cells #[.string ⟨#[65, 116, 111, 105]⟩, .string s, ev] 191 (0, 0)) ∧ Below w.heap.size w w' := Any.strconv_Atoi_range Tryz.laysC172 s hlim h ev w hv hev
def Tryz.lays146_ren : Go.Shelf.Ren := ⟨fun | 146 => 103 | 221 => 127 | 268 => 149 | 138 => 105 | 143 => 123 | 195 => 130 | 197 => 122 | 218 => 131 | 219 => 124 | 260 => 143 | 217 => 144 | 225 => 145 | 224 => 146 | 267 => 147 | 266 => 161 | 314 => 162 | n => n, fun | 9 => 9 | 31 => 23 | 3 => 3 | 4 => 4 | 0 => 0 | 105 => 151 | 21 => 21 | 5 => 5 | 46 => 159 | 119 => 174 | 139 => 177 | 138 => 176 | 146 => 179 | 51 => 178 | n => n, fun | 1 => 0 | 3 => 1 | 4 => 2 | n => n⟩
theorem Tryz.lays146 : Go.Proofs.Lays.n146 Tryz.prog Tryz.lays146_ren := {
  mixed := by kernel_rfl
  f138 := Tryz.func105.trans (congrArg some (by kernel_rfl))
  f143 := Tryz.func123.trans (congrArg some (by kernel_rfl))
  f146 := Tryz.func103.trans (congrArg some (by kernel_rfl))
  f195 := Tryz.func130.trans (congrArg some (by kernel_rfl))
  f197 := Tryz.func122.trans (congrArg some (by kernel_rfl))
  f217 := Tryz.func144.trans (congrArg some (by kernel_rfl))
  f218 := Tryz.func131.trans (congrArg some (by kernel_rfl))
  f219 := Tryz.func124.trans (congrArg some (by kernel_rfl))
  f221 := Tryz.func127.trans (congrArg some (by kernel_rfl))
  f224 := Tryz.func146.trans (congrArg some (by kernel_rfl))
  f225 := Tryz.func145.trans (congrArg some (by kernel_rfl))
  f260 := Tryz.func143.trans (congrArg some (by kernel_rfl))
  f266 := Tryz.func161.trans (congrArg some (by kernel_rfl))
  f267 := Tryz.func147.trans (congrArg some (by kernel_rfl))
  f268 := Tryz.func149.trans (congrArg some (by kernel_rfl))
  f314 := Tryz.func162.trans (congrArg some (by kernel_rfl))
  t0 := Tryz.underlying0
  a0 := Tryz.isAgg0
  z0 := Tryz.sizeOf0
  v0 := Tryz.zeroValue0
  t3 := Tryz.underlying3
  a3 := Tryz.isAgg3
  z3 := Tryz.sizeOf3
  v3 := Tryz.zeroValue3
  t4 := Tryz.underlying4
  a4 := Tryz.isAgg4
  z4 := Tryz.sizeOf4
  v4 := Tryz.zeroValue4
  t5 := Tryz.underlying5
  a5 := Tryz.isAgg5
  z5 := Tryz.sizeOf5
  v5 := Tryz.zeroValue5
  t9 := Tryz.underlying9
  a9 := Tryz.isAgg9
  z9 := Tryz.sizeOf9
  v9 := Tryz.zeroValue9
  t21 := Tryz.underlying21
  a21 := Tryz.isAgg21
  z21 := Tryz.sizeOf21
  v21 := Tryz.zeroValue21
  t31 := Tryz.underlying23
  a31 := Tryz.isAgg23
  z31 := Tryz.sizeOf23
  v31 := Tryz.zeroValue23
  t46 := Tryz.underlying159
  a46 := Tryz.isAgg159
  z46 := Tryz.sizeOf159
  v46 := Tryz.zeroValue159
  t51 := Tryz.underlying178
  a51 := Tryz.isAgg178
  z51 := Tryz.sizeOf178
  v51 := Tryz.zeroValue178
  t105 := Tryz.underlying151
  a105 := Tryz.isAgg151
  z105 := Tryz.sizeOf151
  v105 := Tryz.zeroValue151
  t119 := Tryz.underlying174
  a119 := Tryz.isAgg174
  z119 := Tryz.sizeOf174
  t138 := Tryz.underlying176
  a138 := Tryz.isAgg176
  z138 := Tryz.sizeOf176
  v138 := Tryz.zeroValue176
  t139 := Tryz.underlying177
  a139 := Tryz.isAgg177
  z139 := Tryz.sizeOf177
  v139 := Tryz.zeroValue177
  t146 := Tryz.underlying179
  a146 := Tryz.isAgg179
  z146 := Tryz.sizeOf179
  v146 := Tryz.zeroValue179
  g1 := by kernel_rfl
  g3 := by kernel_rfl
  g4 := by kernel_rfl }
open Go.RowKit Go.Lib in
/-- strings.Split. (LAID: no walk: one application.) -/
theorem Tryz.strings_Split (s sep : ByteArray) (m : Int) (w : World) (hs : s.size < 4294967281) (hm : w.cell? ⟨0, 0, none⟩ = some (.int .i64 m)) (h1 : 1 ≤ sep.size) :
    Calls Tryz.prog 103 #[.string s, .string sep] w fun e w' =>
      e = .returned (.slice (some ⟨w.heap.size, 0, none⟩) (Lib.countB s sep + 1) (Lib.countB s sep + 1)) ∧ w' = w.alloc (.cells ((Lib.splitB sep 0 (Lib.countB s sep) s).map Value.string).toArray 9) := Any.strings_Split Tryz.lays146 (by kernel_rfl) s sep m w hs hm h1
def Tryz.laysM146_ren : Go.Shelf.Ren := ⟨fun | 146 => 103 | 221 => 127 | 268 => 149 | 138 => 105 | 143 => 123 | 195 => 130 | 197 => 122 | 218 => 131 | 219 => 124 | 260 => 143 | 217 => 144 | 225 => 145 | 224 => 146 | 267 => 147 | 266 => 161 | 314 => 162 | n => n, fun | 9 => 9 | 31 => 23 | 3 => 3 | 4 => 4 | 0 => 0 | 105 => 151 | 21 => 21 | 5 => 5 | 46 => 159 | 119 => 174 | 139 => 177 | 138 => 176 | 146 => 179 | 51 => 178 | n => n, fun | 1 => 0 | 3 => 1 | 4 => 2 | n => n⟩
theorem Tryz.laysM146 : Go.Proofs.LaysM.n146 Tryz.prog Tryz.laysM146_ren := {
  mixed := by kernel_rfl
  f138 := Tryz.func105.trans (congrArg some (by kernel_rfl))
  f143 := Tryz.func123.trans (congrArg some (by kernel_rfl))
  f146 := Tryz.func103.trans (congrArg some (by kernel_rfl))
  f195 := Tryz.func130.trans (congrArg some (by kernel_rfl))
  f197 := Tryz.func122.trans (congrArg some (by kernel_rfl))
  f217 := Tryz.func144.trans (congrArg some (by kernel_rfl))
  f218 := Tryz.func131.trans (congrArg some (by kernel_rfl))
  f219 := Tryz.func124.trans (congrArg some (by kernel_rfl))
  f221 := Tryz.func127.trans (congrArg some (by kernel_rfl))
  f224 := Tryz.func146.trans (congrArg some (by kernel_rfl))
  f225 := Tryz.func145.trans (congrArg some (by kernel_rfl))
  f260 := Tryz.func143.trans (congrArg some (by kernel_rfl))
  f266 := Tryz.func161.trans (congrArg some (by kernel_rfl))
  f267 := Tryz.func147.trans (congrArg some (by kernel_rfl))
  f268 := Tryz.func149.trans (congrArg some (by kernel_rfl))
  f314 := Tryz.func162.trans (congrArg some (by kernel_rfl))
  t0 := Tryz.underlying0
  a0 := Tryz.isAgg0
  z0 := Tryz.sizeOf0
  v0 := Tryz.zeroValue0
  t3 := Tryz.underlying3
  a3 := Tryz.isAgg3
  z3 := Tryz.sizeOf3
  v3 := Tryz.zeroValue3
  t4 := Tryz.underlying4
  a4 := Tryz.isAgg4
  z4 := Tryz.sizeOf4
  v4 := Tryz.zeroValue4
  t5 := Tryz.underlying5
  a5 := Tryz.isAgg5
  z5 := Tryz.sizeOf5
  v5 := Tryz.zeroValue5
  t9 := Tryz.underlying9
  a9 := Tryz.isAgg9
  z9 := Tryz.sizeOf9
  v9 := Tryz.zeroValue9
  t21 := Tryz.underlying21
  a21 := Tryz.isAgg21
  z21 := Tryz.sizeOf21
  v21 := Tryz.zeroValue21
  t31 := Tryz.underlying23
  a31 := Tryz.isAgg23
  z31 := Tryz.sizeOf23
  v31 := Tryz.zeroValue23
  t46 := Tryz.underlying159
  a46 := Tryz.isAgg159
  z46 := Tryz.sizeOf159
  v46 := Tryz.zeroValue159
  t51 := Tryz.underlying178
  a51 := Tryz.isAgg178
  z51 := Tryz.sizeOf178
  v51 := Tryz.zeroValue178
  t105 := Tryz.underlying151
  a105 := Tryz.isAgg151
  z105 := Tryz.sizeOf151
  v105 := Tryz.zeroValue151
  t119 := Tryz.underlying174
  a119 := Tryz.isAgg174
  z119 := Tryz.sizeOf174
  t138 := Tryz.underlying176
  a138 := Tryz.isAgg176
  z138 := Tryz.sizeOf176
  v138 := Tryz.zeroValue176
  t139 := Tryz.underlying177
  a139 := Tryz.isAgg177
  z139 := Tryz.sizeOf177
  v139 := Tryz.zeroValue177
  t146 := Tryz.underlying179
  a146 := Tryz.isAgg179
  z146 := Tryz.sizeOf179
  v146 := Tryz.zeroValue179
  g1 := by kernel_rfl
  g3 := by kernel_rfl
  g4 := by kernel_rfl
  i0 := by kernel_rfl
  i3 := by kernel_rfl
  i4 := by kernel_rfl
  i5 := by kernel_rfl
  i9 := by kernel_rfl
  i21 := by kernel_rfl
  i31 := by kernel_rfl
  i46 := by kernel_rfl
  i51 := by kernel_rfl
  i105 := by kernel_rfl
  i138 := by kernel_rfl
  i139 := by kernel_rfl
  i146 := by kernel_rfl
  m1 := by kernel_rfl
  s1_3 := fun w h => Go.Proofs.cell_of_shapedOpen_int (zero := #[.int .i64 0]) (t := 3) h (of_decide_eq_true (by kernel_rfl)) (by kernel_rfl) rfl (by kernel_rfl) (by kernel_rfl) Tryz.underlying3
  m3 := by kernel_rfl
  m4 := by kernel_rfl }
open Go.RowKit Go.Lib in
/-- strings.Split, sep not empty. (LAID: no walk: one application.) -/
theorem Tryz.strings_Split_shaped (s sep : ByteArray) (w : World) (h : w.ShapedOpen Tryz.prog) (hs : s.size < 4294967281) (h1 : 1 ≤ sep.size) :
    Calls Tryz.prog 103 #[.string s, .string sep] w fun e w' =>
      e = .returned (.slice (some ⟨w.heap.size, 0, none⟩) (Lib.countB s sep + 1) (Lib.countB s sep + 1)) ∧ w' = w.alloc (.cells ((Lib.splitB sep 0 (Lib.countB s sep) s).map Value.string).toArray 9) := Any.strings_Split_shaped Tryz.laysM146 s sep w h hs h1
end Go.Proofs
namespace Go.Proofs.YtibndaianhlcaaaGreatDoor
open Go.RowKit
set_option linter.unusedVariables false
set_option linter.unusedSimpArgs false

/-- The table of tens lies as it was laid, now and later. -/
structure TabOk (w : World) : Prop where
  tab : ∀ w', Below w.heap.size w w' → Lib.TabIs Tryz.prog w' "internal/strconv.uint64pow10" .u64 Lib.pow10Tab
theorem TabOk.below {w w' : World} (h : TabOk w) (hb : Below w.heap.size w w') : TabOk w' := ⟨fun v hv => h.tab v (hb.trans (hv.mono hb.size))⟩
theorem TabOk.itoa {w : World} (h : TabOk w) (n : Nat) (hn : n < 100000) : ItoaOk w (n : Int) := itoa_tab w n hn h.tab
theorem tab_ok {w : World} {g : Nat} (hg : Tryz.prog.globalNamed "internal/strconv.uint64pow10" = some g) (h : Lib.TabIs Tryz.prog w "internal/strconv.uint64pow10" .u64 Lib.pow10Tab) : TabOk w := by
  refine ⟨fun w' hb => ?_⟩
  unfold Lib.TabIs at h ⊢
  have hlt : g < w.heap.size := by
    unfold World.var? at h
    rw [hg] at h
    simp only [Option.bind_some] at h
    rcases Nat.lt_or_ge g w.heap.size with h1 | h1
    · exact h1
    · rw [Array.getElem?_eq_none h1] at h; cases h
  exact var?_below hb hg hlt h
end Go.Proofs.YtibndaianhlcaaaGreatDoor
namespace Go.Proofs.YtibndaianhlcaaaGreatDoor
open Go.RowKit Go.ChangeShapes Go.WideShapes
set_option linter.unusedVariables false
set_option linter.unusedSimpArgs false

/-- What the globals hold, now and later: internal/bytealg.MaxLen some number. -/
structure MaxOk (w : World) : Prop where
  max : ∀ w', Below w.heap.size w w' → ∃ m, w'.cell? ⟨0, 0, none⟩ = some (.int .i64 m)
theorem MaxOk.below {w w' : World} (h : MaxOk w) (hb : Below w.heap.size w w') : MaxOk w' := ⟨fun v hv => h.max v (hb.trans (hv.mono hb.size))⟩
theorem MaxOk.now {w : World} (h : MaxOk w) : ∃ m, w.cell? ⟨0, 0, none⟩ = some (.int .i64 m) := h.max w (Below.refl _ w)

def Iface (v : Value) : Prop := v = .nilIface ∨ ∃ te pe, v = .iface te pe
/-- What the globals hold, now and later: strconv.ErrSyntax and ErrRange some error each. -/
structure AtoiOk (w : World) : Prop where
  syn : ∀ w', Below w.heap.size w w' → ∃ v, w'.cell? ⟨3, 0, none⟩ = some v ∧ Iface v
  ran : ∀ w', Below w.heap.size w w' → ∃ v, w'.cell? ⟨4, 0, none⟩ = some v ∧ Iface v
theorem AtoiOk.below {w w' : World} (h : AtoiOk w) (hb : Below w.heap.size w w') : AtoiOk w' := ⟨fun v hv => h.syn v (hb.trans (hv.mono hb.size)), fun v hv => h.ran v (hb.trans (hv.mono hb.size))⟩

def AtoiPost (w : World) (q : Txt) : Ending → World → Prop := fun e w' => Below w.heap.size w w' ∧ ∃ v err, e = .returned (.tuple #[.int .i64 v, err]) ∧
  ((err = .nilIface ∧ Lib.atoiAll q = .ok v) ∨ ((∃ N, err = .iface 170 (.pointer (some ⟨N, 0, none⟩))) ∧ ∀ u, Lib.atoiAll q ≠ .ok u))
theorem atoi_any (w : World) (q : Txt) (hq : q.length ≤ 100000000) (hm : AtoiOk w) : Calls Tryz.prog 104 #[.string ⟨q.toArray⟩] w (AtoiPost w q) := by
  have hsz : (ByteArray.mk q.toArray).size = q.length := rfl
  rcases hc : Lib.atoiAll q with v | _ | _
  ·
    refine (Tryz.strconv_Atoi_ok ⟨q.toArray⟩ (by omega) v hc w).mono ?_
    rintro e w' ⟨rfl, hw⟩
    refine ⟨?_, v, .nilIface, rfl, .inl ⟨rfl, hc⟩⟩
    rcases hw with rfl | ⟨t, rfl⟩
    · exact Below.refl _ _
    · exact Lib.bytesWorld_below _ _ _
  ·
    obtain ⟨ev, h1, h2⟩ := hm.syn w (Below.refl _ w)
    refine (Tryz.strconv_Atoi_syntax ⟨q.toArray⟩ (by omega) (fun v e => by have e2 := hc.symm.trans e; cases e2) (fun e => by have e2 := hc.symm.trans e; cases e2) ev w h1 h2).mono ?_
    rintro e w' ⟨N, rfl, _, _, hb⟩
    exact ⟨hb, _, _, rfl, .inr ⟨⟨N, rfl⟩, fun u hu => by rw [hc] at hu; cases hu⟩⟩
  ·
    obtain ⟨ev, h1, h2⟩ := hm.ran w (Below.refl _ w)
    refine (Tryz.strconv_Atoi_range ⟨q.toArray⟩ (by omega) hc ev w h1 h2).mono ?_
    rintro e w' ⟨N, rfl, _, _, hb⟩
    exact ⟨hb, _, _, rfl, .inr ⟨⟨N, rfl⟩, fun u hu => by rw [hc] at hu; cases hu⟩⟩
theorem g_pow : Tryz.prog.globalNamed "internal/strconv.uint64pow10" = some 5 := by kernel_rfl
theorem g_syn : Tryz.prog.globalNamed "strconv.ErrSyntax" = some 3 := by kernel_rfl
theorem g_ran : Tryz.prog.globalNamed "strconv.ErrRange" = some 4 := by kernel_rfl
set_option maxRecDepth 100000 in
theorem pow_tab {l : List (String × DataW Unit)} {W : World} (hl : l.filter (fun x => x.1 == "internal/strconv.uint64pow10") = [("internal/strconv.uint64pow10", Lib.tabData .u64 Lib.pow10Tab)]) (h : laidMetH Tryz.prog l W) : TabOk W := by
  have h1 := h.filter (fun x => x.1 == "internal/strconv.uint64pow10")
  rw [hl, MakeChecks.laidMetH_plain _ _ _ (by kernel_rfl)] at h1
  exact tab_ok g_pow (Lib.tabIs_of_head (rest := []) g_pow (by kernel_rfl) Tryz.underlying196 Tryz.underlying182 (by kernel_rfl) (by kernel_rfl) h1)
theorem iface_laid {W : World} {name nm : String} {d : DataW Unit} {g : Nat} {ti : TypeId} {ms : Array (String × TypeId)} (hg : Tryz.prog.globalNamed name = some g) (hty : (Tryz.prog.globals[g]?).map (·.type) = some ti)
    (hi : Tryz.prog.underlying ti = some (.interface ms)) (h : laidMet Tryz.prog [(name, .iface nm d)] W) : ∃ v, W.cell? ⟨g, 0, none⟩ = some v ∧ Iface v := by
  obtain ⟨ps, ⟨g', t', cs, fuel, p, q, hg', ht', hvar, hd, _, _⟩, _⟩ := h
  obtain rfl := Option.some.inj (hg.symm.trans hg')
  obtain rfl := Option.some.inj (hty.symm.trans ht')
  obtain ⟨_, u, v, hcs, _, _⟩ := iface_of_trod hi hd
  have h0 := World.var?_cell hg hvar 0
  have h1 : cs[0]? = some (.iface u v) := by rw [← Array.getElem?_toList, hcs]; rfl
  exact ⟨_, h0.trans h1, .inr ⟨u, v, rfl⟩⟩
theorem iface_later {W w' : World} {g : Nat} (h : ∃ v, W.cell? ⟨g, 0, none⟩ = some v ∧ Iface v) (hb : Below W.heap.size W w') : ∃ v, w'.cell? ⟨g, 0, none⟩ = some v ∧ Iface v := by
  obtain ⟨v, hv, hi⟩ := h
  exact ⟨v, (hb.cell (p := ⟨g, 0, none⟩) (World.block_lt_of_cell? _ _ hv)).trans hv, hi⟩
set_option maxRecDepth 100000 in
theorem atoi_vars0 {l : List (String × DataW Unit)} {W : World} {n1 n2 : String} {d1 d2 : DataW Unit} (h1 : l.filter (fun x => x.1 == "strconv.ErrSyntax") = [("strconv.ErrSyntax", .iface n1 d1)])
    (h2 : l.filter (fun x => x.1 == "strconv.ErrRange") = [("strconv.ErrRange", .iface n2 d2)]) (hh1 : ([(("strconv.ErrSyntax" : String), (.iface n1 d1 : DataW Unit))].all fun x => x.2.handleName?.isNone) = true) (hh2 : ([(("strconv.ErrRange" : String), (.iface n2 d2 : DataW Unit))].all fun x => x.2.handleName?.isNone) = true)
    (h : laidMetH Tryz.prog l W) : AtoiOk W := by
  have k1 := h.filter (fun x => x.1 == "strconv.ErrSyntax")
  have k2 := h.filter (fun x => x.1 == "strconv.ErrRange")
  rw [h1, MakeChecks.laidMetH_plain _ _ _ hh1] at k1
  rw [h2, MakeChecks.laidMetH_plain _ _ _ hh2] at k2
  have i1 := iface_laid g_syn (by kernel_rfl) Tryz.underlying116 k1
  have i2 := iface_laid g_ran (by kernel_rfl) Tryz.underlying116 k2
  exact ⟨fun w' hb => iface_later i1 hb, fun w' hb => iface_later i2 hb⟩
theorem atoi_vars {l : List (String × DataW Unit)} {W : World} (h1 : l.filter (fun x => x.1 == "strconv.ErrSyntax") = [("strconv.ErrSyntax", .iface "*errors.errorString" (.ptr (.agg [.lit (.string [105, 110, 118, 97, 108, 105, 100, 32, 115, 121, 110, 116, 97, 120])])))])
    (h2 : l.filter (fun x => x.1 == "strconv.ErrRange") = [("strconv.ErrRange", .iface "*errors.errorString" (.ptr (.agg [.lit (.string [118, 97, 108, 117, 101, 32, 111, 117, 116, 32, 111, 102, 32, 114, 97, 110, 103, 101])])))]) (h : laidMetH Tryz.prog l W) : AtoiOk W :=
  atoi_vars0 h1 h2 (by kernel_rfl) (by kernel_rfl) h
set_option maxRecDepth 100000 in
theorem max_var {W : World} (h : W.ShapedOpen Tryz.prog) : MaxOk W := by
  obtain ⟨m, hm⟩ := cell_of_shapedOpen_int (P := Tryz.prog) (g := 0) (t := 3) (zero := #[.int .i64 0]) (k := .i64) h (of_decide_eq_true (by kernel_rfl)) (by kernel_rfl) rfl (by kernel_rfl) (by kernel_rfl) Tryz.underlying3
  exact ⟨fun w' hb => ⟨m, (hb.cell (p := ⟨0, 0, none⟩) (World.block_lt_of_cell? _ _ hm)).trans hm⟩⟩

end Go.Proofs.YtibndaianhlcaaaGreatDoor
namespace Go.Proofs.YtibndaianhlcaaaGreatDoor
open Go.RowKit Go.ChangeShapes Go.WideShapes Go.Deep
set_option linter.unusedVariables false

theorem flatMap_get {α : Type} (g : α → List Value) (sz : Nat) : ∀ (l : List α), (∀ x ∈ l, (g x).length = sz) → ∀ (i j : Nat) (hi : i < l.length), j < sz → (l.flatMap g)[i * sz + j]? = (g l[i])[j]? := by
  intro l
  induction l with
  | nil => intro _ i j hi; simp at hi
  | cons x l ih =>
    intro hg i j hi hj
    have hx := hg x List.mem_cons_self
    cases i with
    | zero =>
      simp only [List.flatMap_cons, Nat.zero_mul, Nat.zero_add, List.getElem_cons_zero]
      rw [List.getElem?_append_left (by omega)]
    | succ i =>
      simp only [List.flatMap_cons, List.getElem_cons_succ]
      rw [Nat.succ_mul, List.getElem?_append_right (by omega)]
      have := ih (fun y hy => hg y (List.mem_cons_of_mem _ hy)) i j (by simpa using hi) hj
      rw [← this]
      congr 1
      omega
theorem flatMap_len {α : Type} (g : α → List Value) (sz : Nat) : ∀ (l : List α), (∀ x ∈ l, (g x).length = sz) → (l.flatMap g).length = l.length * sz := by
  intro l
  induction l with
  | nil => intro _; simp
  | cons x l ih =>
    intro hg
    rw [List.flatMap_cons, List.length_append, hg x List.mem_cons_self, ih (fun y hy => hg y (List.mem_cons_of_mem _ hy)), List.length_cons, Nat.succ_mul, Nat.add_comm]

/-- Cells element by element make a slice that reads as a list. -/
theorem slc_of_elems {α : Type} {w : World} {B sz : Nat} {b off n c : Nat} (g : α → List Value) (l : List α) (hg : ∀ x ∈ l, (g x).length = sz) (hl : l.length = n) (hnc : n ≤ c) (hc : c ≤ maxLen) (hb : b < B)
    (hcell : ∀ i (hi : i < l.length), ∀ j u, (g l[i])[j]? = some u → w.cell? ⟨b, off + (i * sz + j), none⟩ = some u) : Slc w B sz (some ⟨b, off, none⟩) n c (l.flatMap g) := by
  refine ⟨by rw [flatMap_len g sz l hg, hl], hnc, hc, fun _ => ⟨b, off, rfl, hb, fun q u hu => ?_⟩⟩
  have hq : q < l.length * sz := by
    rcases Nat.lt_or_ge q (l.length * sz) with h | h
    · exact h
    · rw [List.getElem?_eq_none (by rw [flatMap_len g sz l hg]; exact h)] at hu; cases hu
  have hsz : 0 < sz := by
    rcases Nat.eq_zero_or_pos sz with h | h
    · subst h; simp at hq
    · exact h
  have hi : q / sz < l.length := (Nat.div_lt_iff_lt_mul hsz).2 hq
  have hqe : q = q / sz * sz + q % sz := by rw [Nat.mul_comm]; exact (Nat.div_add_mod q sz).symm
  rw [hqe] at hu ⊢
  rw [flatMap_get g sz l hg _ _ hi (Nat.mod_lt _ hsz)] at hu
  exact hcell _ hi _ _ hu

section
variable {H : Type} {enc : TypeId × Value → H} {P : Program} {w : World} {base : Nat} {spare : Nat → Bool} {held : Bool}
/-- A slice of structs of one-cell fields, opened. -/
theorem open_slice_fields {t e : TypeId} {fs : Array Field} {fuel : Nat} {cs : List Value} {x : DataW H × List MemPlace} (ht : P.underlying t = some (.slice e)) (he : P.underlying e = some (.struct fs))
    (hone : oneCellFields P fs = true) (hC : P.cellsOf e = fs.size) (h : DataW.trod enc P w base spare held fuel t cs = some x) :
    (cs = [.slice none 0 0] ∧ x = (.nil, [])) ∨
    ∃ (a : Addr) (len cap m : Nat) (D : Nat → DataW H) (Pl : Nat → List MemPlace), cs = [.slice (some a) len cap] ∧ base ≤ a.block ∧ len ≤ cap ∧ cap ≤ maxLen ∧ m = (if spare a.block then cap else len) ∧
      x = (.slice ((List.range len).map D) ((List.range (m - len)).map fun j => D (len + j)), MemPlace.row a (m * fs.size) ++ (List.range m).flatMap Pl) ∧
      ∀ i, i < m → ∃ (ys : List (DataW H × List MemPlace)) (n : Nat), D i = .agg (ys.map (·.1)) ∧ Pl i = ys.flatMap (·.2) ∧ ys.length = fs.size ∧
        ∀ (j : Nat) (f : Field), fs[j]? = some f → ∃ (v : Value) (y : DataW H × List MemPlace), w.cell? (a.add (i * fs.size + j)) = some v ∧ ys[j]? = some y ∧ DataW.trod enc P w base spare held n f.type [v] = some y := by
  rcases open_slice ht h with h0 | ⟨a, len, cap, m, n, D, Pl, hcs, hb, hl, hm, hmm, hx, hi⟩
  · exact .inl h0
  · refine .inr ⟨a, len, cap, m, D, Pl, hcs, hb, hl, hm, hmm, by rw [hC] at hx; exact hx, fun i him => ?_⟩
    obtain ⟨cs', hc, ht'⟩ := hi i him
    rw [hC] at hc
    obtain ⟨ys, n', hn', hy, hlen, hyl, hf⟩ := DataW.trod_struct he ht'
    obtain ⟨_, hcl, hat⟩ := World.cells?_some hc
    simp only [Prod.mk.injEq] at hy
    refine ⟨ys, n', hy.1, hy.2, hyl, fun j f hj => ?_⟩
    obtain ⟨ho, hk⟩ := hone_of hone j f hj
    have hjl : j < fs.size := (Array.getElem?_eq_some_iff.1 hj).1
    have hcell := hat j hjl
    have hv : cs'[j]? = some (cs'[j]'(by omega)) := List.getElem?_eq_getElem (by omega)
    have h1 := hf j f hj
    rw [ho, hk] at h1
    have hone' : (cs'.drop j).take 1 = [cs'[j]'(by omega)] := by
      rw [List.drop_eq_getElem_cons (by omega)]
      rfl
    rw [hone'] at h1
    have hys : ys[j]? = some (ys[j]'(by omega)) := List.getElem?_eq_getElem (by omega)
    refine ⟨_, _, ?_, hys, h1.trans hys⟩
    rw [← Go.Deep.add_add, hcell, hv]
end

theorem weights_all {H : Type} {P : Program} {e : TypeId} : ∀ {ds : List (DataW H)} {d : DataW H}, d ∈ ds → ∀ n ∈ d.weights P e, n ∈ DataW.weightsAll P e ds := by
  intro ds
  induction ds with
  | nil => intro d h; cases h
  | cons x ds ih =>
    intro d h n hn
    simp only [DataW.weightsAll, List.mem_append]
    rcases List.mem_cons.1 h with rfl | h
    · exact .inl hn
    · exact .inr (ih h n hn)
/-- What a field within an element of a slice weighs. -/
theorem weights_field {H : Type} {P : Program} {t e ft : TypeId} {fs : Array Field} (ht : P.underlying t = some (.slice e)) (he : P.underlying e = some (.struct fs)) {elems spare parts : List (DataW H)} {d : DataW H} {j : Nat}
    (hm : .agg parts ∈ elems) (hj : parts[j]? = some d) (hf : (fs.toList.map (·.type))[j]? = some ft) : ∀ n ∈ d.weights P ft, n ∈ (DataW.slice elems spare).weights P t := by
  intro n hn
  simp only [DataW.weights, ht, List.mem_cons, List.mem_append]
  refine .inr (.inl (weights_all hm n ?_))
  simp only [DataW.weights, he]
  exact DataW.weights_mem_each hf hj n hn
theorem weights_le {H : Type} {P : Program} {ts : List TypeId} {ds : List (DataW H)} (h : (DataW.weightsEach P ts ds).all (· ≤ reachBytes) = true) {j : Nat} {t : TypeId} {d : DataW H} (ht : ts[j]? = some t) (hd : ds[j]? = some d) : ∀ n ∈ d.weights P t, n ≤ 140737488351232 := by
  intro n hn
  have := List.all_eq_true.1 h n (DataW.weights_mem_each ht hd n hn)
  have e : reachBytes = 140737488351232 := rfl
  rw [e] at this
  simpa using this
end Go.Proofs.YtibndaianhlcaaaGreatDoor
namespace Go.Proofs.YtibndaianhlcaaaGreatDoor
open Go.RowKit Go.ChangeShapes Go.WideShapes
open Go.ChangeMaps (open_string)
set_option linter.unusedVariables false

theorem reach_eq : reachBytes = 140737488351232 := rfl

theorem u64_of_wf {x : Int} (h : (Lit.int .u64 x).wf = true) : ∃ s : UInt64, x = (s.toNat : Int) := by
  have h1 : 0 ≤ x ∧ x ≤ 18446744073709551615 := by simpa [Lit.wf, IntKind.min, IntKind.max, IntKind.signed, IntKind.bits] using h
  have hx : x.toNat < 2 ^ 64 := by omega
  refine ⟨UInt64.ofNat x.toNat, ?_⟩
  rw [UInt64.toNat_ofNat_of_lt' hx]
  omega

theorem byte_wf {x : Int} (h : (Lit.int .u8 x).wf = true) : 0 ≤ x ∧ x < 256 := by
  have h1 : 0 ≤ x ∧ x ≤ 255 := by simpa [Lit.wf, IntKind.min, IntKind.max, IntKind.signed, IntKind.bits] using h
  omega

set_option maxRecDepth 100000 in
/-- An argument of type []byte, opened. -/
theorem open_bytes {H : Type} {enc : TypeId × Value → H} {W : World} {base : Nat} {v : Value} {d : DataW H} {p : List MemPlace}
    (o : Value.okWide Tryz.prog W .any base 33 v) (k : DataW.Trod enc Tryz.prog W 0 (fun _ => true) true 33 v d p) :
    ∃ A n c, ∃ l : List UInt8, v = .slice A n c ∧ Slc W W.heap.size 1 A n c (l.map bv) ∧ (n = 0 ∨ ∃ elems spare, d = .slice elems spare ∧ n ≤ elems.length + spare.length) := by
  obtain ⟨a0, len, cap, rfl⟩ := okWide_slice Tryz.underlying33 o
  obtain ⟨fuel, hf⟩ := k
  rcases open_ints Tryz.underlying33 Tryz.underlying5 (by kernel_rfl) hf with ⟨hcs, _⟩ | ⟨x, l, c, zs, hcs, _, hl, hm, hz, hx, hcell, hwz⟩
  · simp [Value.cells] at hcs
    obtain ⟨rfl, rfl, rfl⟩ := hcs
    exact ⟨none, 0, 0, [], rfl, ⟨rfl, Nat.le_refl _, Nat.zero_le _, fun h => absurd h (by decide)⟩, .inl rfl⟩
  · simp [Value.cells] at hcs
    obtain ⟨rfl, rfl, rfl⟩ := hcs
    simp only [if_true] at hz
    have hcast : ∀ i (hi : i < zs.length), ((UInt8.ofNat zs[i].toNat).toNat : Int) = zs[i] := fun i hi => by
      have := byte_wf (hwz zs[i] (List.getElem_mem hi))
      rw [UInt8.toNat_ofNat_of_lt' (show zs[i].toNat < 2 ^ 8 by omega)]
      omega
    refine ⟨some x, len, cap, (zs.take len).map fun z => UInt8.ofNat z.toNat, rfl, ⟨by simp; omega, hl, hm, fun h0 => ?_⟩, ?_⟩
    · have h1 := hcell 0 (by omega)
      have hs : x.spot = none := by simpa [Addr.add] using World.cell?_spot h1
      have hblk : x.block < W.heap.size := by have := World.block_lt_of_cell? _ _ h1; simpa [block_add] using this
      obtain ⟨b, off, sp⟩ := x
      simp only at hs hblk
      subst hs
      refine ⟨b, off, rfl, hblk, fun j u hu => ?_⟩
      have hj : j < len := by
        rcases Nat.lt_or_ge j len with h | h
        · exact h
        · rw [List.getElem?_eq_none (by simp; omega)] at hu; cases hu
      have hjz : j < zs.length := by omega
      have h2 := hcell j hjz
      rw [addr_of_add] at h2
      rw [h2]
      simp only [List.map_map, List.getElem?_map, List.getElem?_take, hj, if_true, List.getElem?_eq_getElem hjz, Option.map_some, Option.some.injEq] at hu
      subst hu
      simp only [Function.comp, bv, hcast j hjz, List.getD, List.getElem?_eq_getElem hjz, Option.getD_some]
    · refine .inr ?_
      have hd := congrArg Prod.fst hx
      simp only at hd
      refine ⟨_, _, hd, ?_⟩
      simp [lits]
      omega

/-- A cell that reads as a []byte, opened. -/
theorem open_bytes_cells {H : Type} {enc : TypeId × Value → H} {W : World} {v : Value} {y : DataW H × List MemPlace}
    (k : ∃ n, DataW.trod enc Tryz.prog W 0 (fun _ => true) true n 33 [v] = some y) :
    ∃ A n c, ∃ l : List UInt8, v = .slice A n c ∧ Slc W W.heap.size 1 A n c (l.map bv) ∧ (n = 0 ∨ ∃ elems spare, y.1 = .slice elems spare ∧ n ≤ elems.length + spare.length) := by
  obtain ⟨fuel, hf⟩ := k
  rcases open_ints Tryz.underlying33 Tryz.underlying5 (by kernel_rfl) hf with ⟨hcs, _⟩ | ⟨x, len, cap, zs, hcs, _, hl, hm, hz, hx, hcell, hwz⟩
  · injection hcs with hcs
    subst hcs
    exact ⟨none, 0, 0, [], rfl, ⟨rfl, Nat.le_refl _, Nat.zero_le _, fun h => absurd h (by decide)⟩, .inl rfl⟩
  · injection hcs with hcs
    subst hcs
    simp only [if_true] at hz
    have hcast : ∀ i (hi : i < zs.length), ((UInt8.ofNat zs[i].toNat).toNat : Int) = zs[i] := fun i hi => by
      have := byte_wf (hwz zs[i] (List.getElem_mem hi))
      rw [UInt8.toNat_ofNat_of_lt' (show zs[i].toNat < 2 ^ 8 by omega)]
      omega
    refine ⟨some x, len, cap, (zs.take len).map fun z => UInt8.ofNat z.toNat, rfl, ⟨by simp; omega, hl, hm, fun h0 => ?_⟩, ?_⟩
    · have h1 := hcell 0 (by omega)
      have hs : x.spot = none := by simpa [Addr.add] using World.cell?_spot h1
      have hblk : x.block < W.heap.size := by have := World.block_lt_of_cell? _ _ h1; simpa [block_add] using this
      obtain ⟨b, off, sp⟩ := x
      simp only at hs hblk
      subst hs
      refine ⟨b, off, rfl, hblk, fun j u hu => ?_⟩
      have hj : j < len := by
        rcases Nat.lt_or_ge j len with h | h
        · exact h
        · rw [List.getElem?_eq_none (by simp; omega)] at hu; cases hu
      have hjz : j < zs.length := by omega
      have h2 := hcell j hjz
      rw [addr_of_add] at h2
      rw [h2]
      simp only [List.map_map, List.getElem?_map, List.getElem?_take, hj, if_true, List.getElem?_eq_getElem hjz, Option.map_some, Option.some.injEq] at hu
      subst hu
      simp only [Function.comp, bv, hcast j hjz, List.getD, List.getElem?_eq_getElem hjz, Option.getD_some]
    · refine .inr ?_
      have hd := congrArg Prod.fst hx
      simp only at hd
      refine ⟨_, _, hd, ?_⟩
      simp [lits]
      omega

theorem bytes_size : Tryz.prog.bytesOf 5 = 1 := by kernel_rfl


theorem int_wf {x : Int} (h : (Lit.int .i64 x).wf = true) : -9223372036854775808 ≤ x ∧ x ≤ 9223372036854775807 := by
  simpa [Lit.wf, IntKind.min, IntKind.max, IntKind.signed, IntKind.bits] using h
theorem u8_of_wf {x : Int} (h : (Lit.int .u8 x).wf = true) : ∃ c : UInt8, x = (c.toNat : Int) := by
  have := byte_wf h
  exact ⟨UInt8.ofNat x.toNat, by rw [UInt8.toNat_ofNat_of_lt' (show x.toNat < 2 ^ 8 by omega)]; omega⟩
end Go.Proofs.YtibndaianhlcaaaGreatDoor
namespace Go.Proofs.YtibndaianhlcaaaGreatDoor
open Go.RowKit Go.Sort
set_option linter.unusedVariables false
set_option linter.unusedSimpArgs false

/-- An entry as memory has it: its text, its number, its bytes and where they lie. -/
structure EV where
  path : Txt
  kind : Int
  data : Txt
  A : Option Addr
  n : Nat
  c : Nat
def EV.ent (e : EV) : Ent := ⟨e.path, e.kind, e.data⟩
def evCells (e : EV) : List Value := [.string ⟨e.path.toArray⟩, .int .i64 e.kind, .slice e.A e.n e.c]
theorem evCells_length (e : EV) : (evCells e).length = 3 := rfl

/-- A list of entries in memory, below block B. -/
structure EntsAt (w : World) (B : Nat) (A : Option Addr) (n c : Nat) (es : List EV) : Prop where
  slc : Slc w B 3 A n c (es.flatMap evCells)
  len : es.length = n
  data : ∀ e ∈ es, Slc w B 1 e.A e.n e.c (e.data.map bv)
theorem EntsAt.below {w w' : World} {B : Nat} {A : Option Addr} {n c : Nat} {es : List EV} (h : EntsAt w B A n c es) (hb : Below B w w') : EntsAt w' B A n c es :=
  ⟨h.slc.below hb, h.len, fun e he => (h.data e he).below hb⟩
/-- An entry's cells, for a walk. -/
theorem EntsAt.at_ {w : World} {B : Nat} {A : Option Addr} {n c : Nat} {es : List EV} (h : EntsAt w B A n c es) {k : Nat} (hk : k < n) :
    ∃ b off, A = some ⟨b, off, none⟩ ∧ b < B ∧ ∃ hl : k < es.length, w.cell? ⟨b, off + k * 3, none⟩ = some (.string ⟨es[k].path.toArray⟩) ∧ w.cell? ⟨b, off + k * 3 + 1, none⟩ = some (.int .i64 es[k].kind) ∧
      w.cell? ⟨b, off + k * 3 + 2, none⟩ = some (.slice es[k].A es[k].n es[k].c) ∧ Slc w B 1 es[k].A es[k].n es[k].c (es[k].data.map bv) := by
  obtain ⟨b, off, e, hb, hc⟩ := h.slc.at_ (by omega)
  have hl : k < es.length := by rw [h.len]; exact hk
  have g : ∀ j u, j < 3 → (evCells es[k])[j]? = some u → w.cell? ⟨b, off + k * 3 + j, none⟩ = some u := fun j u hj hu => by
    have := hc (k * 3 + j) u (by rw [flatMap_get evCells 3 es (fun o _ => evCells_length o) k j hl hj]; exact hu)
    rwa [← Nat.add_assoc] at this
  exact ⟨b, off, e, hb, hl, g 0 _ (by decide) rfl, g 1 _ (by decide) rfl, g 2 _ (by decide) rfl, h.data _ (List.getElem_mem hl)⟩

theorem str_info : (Tryz.prog.info? 9).map (fun i => (i.zero, i.size, i.bytes)) = some (some (.string .empty), 1, 16) := by kernel_rfl
/-- append of a text onto a row of the call's own. -/
theorem append_str (w : World) (base : Nat) (v : Value) (n : Nat) (l : List Txt) (hown : w.ownsRow base 9 1 v n (l.map encStr)) (x : Txt) (hb : n ≤ 1000000000) (hbase : base ≤ w.heap.size) :
    ∃ A' c' w', (Builtin.append_ #[23, 23] 23 #[v, .slice (some ⟨w.heap.size, 0, none⟩) 1 1]).run Tryz.prog (w.alloc (.cells #[.string ⟨x.toArray⟩] 9)) = .ok (.slice A' (n + 1) c') w' ∧ w'.ownsRow base 9 1 (.slice A' (n + 1) c') (n + 1) ((l ++ [x]).map encStr) ∧ (w.alloc (.cells #[.string ⟨x.toArray⟩] 9)).grownBy w' v.ownBlock ∧
      ((Value.slice A' (n + 1) c').ownBlock = v.ownBlock ∨ (Value.slice A' (n + 1) c').ownBlock = some (w.heap.size + 1)) := by
  obtain ⟨i, hi, hz0, hz1, hz2⟩ := info_parts str_info
  have hS := slc_new w 9 (0, 0) #[.string ⟨x.toArray⟩] (sz := 1) (n := 1) (c := 1) rfl (Nat.le_refl _) (by decide)
  obtain ⟨A', c', w', h1, h2, h3, h4⟩ := append_slc (P := Tryz.prog) (w.alloc (.cells #[.string ⟨x.toArray⟩] 9)) base 23 23 _ i _ 1 16 Tryz.underlying23 hi hz0 hz1 hz2 rfl (by decide) v n (l.map encStr) (hown.alloc _) _ _ 1 1 [.string ⟨x.toArray⟩] hS (fun u hu => by rw [List.mem_singleton.1 hu]; rfl) (by unfold maxLen; omega) (by omega) (by simp; omega)
  exact ⟨A', c', w', h1, by rw [List.map_append]; exact h2, h3, by rwa [World.size_alloc] at h4⟩

end Go.Proofs.YtibndaianhlcaaaGreatDoor
