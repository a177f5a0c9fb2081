/-
  Contracts of Go's library, laid at this program by the kit's own tool. Conditions: as each theorem says.
  What the lexer's signs and preprocessor lines come to. Conditions: the scanner's cells and its list of signs lie in memory, and the text is short.
  What the lexer's preprocessor lines come to. Conditions: the scanner's cells lie in memory, and the text is short.
  What the lexer reads ahead of a token: comments, blanks. Conditions: the scanner's cells lie in memory, the text is short, and the library's variable MaxLen holds a number.
-/
import Derived.Shelf.Strings.Builder1
import Derived.Shelf.Strings.Builder2
import Derived.Shelf.Strings.OnBuilder
import Derived.Shelf.Small.Utf8
import Derived.Shelf.Small.Bits
import Derived.Shelf.Small.Strs
import Derived.Shelf.Strings.BuilderF
import Derived.Shelf.Strings.BuilderK
import Derived.Shelf.Strings.BuilderRune
import Derived.Shelf.Strconv.Itoa0
import Derived.Shelf.Strconv.ParseIntEmpty
import Derived.Shelf.LaysM
import Derived.Shelf.Strconv.Clone
import Derived.Shelf.Strconv.SyntaxError
import Derived.Shelf.LaysC
import Derived.Shelf.Strconv.ToError
import Derived.Shelf.Strconv.Lower
import Derived.Shelf.Strconv.ParseUint10
import Derived.Shelf.Strconv.ParseUint10Empty
import Derived.Shelf.Strconv.ParseUint10Any
import Derived.Shelf.Strconv.ParseInt10
import Derived.Shelf.Strconv.RangeError
import Derived.Shelf.Strconv.ToErrorRange
import Derived.Shelf.Strconv.ParseUintEmpty
import Derived.Shelf.Strconv.ParseUint10b64
import Derived.Shelf.Strconv.ParseUint10b32
import Derived.Shelf.Strconv.ParseUint10b16
import Derived.Shelf.Strconv.ParseUint10b8
import Derived.Shelf.Strconv.ParseUint10At
import Derived.Shelf.Strconv.ParseInt10At64
import Derived.Shelf.Strconv.ParseInt10At32
import Derived.Shelf.Strconv.ParseInt10At16
import Derived.Shelf.Strconv.ParseInt10At8
import Derived.Shelf.Strconv.ParseInt10All
import Derived.Shelf.Strconv.ParseIntPublic10
import Derived.Shelf.Strconv.ErrVarParseInt
import Derived.Shelf.Strings.Search1
import Derived.Shelf.Strings.Search2
import Derived.Shelf.Strings.Search3
import Derived.Shelf.Strings.Shaped
import Derived.Shelf.Strings.Prefix
import Derived.Shelf.Strings.Fields
import Derived.Shelf.Strings.SplitShaped
import Derived.Shelf.Unicode.Latin
import Derived.Shelf.Unicode.DecodeSlow
import Derived.Shelf.Unicode.DecodeAny
import Derived.Shelf.Unicode.Is16White
import Derived.Shelf.Unicode.IsSpaceAny
import Derived.Shelf.Unicode.DecodeLast
import Derived.Shelf.Unicode.Is16WhiteD
import Derived.Shelf.Unicode.IsSpaceAnyD
import Derived.Shelf.Strings.FieldsAny
import Derived.Shelf.Strings.FieldsFuncAny
import Derived.Shelf.Unicode.CaseLookup
import Derived.Shelf.Unicode.CaseConvert
import Derived.Shelf.Unicode.CaseTo
import Derived.Shelf.Unicode.CaseLaid
import Derived.Shelf.Strings.MapAny
import Derived.Shelf.Strings.CaseAny
import Derived.Shelf.Unicode.Is16Any
import Derived.Shelf.Unicode.Is32Any
import Derived.Shelf.Unicode.ExclAny
import Derived.Shelf.Slices.Turned
import Derived.Shelf.Slices.Cells
import Derived.Test.YtjnafjgonoficaaGreatDoorProg
import Derived.Test.YtjnafjgonoficaaGreatDoorF01
set_option linter.unusedVariables false
set_option linter.unusedSimpArgs false
namespace Go.Proofs
open Go.Shelf
def Tryz.lays159_ren:Go.Shelf.Ren:=⟨fun | 159=>167 | 165=>183 | 166=>184 | 167=>185 | 169=>186 | 230=>187 | 204=>188 | 240=>201 | 241=>202 | 197=>200 | 118=>203 | 168=>204 | 270=>205 | 262=>206 | 276=>212 | 277=>213 | 260=>211 | 242=>214 | 313=>215 | 278=>218 | 274=>219 | 275=>220 | n=>n,fun | 9=>9 | 4=>4 | 3=>3 | 5=>5 | 72=>212 | 0=>0 | 76=>213 | 75=>151 | 107=>217 | 70=>210 | 20=>20 | 37=>54 | 127=>234 | 21=>21 | 105=>208 | 164=>243 | 162=>249 | 203=>247 | 119=>185 | 46=>132 | 139=>255 | 138=>254 | 51=>162 | 160=>256 | 208=>266 | 206=>264 | 80=>170 | n=>n,fun | 13=>5 | 3=>6 | 4=>7 | n=>n⟩
theorem Tryz.lays159:Go.Proofs.Lays.n159 Tryz.prog Tryz.lays159_ren:={
  mixed:=by kernel_rfl
  f118:=Tryz.func203.trans (congrArg some (by kernel_rfl))
  f159:=Tryz.func167.trans (congrArg some (by kernel_rfl))
  f165:=Tryz.func183.trans (congrArg some (by kernel_rfl))
  f166:=Tryz.func184.trans (congrArg some (by kernel_rfl))
  f167:=Tryz.func185.trans (congrArg some (by kernel_rfl))
  f168:=Tryz.func204.trans (congrArg some (by kernel_rfl))
  f169:=Tryz.func186.trans (congrArg some (by kernel_rfl))
  f197:=Tryz.func200.trans (congrArg some (by kernel_rfl))
  f204:=Tryz.func188.trans (congrArg some (by kernel_rfl))
  f230:=Tryz.func187.trans (congrArg some (by kernel_rfl))
  f240:=Tryz.func201.trans (congrArg some (by kernel_rfl))
  f241:=Tryz.func202.trans (congrArg some (by kernel_rfl))
  f242:=Tryz.func214.trans (congrArg some (by kernel_rfl))
  f260:=Tryz.func211.trans (congrArg some (by kernel_rfl))
  f262:=Tryz.func206.trans (congrArg some (by kernel_rfl))
  f270:=Tryz.func205.trans (congrArg some (by kernel_rfl))
  f274:=Tryz.func219.trans (congrArg some (by kernel_rfl))
  f275:=Tryz.func220.trans (congrArg some (by kernel_rfl))
  f276:=Tryz.func212.trans (congrArg some (by kernel_rfl))
  f277:=Tryz.func213.trans (congrArg some (by kernel_rfl))
  f278:=Tryz.func218.trans (congrArg some (by kernel_rfl))
  f313:=Tryz.func215.trans (congrArg some (by kernel_rfl))
  t0:=Tryz.underlying0
  a0:=Tryz.isAgg0
  z0:=Tryz.sizeOf0
  v0:=Tryz.zeroValue0
  t3:=Tryz.underlying3
  a3:=Tryz.isAgg3
  z3:=Tryz.sizeOf3
  v3:=Tryz.zeroValue3
  t4:=Tryz.underlying4
  a4:=Tryz.isAgg4
  z4:=Tryz.sizeOf4
  v4:=Tryz.zeroValue4
  t5:=Tryz.underlying5
  a5:=Tryz.isAgg5
  z5:=Tryz.sizeOf5
  v5:=Tryz.zeroValue5
  t9:=Tryz.underlying9
  a9:=Tryz.isAgg9
  z9:=Tryz.sizeOf9
  v9:=Tryz.zeroValue9
  t20:=Tryz.underlying20
  a20:=Tryz.isAgg20
  z20:=Tryz.sizeOf20
  v20:=Tryz.zeroValue20
  t21:=Tryz.underlying21
  a21:=Tryz.isAgg21
  z21:=Tryz.sizeOf21
  v21:=Tryz.zeroValue21
  t37:=Tryz.underlying54
  a37:=Tryz.isAgg54
  z37:=Tryz.sizeOf54
  v37:=Tryz.zeroValue54
  t46:=Tryz.underlying132
  a46:=Tryz.isAgg132
  z46:=Tryz.sizeOf132
  v46:=Tryz.zeroValue132
  t51:=Tryz.underlying162
  a51:=Tryz.isAgg162
  z51:=Tryz.sizeOf162
  v51:=Tryz.zeroValue162
  t70:=Tryz.underlying210
  a70:=Tryz.isAgg210
  z70:=Tryz.sizeOf210
  v70:=Tryz.zeroValue210
  t72:=Tryz.underlying212
  a72:=Tryz.isAgg212
  z72:=Tryz.sizeOf212
  v72:=Tryz.zeroValue212
  t75:=Tryz.underlying151
  a75:=Tryz.isAgg151
  z75:=Tryz.sizeOf151
  v75:=Tryz.zeroValue151
  t76:=Tryz.underlying213
  a76:=Tryz.isAgg213
  z76:=Tryz.sizeOf213
  v76:=Tryz.zeroValue213
  t105:=Tryz.underlying208
  a105:=Tryz.isAgg208
  z105:=Tryz.sizeOf208
  v105:=Tryz.zeroValue208
  t107:=Tryz.underlying217
  a107:=Tryz.isAgg217
  z107:=Tryz.sizeOf217
  v107:=Tryz.zeroValue217
  t119:=Tryz.underlying185
  a119:=Tryz.isAgg185
  z119:=Tryz.sizeOf185
  t127:=Tryz.underlying234
  a127:=Tryz.isAgg234
  z127:=Tryz.sizeOf234
  v127:=Tryz.zeroValue234
  t138:=Tryz.underlying254
  a138:=Tryz.isAgg254
  z138:=Tryz.sizeOf254
  v138:=Tryz.zeroValue254
  t139:=Tryz.underlying255
  a139:=Tryz.isAgg255
  z139:=Tryz.sizeOf255
  v139:=Tryz.zeroValue255
  t160:=Tryz.underlying256
  a160:=Tryz.isAgg256
  z160:=Tryz.sizeOf256
  v160:=Tryz.zeroValue256
  t162:=Tryz.underlying249
  a162:=Tryz.isAgg249
  z162:=Tryz.sizeOf249
  v162:=Tryz.zeroValue249
  t164:=Tryz.underlying243
  a164:=Tryz.isAgg243
  z164:=Tryz.sizeOf243
  v164:=Tryz.zeroValue243
  t203:=Tryz.underlying247
  a203:=Tryz.isAgg247
  z203:=Tryz.sizeOf247
  v203:=Tryz.zeroValue247
  t206:=Tryz.underlying264
  a206:=Tryz.isAgg264
  z206:=Tryz.sizeOf264
  v206:=Tryz.zeroValue264
  t208:=Tryz.underlying266
  a208:=Tryz.isAgg266
  z208:=Tryz.sizeOf266
  v208:=Tryz.zeroValue266
  g3:=by kernel_rfl
  g4:=by kernel_rfl
  g13:=by kernel_rfl }
theorem Tryz.Builder_Extra_159:Builder.Extra Tryz.prog Tryz.lays159_ren:={
  sizeBuilder:=by kernel_rfl
  liesBuilder:=by kernel_rfl
  t5:=Tryz.underlying5
  a5:=Tryz.isAgg5
  z5:=Tryz.sizeOf5
  v5:=Tryz.zeroValue5
  infoByte:=by kernel_rfl
  cellsByte:=by kernel_rfl
  sizeByte:=by kernel_rfl
  neB5:=by decide }
def Tryz.lays137_ren:Go.Shelf.Ren:=⟨fun | 137=>160 | 217=>179 | 266=>198 | n=>n,fun | 9=>9 | 5=>5 | 3=>3 | n=>n,fun | n=>n⟩
theorem Tryz.lays137:Go.Proofs.Lays.n137 Tryz.prog Tryz.lays137_ren:={
  mixed:=by kernel_rfl
  f137:=Tryz.func160.trans (congrArg some (by kernel_rfl))
  f217:=Tryz.func179.trans (congrArg some (by kernel_rfl))
  f266:=Tryz.func198.trans (congrArg some (by kernel_rfl))
  t3:=Tryz.underlying3
  a3:=Tryz.isAgg3
  z3:=Tryz.sizeOf3
  v3:=Tryz.zeroValue3
  t5:=Tryz.underlying5
  a5:=Tryz.isAgg5
  z5:=Tryz.sizeOf5
  v5:=Tryz.zeroValue5
  t9:=Tryz.underlying9
  a9:=Tryz.isAgg9
  z9:=Tryz.sizeOf9
  v9:=Tryz.zeroValue9 }
open Go.RowKit in
theorem Tryz.strings_IndexByte (s:ByteArray) (c:Int) (w:World) :
    Calls Tryz.prog 160 #[.string s,.int .u8 c] w fun e w'=>e=.returned (.int .i64 (Lib.indexByte s.data.toList c.toNat.toUInt8))∧w'=w:=Any.strings_IndexByte Tryz.lays137 s c w
def Tryz.laysC174_ren:Go.Shelf.Ren:=⟨fun | 174=>107 | 247=>144 | 245=>145 | 287=>170 | 279=>171 | 280=>172 | 281=>173 | 282=>174 | 321=>190 | 322=>191 | 316=>192 | 171=>194 | 205=>193 | 243=>207 | 246=>216 | 283=>221 | 284=>222 | 285=>223 | 286=>224 | 129=>119 | 317=>225 | 318=>226 | 319=>227 | 320=>228 | 337=>229 | 338=>230 | n=>n,fun | 9=>9 | 3=>3 | 2=>2 | 75=>151 | 85=>152 | 4=>4 | 167=>194 | 5=>5 | 53=>164 | 175=>195 | 46=>132 | 168=>197 | 37=>54 | 0=>0 | 210=>220 | 21=>21 | 127=>234 | 145=>240 | 143=>238 | 171=>259 | 173=>261 | 212=>267 | 51=>162 | 20=>20 | 213=>268 | 232=>270 | 233=>271 | 80=>170 | n=>n,fun | 15=>2 | 16=>3 | 17=>8 | 18=>9 | 19=>10 | n=>n⟩
theorem Tryz.laysC174:Go.Proofs.LaysC.n174 Tryz.prog Tryz.laysC174_ren:={
  mixed:=by kernel_rfl
  f129:=Tryz.func119.trans (congrArg some (by kernel_rfl))
  f171:=Tryz.func194.trans (congrArg some (by kernel_rfl))
  f174:=Tryz.func107.trans (congrArg some (by kernel_rfl))
  f205:=Tryz.func193.trans (congrArg some (by kernel_rfl))
  f243:=Tryz.func207.trans (congrArg some (by kernel_rfl))
  f245:=Tryz.func145.trans (congrArg some (by kernel_rfl))
  f246:=Tryz.func216.trans (congrArg some (by kernel_rfl))
  f247:=Tryz.func144.trans (congrArg some (by kernel_rfl))
  f279:=Tryz.func171.trans (congrArg some (by kernel_rfl))
  f280:=Tryz.func172.trans (congrArg some (by kernel_rfl))
  f281:=Tryz.func173.trans (congrArg some (by kernel_rfl))
  f282:=Tryz.func174.trans (congrArg some (by kernel_rfl))
  f283:=Tryz.func221.trans (congrArg some (by kernel_rfl))
  f284:=Tryz.func222.trans (congrArg some (by kernel_rfl))
  f285:=Tryz.func223.trans (congrArg some (by kernel_rfl))
  f286:=Tryz.func224.trans (congrArg some (by kernel_rfl))
  f287:=Tryz.func170.trans (congrArg some (by kernel_rfl))
  f316:=Tryz.func192.trans (congrArg some (by kernel_rfl))
  f317:=Tryz.func225.trans (congrArg some (by kernel_rfl))
  f318:=Tryz.func226.trans (congrArg some (by kernel_rfl))
  f319:=Tryz.func227.trans (congrArg some (by kernel_rfl))
  f320:=Tryz.func228.trans (congrArg some (by kernel_rfl))
  f321:=Tryz.func190.trans (congrArg some (by kernel_rfl))
  f322:=Tryz.func191.trans (congrArg some (by kernel_rfl))
  f337:=Tryz.func229.trans (congrArg some (by kernel_rfl))
  f338:=Tryz.func230.trans (congrArg some (by kernel_rfl))
  t0:=Tryz.underlying0
  a0:=Tryz.isAgg0
  z0:=Tryz.sizeOf0
  v0:=Tryz.zeroValue0
  t2:=Tryz.underlying2
  a2:=Tryz.isAgg2
  z2:=Tryz.sizeOf2
  v2:=Tryz.zeroValue2
  t3:=Tryz.underlying3
  a3:=Tryz.isAgg3
  z3:=Tryz.sizeOf3
  v3:=Tryz.zeroValue3
  t4:=Tryz.underlying4
  a4:=Tryz.isAgg4
  z4:=Tryz.sizeOf4
  v4:=Tryz.zeroValue4
  t5:=Tryz.underlying5
  a5:=Tryz.isAgg5
  z5:=Tryz.sizeOf5
  v5:=Tryz.zeroValue5
  t9:=Tryz.underlying9
  a9:=Tryz.isAgg9
  z9:=Tryz.sizeOf9
  v9:=Tryz.zeroValue9
  t20:=Tryz.underlying20
  a20:=Tryz.isAgg20
  z20:=Tryz.sizeOf20
  v20:=Tryz.zeroValue20
  t21:=Tryz.underlying21
  a21:=Tryz.isAgg21
  z21:=Tryz.sizeOf21
  v21:=Tryz.zeroValue21
  t37:=Tryz.underlying54
  a37:=Tryz.isAgg54
  z37:=Tryz.sizeOf54
  v37:=Tryz.zeroValue54
  t46:=Tryz.underlying132
  a46:=Tryz.isAgg132
  z46:=Tryz.sizeOf132
  v46:=Tryz.zeroValue132
  t51:=Tryz.underlying162
  a51:=Tryz.isAgg162
  z51:=Tryz.sizeOf162
  v51:=Tryz.zeroValue162
  t53:=Tryz.underlying164
  a53:=Tryz.isAgg164
  z53:=Tryz.sizeOf164
  v53:=Tryz.zeroValue164
  t75:=Tryz.underlying151
  a75:=Tryz.isAgg151
  z75:=Tryz.sizeOf151
  v75:=Tryz.zeroValue151
  t85:=Tryz.underlying152
  a85:=Tryz.isAgg152
  z85:=Tryz.sizeOf152
  v85:=Tryz.zeroValue152
  t127:=Tryz.underlying234
  a127:=Tryz.isAgg234
  z127:=Tryz.sizeOf234
  v127:=Tryz.zeroValue234
  t143:=Tryz.underlying238
  a143:=Tryz.isAgg238
  z143:=Tryz.sizeOf238
  v143:=Tryz.zeroValue238
  t145:=Tryz.underlying240
  a145:=Tryz.isAgg240
  z145:=Tryz.sizeOf240
  v145:=Tryz.zeroValue240
  t167:=Tryz.underlying194
  a167:=Tryz.isAgg194
  z167:=Tryz.sizeOf194
  v167:=Tryz.zeroValue194
  t168:=Tryz.underlying197
  a168:=Tryz.isAgg197
  z168:=Tryz.sizeOf197
  v168:=Tryz.zeroValue197
  t171:=Tryz.underlying259
  a171:=Tryz.isAgg259
  z171:=Tryz.sizeOf259
  v171:=Tryz.zeroValue259
  t173:=Tryz.underlying261
  a173:=Tryz.isAgg261
  z173:=Tryz.sizeOf261
  v173:=Tryz.zeroValue261
  t175:=Tryz.underlying195
  a175:=Tryz.isAgg195
  z175:=Tryz.sizeOf195
  v175:=Tryz.zeroValue195
  t210:=Tryz.underlying220
  a210:=Tryz.isAgg220
  z210:=Tryz.sizeOf220
  v210:=Tryz.zeroValue220
  t212:=Tryz.underlying267
  a212:=Tryz.isAgg267
  z212:=Tryz.sizeOf267
  v212:=Tryz.zeroValue267
  t213:=Tryz.underlying268
  a213:=Tryz.isAgg268
  z213:=Tryz.sizeOf268
  t232:=Tryz.underlying270
  a232:=Tryz.isAgg270
  z232:=Tryz.sizeOf270
  v232:=Tryz.zeroValue270
  t233:=Tryz.underlying271
  a233:=Tryz.isAgg271
  z233:=Tryz.sizeOf271
  v233:=Tryz.zeroValue271
  g15:=by kernel_rfl
  g16:=by kernel_rfl
  g17:=by kernel_rfl
  g18:=by kernel_rfl
  g19:=by kernel_rfl
  t80:=Tryz.underlying170
  a80:=Tryz.isAgg170
  z80:=Tryz.sizeOf170
  v80:=Tryz.zeroValue170
  i0:=by kernel_rfl
  i2:=by kernel_rfl
  i3:=by kernel_rfl
  i4:=by kernel_rfl
  i5:=by kernel_rfl
  i9:=by kernel_rfl
  i20:=by kernel_rfl
  i21:=by kernel_rfl
  i37:=by kernel_rfl
  i46:=by kernel_rfl
  i51:=by kernel_rfl
  i53:=by kernel_rfl
  i75:=by kernel_rfl
  i80:=by kernel_rfl
  i85:=by kernel_rfl
  i127:=by kernel_rfl
  i143:=by kernel_rfl
  i145:=by kernel_rfl
  i167:=by kernel_rfl
  i168:=by kernel_rfl
  i171:=by kernel_rfl
  i173:=by kernel_rfl
  i175:=by kernel_rfl
  i210:=by kernel_rfl
  i212:=by kernel_rfl
  i232:=by kernel_rfl
  i233:=by kernel_rfl
  m15:=by kernel_rfl
  m16:=by kernel_rfl
  m17:=by kernel_rfl
  m18:=by kernel_rfl
  m19:=by kernel_rfl
  c0:=by kernel_rfl
  c2:=by kernel_rfl
  c3:=by kernel_rfl
  c4:=by kernel_rfl
  c5:=by kernel_rfl
  c9:=by kernel_rfl
  c20:=by kernel_rfl
  c21:=by kernel_rfl
  c37:=by kernel_rfl
  c46:=by kernel_rfl
  c51:=by kernel_rfl
  c53:=by kernel_rfl
  c75:=by kernel_rfl
  c80:=by kernel_rfl
  c85:=by kernel_rfl
  c127:=by kernel_rfl
  c143:=by kernel_rfl
  c145:=by kernel_rfl
  c167:=by kernel_rfl
  c168:=by kernel_rfl
  c171:=by kernel_rfl
  c173:=by kernel_rfl
  c175:=by kernel_rfl
  c210:=by kernel_rfl
  c212:=by kernel_rfl
  c213:=by kernel_rfl
  c232:=by kernel_rfl
  c233:=by kernel_rfl }
open Go.RowKit in
theorem Tryz.strconv_ParseInt_10_at64_ok (s:ByteArray) (hmax:s.size ≤ 9223372036854775806) (v:Int) (h:Lib.parseIntB 64 s.data.toList=.ok v) (w:World) :
    Calls Tryz.prog 107 #[.string s,.int .i64 10,.int .i64 64] w fun e w'=>e=.returned (.tuple #[.int .i64 v,.nilIface])∧(w'=w ∨ ∃ t,w'=Lib.bytesWorld w 5 t):=Any.strconv_ParseInt_10_at64_ok Tryz.laysC174 s hmax v h w
open Go.RowKit in
theorem Tryz.strconv_ParseInt_10_at64_syntax (s:ByteArray) (hlim:s.size ≤ 281474976710656) (h:Lib.parseIntB 64 s.data.toList=Lib.NumEnd.syntax) (ev:Value) (w:World) (hv:w.cell? ⟨2,0,none⟩=some ev) (hev:ev=.nilIface ∨ ∃ te pe,ev=.iface te pe) :
    Calls Tryz.prog 107 #[.string s,.int .i64 10,.int .i64 64] w fun e w' => ∃ N,e=.returned (.tuple #[.int .i64 (0),.iface 197 (.pointer (some ⟨N,0,none⟩))])∧w.heap.size ≤ N∧w'.heap[N]? = some (.cells #[.string ⟨#[80,97,114,115,101,73,110,116]⟩,.string s,ev] 220 (0,0))∧Below w.heap.size w w':=Any.strconv_ParseInt_10_at64_syntax Tryz.laysC174 s hlim h ev w hv hev
open Go.RowKit in
theorem Tryz.strconv_ParseInt_10_at64_range (s:ByteArray) (hlim:s.size ≤ 281474976710656) (h:Lib.parseIntB 64 s.data.toList=.range) (ev:Value) (w:World) (hv:w.cell? ⟨3,0,none⟩=some ev) (hev:ev=.nilIface ∨ ∃ te pe,ev=.iface te pe) :
    Calls Tryz.prog 107 #[.string s,.int .i64 10,.int .i64 64] w fun e w' => ∃ N,e=.returned (.tuple #[.int .i64 (Lib.intSat 64 s.data.toList),.iface 197 (.pointer (some ⟨N,0,none⟩))])∧w.heap.size ≤ N∧w'.heap[N]? = some (.cells #[.string ⟨#[80,97,114,115,101,73,110,116]⟩,.string s,ev] 220 (0,0))∧Below w.heap.size w w':=Any.strconv_ParseInt_10_at64_range Tryz.laysC174 s hlim h ev w hv hev
def Tryz.lays143_ren:Go.Shelf.Ren:=⟨fun | 143=>177 | 219=>197 | 217=>179 | 225=>208 | 224=>209 | 267=>210 | 266=>198 | 314=>217 | n=>n,fun | 9=>9 | 3=>3 | 4=>4 | 5=>5 | 46=>132 | 146=>251 | 51=>162 | n=>n,fun | 1=>4 | n=>n⟩
theorem Tryz.lays143:Go.Proofs.Lays.n143 Tryz.prog Tryz.lays143_ren:={
  mixed:=by kernel_rfl
  f143:=Tryz.func177.trans (congrArg some (by kernel_rfl))
  f217:=Tryz.func179.trans (congrArg some (by kernel_rfl))
  f219:=Tryz.func197.trans (congrArg some (by kernel_rfl))
  f224:=Tryz.func209.trans (congrArg some (by kernel_rfl))
  f225:=Tryz.func208.trans (congrArg some (by kernel_rfl))
  f266:=Tryz.func198.trans (congrArg some (by kernel_rfl))
  f267:=Tryz.func210.trans (congrArg some (by kernel_rfl))
  f314:=Tryz.func217.trans (congrArg some (by kernel_rfl))
  t3:=Tryz.underlying3
  a3:=Tryz.isAgg3
  z3:=Tryz.sizeOf3
  v3:=Tryz.zeroValue3
  t4:=Tryz.underlying4
  a4:=Tryz.isAgg4
  z4:=Tryz.sizeOf4
  v4:=Tryz.zeroValue4
  t5:=Tryz.underlying5
  a5:=Tryz.isAgg5
  z5:=Tryz.sizeOf5
  v5:=Tryz.zeroValue5
  t9:=Tryz.underlying9
  a9:=Tryz.isAgg9
  z9:=Tryz.sizeOf9
  v9:=Tryz.zeroValue9
  t46:=Tryz.underlying132
  a46:=Tryz.isAgg132
  z46:=Tryz.sizeOf132
  v46:=Tryz.zeroValue132
  t51:=Tryz.underlying162
  a51:=Tryz.isAgg162
  z51:=Tryz.sizeOf162
  v51:=Tryz.zeroValue162
  t146:=Tryz.underlying251
  a146:=Tryz.isAgg251
  z146:=Tryz.sizeOf251
  v146:=Tryz.zeroValue251
  g1:=by kernel_rfl }
open Go.RowKit Go.Lib in
theorem Tryz.strings_Index (s sub:ByteArray) (m:Int) (w:World) (hs:s.size < 4294967281) (hm:w.cell? ⟨4,0,none⟩=some (.int .i64 m)) :
    Calls Tryz.prog 177 #[.string s,.string sub] w fun e w'=>e=.returned (.int .i64 (Lib.index s.data.toList sub.data.toList))∧w'=w:=Any.strings_Index Tryz.lays143 s sub m w hs hm
def Tryz.lays144_ren:Go.Shelf.Ren:=⟨fun | 144=>178 | 143=>177 | 219=>197 | 217=>179 | 225=>208 | 224=>209 | 267=>210 | 266=>198 | 314=>217 | n=>n,fun | 9=>9 | 4=>4 | 3=>3 | 5=>5 | 46=>132 | 146=>251 | 51=>162 | n=>n,fun | 1=>4 | n=>n⟩
theorem Tryz.lays144:Go.Proofs.Lays.n144 Tryz.prog Tryz.lays144_ren:={
  mixed:=by kernel_rfl
  f143:=Tryz.func177.trans (congrArg some (by kernel_rfl))
  f144:=Tryz.func178.trans (congrArg some (by kernel_rfl))
  f217:=Tryz.func179.trans (congrArg some (by kernel_rfl))
  f219:=Tryz.func197.trans (congrArg some (by kernel_rfl))
  f224:=Tryz.func209.trans (congrArg some (by kernel_rfl))
  f225:=Tryz.func208.trans (congrArg some (by kernel_rfl))
  f266:=Tryz.func198.trans (congrArg some (by kernel_rfl))
  f267:=Tryz.func210.trans (congrArg some (by kernel_rfl))
  f314:=Tryz.func217.trans (congrArg some (by kernel_rfl))
  t3:=Tryz.underlying3
  a3:=Tryz.isAgg3
  z3:=Tryz.sizeOf3
  v3:=Tryz.zeroValue3
  t4:=Tryz.underlying4
  a4:=Tryz.isAgg4
  z4:=Tryz.sizeOf4
  v4:=Tryz.zeroValue4
  t5:=Tryz.underlying5
  a5:=Tryz.isAgg5
  z5:=Tryz.sizeOf5
  v5:=Tryz.zeroValue5
  t9:=Tryz.underlying9
  a9:=Tryz.isAgg9
  z9:=Tryz.sizeOf9
  v9:=Tryz.zeroValue9
  t46:=Tryz.underlying132
  a46:=Tryz.isAgg132
  z46:=Tryz.sizeOf132
  v46:=Tryz.zeroValue132
  t51:=Tryz.underlying162
  a51:=Tryz.isAgg162
  z51:=Tryz.sizeOf162
  v51:=Tryz.zeroValue162
  t146:=Tryz.underlying251
  a146:=Tryz.isAgg251
  z146:=Tryz.sizeOf251
  v146:=Tryz.zeroValue251
  g1:=by kernel_rfl }
open Go.RowKit Go.Lib in
theorem Tryz.strings_Contains_one (s:ByteArray) (c:UInt8) (w:World) :
    Calls Tryz.prog 178 #[.string s,.string ⟨#[c]⟩] w fun e w'=>e=.returned (.bool (decide (0 ≤ Lib.indexByte s.data.toList c)))∧w'=w:=Any.strings_Contains_one Tryz.lays144 s c w
def Tryz.lays99_ren:Go.Shelf.Ren:=⟨fun | 99=>40 | 206=>62 | n=>n,fun | 9=>9 | 4=>4 | 3=>3 | n=>n,fun | n=>n⟩
theorem Tryz.lays99:Go.Proofs.Lays.n99 Tryz.prog Tryz.lays99_ren:={
  mixed:=by kernel_rfl
  f99:=Tryz.func40.trans (congrArg some (by kernel_rfl))
  f206:=Tryz.func62.trans (congrArg some (by kernel_rfl))
  t3:=Tryz.underlying3
  a3:=Tryz.isAgg3
  z3:=Tryz.sizeOf3
  v3:=Tryz.zeroValue3
  t4:=Tryz.underlying4
  a4:=Tryz.isAgg4
  z4:=Tryz.sizeOf4
  v4:=Tryz.zeroValue4
  t9:=Tryz.underlying9
  a9:=Tryz.isAgg9
  z9:=Tryz.sizeOf9
  v9:=Tryz.zeroValue9 }
open Go.RowKit Go.Lib in
theorem Tryz.strings_HasPrefix (s p:ByteArray) (w:World) :
    Calls Tryz.prog 40 #[.string s,.string p] w fun e w'=>e=.returned (.bool (Lib.hasPrefix s.data.toList p.data.toList))∧w'=w:=Any.strings_HasPrefix Tryz.lays99 s p w
def Tryz.lays100_ren:Go.Shelf.Ren:=⟨fun | 100=>162 | 207=>181 | n=>n,fun | 9=>9 | 4=>4 | 3=>3 | n=>n,fun | n=>n⟩
theorem Tryz.lays100:Go.Proofs.Lays.n100 Tryz.prog Tryz.lays100_ren:={
  mixed:=by kernel_rfl
  f100:=Tryz.func162.trans (congrArg some (by kernel_rfl))
  f207:=Tryz.func181.trans (congrArg some (by kernel_rfl))
  t3:=Tryz.underlying3
  a3:=Tryz.isAgg3
  z3:=Tryz.sizeOf3
  v3:=Tryz.zeroValue3
  t4:=Tryz.underlying4
  a4:=Tryz.isAgg4
  z4:=Tryz.sizeOf4
  v4:=Tryz.zeroValue4
  t9:=Tryz.underlying9
  a9:=Tryz.isAgg9
  z9:=Tryz.sizeOf9
  v9:=Tryz.zeroValue9 }
open Go.RowKit Go.Lib in
theorem Tryz.strings_HasSuffix (s p:ByteArray) (w:World) (hs:s.size ≤ 9223372036854775807) :
    Calls Tryz.prog 162 #[.string s,.string p] w fun e w'=>e=.returned (.bool (Lib.hasSuffix s.data.toList p.data.toList))∧w'=w:=Any.strings_HasSuffix Tryz.lays100 s p w hs
def Tryz.lays102_ren:Go.Shelf.Ren:=⟨fun | 102=>161 | 209=>180 | 207=>181 | n=>n,fun | 9=>9 | 4=>4 | 3=>3 | n=>n,fun | n=>n⟩
theorem Tryz.lays102:Go.Proofs.Lays.n102 Tryz.prog Tryz.lays102_ren:={
  mixed:=by kernel_rfl
  f102:=Tryz.func161.trans (congrArg some (by kernel_rfl))
  f207:=Tryz.func181.trans (congrArg some (by kernel_rfl))
  f209:=Tryz.func180.trans (congrArg some (by kernel_rfl))
  t3:=Tryz.underlying3
  a3:=Tryz.isAgg3
  z3:=Tryz.sizeOf3
  v3:=Tryz.zeroValue3
  t4:=Tryz.underlying4
  a4:=Tryz.isAgg4
  z4:=Tryz.sizeOf4
  v4:=Tryz.zeroValue4
  t9:=Tryz.underlying9
  a9:=Tryz.isAgg9
  z9:=Tryz.sizeOf9
  v9:=Tryz.zeroValue9 }
open Go.RowKit Go.Lib in
theorem Tryz.strings_TrimSuffix (s p:ByteArray) (w:World) (hs:s.size ≤ 9223372036854775807) :
    Calls Tryz.prog 161 #[.string s,.string p] w fun e w'=>e=.returned (.string ⟨(Lib.trimSuffix s.data.toList p.data.toList).toArray⟩)∧w'=w:=Any.strings_TrimSuffix Tryz.lays102 s p w hs
def Tryz.lays157_ren:Go.Shelf.Ren:=⟨fun | 157=>129 | 229=>155 | 199=>156 | 261=>176 | 311=>195 | 312=>196 | n=>n,fun | 9=>9 | 31=>62 | 3=>3 | 5=>5 | 4=>4 | 119=>185 | 0=>0 | 40=>187 | 152=>202 | 21=>21 | 154=>204 | 51=>162 | 141=>206 | 196=>226 | 193=>223 | 198=>229 | 49=>227 | 194=>224 | 201=>232 | 226=>241 | 46=>132 | 227=>242 | n=>n,fun | 0=>0 | 6=>1 | n=>n⟩
theorem Tryz.lays157:Go.Proofs.Lays.n157 Tryz.prog Tryz.lays157_ren:={
  mixed:=by kernel_rfl
  f157:=Tryz.func129.trans (congrArg some (by kernel_rfl))
  f199:=Tryz.func156.trans (congrArg some (by kernel_rfl))
  f229:=Tryz.func155.trans (congrArg some (by kernel_rfl))
  f261:=Tryz.func176.trans (congrArg some (by kernel_rfl))
  f311:=Tryz.func195.trans (congrArg some (by kernel_rfl))
  f312:=Tryz.func196.trans (congrArg some (by kernel_rfl))
  t0:=Tryz.underlying0
  a0:=Tryz.isAgg0
  z0:=Tryz.sizeOf0
  v0:=Tryz.zeroValue0
  t3:=Tryz.underlying3
  a3:=Tryz.isAgg3
  z3:=Tryz.sizeOf3
  v3:=Tryz.zeroValue3
  t4:=Tryz.underlying4
  a4:=Tryz.isAgg4
  z4:=Tryz.sizeOf4
  v4:=Tryz.zeroValue4
  t5:=Tryz.underlying5
  a5:=Tryz.isAgg5
  z5:=Tryz.sizeOf5
  v5:=Tryz.zeroValue5
  t9:=Tryz.underlying9
  a9:=Tryz.isAgg9
  z9:=Tryz.sizeOf9
  v9:=Tryz.zeroValue9
  t21:=Tryz.underlying21
  a21:=Tryz.isAgg21
  z21:=Tryz.sizeOf21
  v21:=Tryz.zeroValue21
  t31:=Tryz.underlying62
  a31:=Tryz.isAgg62
  z31:=Tryz.sizeOf62
  v31:=Tryz.zeroValue62
  t40:=Tryz.underlying187
  a40:=Tryz.isAgg187
  z40:=Tryz.sizeOf187
  v40:=Tryz.zeroValue187
  t46:=Tryz.underlying132
  a46:=Tryz.isAgg132
  z46:=Tryz.sizeOf132
  v46:=Tryz.zeroValue132
  t49:=Tryz.underlying227
  a49:=Tryz.isAgg227
  z49:=Tryz.sizeOf227
  v49:=Tryz.zeroValue227
  t51:=Tryz.underlying162
  a51:=Tryz.isAgg162
  z51:=Tryz.sizeOf162
  v51:=Tryz.zeroValue162
  t119:=Tryz.underlying185
  a119:=Tryz.isAgg185
  z119:=Tryz.sizeOf185
  t141:=Tryz.underlying206
  a141:=Tryz.isAgg206
  z141:=Tryz.sizeOf206
  v141:=Tryz.zeroValue206
  t152:=Tryz.underlying202
  a152:=Tryz.isAgg202
  z152:=Tryz.sizeOf202
  v152:=Tryz.zeroValue202
  t154:=Tryz.underlying204
  a154:=Tryz.isAgg204
  z154:=Tryz.sizeOf204
  v154:=Tryz.zeroValue204
  t193:=Tryz.underlying223
  a193:=Tryz.isAgg223
  z193:=Tryz.sizeOf223
  v193:=Tryz.zeroValue223
  t194:=Tryz.underlying224
  a194:=Tryz.isAgg224
  z194:=Tryz.sizeOf224
  v194:=Tryz.zeroValue224
  t196:=Tryz.underlying226
  a196:=Tryz.isAgg226
  z196:=Tryz.sizeOf226
  v196:=Tryz.zeroValue226
  t198:=Tryz.underlying229
  a198:=Tryz.isAgg229
  z198:=Tryz.sizeOf229
  v198:=Tryz.zeroValue229
  t201:=Tryz.underlying232
  a201:=Tryz.isAgg232
  z201:=Tryz.sizeOf232
  v201:=Tryz.zeroValue232
  t226:=Tryz.underlying241
  a226:=Tryz.isAgg241
  z226:=Tryz.sizeOf241
  v226:=Tryz.zeroValue241
  t227:=Tryz.underlying242
  a227:=Tryz.isAgg242
  z227:=Tryz.sizeOf242
  v227:=Tryz.zeroValue242
  g0:=by kernel_rfl
  g6:=by kernel_rfl }
open Go.RowKit Go.Lib in
theorem Tryz.strings_Fields (s : ByteArray) (w : World) (hs : s.size < 4294967281) (hascii : ∀ (j : Nat) b, s.data.toList[j]? = some b → b.toNat < 128) (htab : Lib.TabIs Tryz.prog w "strings.asciiSpace" .u8 Lib.asciiSpaceTab) :
    Calls Tryz.prog 129 #[.string s] w fun e w' =>
      e=.returned (.slice (some ⟨w.heap.size,0,none⟩) (Lib.fields s.data.toList).length (Lib.fields s.data.toList).length)∧w'=w.alloc (.cells ((Lib.fields s.data.toList).map fun l=>Value.string ⟨l.toArray⟩).toArray 9):=Any.strings_Fields Tryz.lays157 (by kernel_rfl) (by kernel_rfl) s w hs hascii htab
def Tryz.lays271_ren:Go.Shelf.Ren:=⟨fun | 271=>182 | 120=>199 | 197=>200 | 260=>211 | n=>n,fun | 9=>9 | 21=>21 | 3=>3 | 4=>4 | 5=>5 | 105=>208 | 119=>185 | 0=>0 | 46=>132 | 139=>255 | 138=>254 | n=>n,fun | 3=>6 | 4=>7 | n=>n⟩
theorem Tryz.lays271:Go.Proofs.Lays.n271 Tryz.prog Tryz.lays271_ren:={
  mixed:=by kernel_rfl
  f120:=Tryz.func199.trans (congrArg some (by kernel_rfl))
  f197:=Tryz.func200.trans (congrArg some (by kernel_rfl))
  f260:=Tryz.func211.trans (congrArg some (by kernel_rfl))
  f271:=Tryz.func182.trans (congrArg some (by kernel_rfl))
  t0:=Tryz.underlying0
  a0:=Tryz.isAgg0
  z0:=Tryz.sizeOf0
  v0:=Tryz.zeroValue0
  t3:=Tryz.underlying3
  a3:=Tryz.isAgg3
  z3:=Tryz.sizeOf3
  v3:=Tryz.zeroValue3
  t4:=Tryz.underlying4
  a4:=Tryz.isAgg4
  z4:=Tryz.sizeOf4
  v4:=Tryz.zeroValue4
  t5:=Tryz.underlying5
  a5:=Tryz.isAgg5
  z5:=Tryz.sizeOf5
  v5:=Tryz.zeroValue5
  t9:=Tryz.underlying9
  a9:=Tryz.isAgg9
  z9:=Tryz.sizeOf9
  v9:=Tryz.zeroValue9
  t21:=Tryz.underlying21
  a21:=Tryz.isAgg21
  z21:=Tryz.sizeOf21
  v21:=Tryz.zeroValue21
  t46:=Tryz.underlying132
  a46:=Tryz.isAgg132
  z46:=Tryz.sizeOf132
  v46:=Tryz.zeroValue132
  t105:=Tryz.underlying208
  a105:=Tryz.isAgg208
  z105:=Tryz.sizeOf208
  v105:=Tryz.zeroValue208
  t119:=Tryz.underlying185
  a119:=Tryz.isAgg185
  z119:=Tryz.sizeOf185
  t138:=Tryz.underlying254
  a138:=Tryz.isAgg254
  z138:=Tryz.sizeOf254
  v138:=Tryz.zeroValue254
  t139:=Tryz.underlying255
  a139:=Tryz.isAgg255
  z139:=Tryz.sizeOf255
  v139:=Tryz.zeroValue255
  g3:=by kernel_rfl
  g4:=by kernel_rfl }
open Go.RowKit Go.Lib in
theorem Tryz.utf8_DecodeLastRuneInString (s:ByteArray) (w:World) (hs:s.size ≤ 9223372036854775807) (hT:Lib.Utf8Tabs 6 7 w) :
    Calls Tryz.prog 182 #[.string s] w fun e w'=>e=.returned (.tuple #[.int .i32 (Lib.decodeLastL s.data.toList).1,.int .i64 (Lib.decodeLastL s.data.toList).2])∧Below w.heap.size w w':=Any.utf8_DecodeLastRuneInString Tryz.lays271 s w hs hT
open Go.RowKit Go.Lib in
theorem Tryz.strings_ToLower_any (s:ByteArray) (w:World) (hs:s.size < 35184372088832) (hV:CaseVar 5 caseA w) (hT:Lib.Utf8Tabs 6 7 w) :
    Calls Tryz.prog 167 #[.string s] w fun e w'=>e=.returned (.string ⟨(Lib.toLowerD s.data.toList).toArray⟩)∧Below w.heap.size w w':=Any.strings_ToLower_any Tryz.lays159 Tryz.Builder_Extra_159 s w hs hV hT
def Tryz.lays110_ren:Go.Shelf.Ren:=⟨fun | 110=>42 | 109=>64 | n=>n,fun | 31=>62 | 9=>9 | 4=>4 | 3=>3 | 0=>0 | n=>n,fun | n=>n⟩
theorem Tryz.lays110:Go.Proofs.Lays.n110 Tryz.prog Tryz.lays110_ren:={
  mixed:=by kernel_rfl
  f109:=Tryz.func64.trans (congrArg some (by kernel_rfl))
  f110:=Tryz.func42.trans (congrArg some (by kernel_rfl))
  t0:=Tryz.underlying0
  a0:=Tryz.isAgg0
  z0:=Tryz.sizeOf0
  v0:=Tryz.zeroValue0
  t3:=Tryz.underlying3
  a3:=Tryz.isAgg3
  z3:=Tryz.sizeOf3
  v3:=Tryz.zeroValue3
  t4:=Tryz.underlying4
  a4:=Tryz.isAgg4
  z4:=Tryz.sizeOf4
  v4:=Tryz.zeroValue4
  t9:=Tryz.underlying9
  a9:=Tryz.isAgg9
  z9:=Tryz.sizeOf9
  v9:=Tryz.zeroValue9
  t31:=Tryz.underlying62
  a31:=Tryz.isAgg62
  z31:=Tryz.sizeOf62
  v31:=Tryz.zeroValue62 }
open Go.Lib in
theorem Tryz.slices_Contains_string (b off n c:Nat) (zs:List ByteArray) (x:ByteArray) (w:World) (hz:n ≤ zs.length) (hbig:n ≤ 9223372036854775807) (hc:∀ j,j < zs.length → w.cell? ⟨b,off + j,none⟩=some (.string (zs.getD j ByteArray.empty))) :
    Calls Tryz.prog 42 #[.slice (some ⟨b,off,none⟩) n c,.string x] w fun e w'=>e=.returned (.bool (Lib.containsS (zs.take n) x))∧w'=w:=Any.slices_Contains_string Tryz.lays110 b off n c zs x w hz hbig hc
end Go.Proofs
namespace Go.Proofs.YtjnafjgonoficaaGreatDoor
open Go.RowKit Go.Proofs.YtjnafjgonoficaaGreatDoorW.PrintWords
def Sg (w:World) (gb:Nat):Prop:=∀ i g,Lx.signs[i]? = some g → w.cell? ⟨gb,i,none⟩=some (.string ⟨g.toArray⟩)
theorem begins_calls (s g:ByteArray) (a:Nat) (w:World) :
    Calls Tryz.prog 40 #[.string (s.extract a s.size),.string g] w fun e w'=>e=.returned (.bool (Lx.begins s a g.data.toList))∧w=w' :=
  (Tryz.strings_HasPrefix _ _ _).mono fun e w' ⟨h1,h2⟩=>⟨by rw [h1,Lib.extract_to_end];rfl,h2.symm⟩
theorem signOf_cons (s:ByteArray) (a i n:Nat) (g:List UInt8) (h:Lx.signs[i]? = some g) :
    Lx.signOf s a (Lx.signs.drop i) n=Lx.signOf s a (Lx.signs.drop (i + 1)) (if n < g.length∧Lx.begins s a g=true then g.length else n):=by
  obtain ⟨hi,rfl⟩:=List.getElem?_eq_some_iff.1 h
  rw [List.drop_eq_getElem_cons hi]
  rfl
theorem sign_calls (b gb:Nat) (s:ByteArray) (a:Nat) (km:Value) (cl:Bool) (w:World) (hb:Sc w b s a km (.slice (some ⟨gb,0,none⟩) 47 47) cl) (hg:Sg w gb) (hs:s.size ≤ 1000000) (ha:a ≤ s.size) :
    Calls Tryz.prog 136 #[.pointer (some ⟨b,0,none⟩)] w fun e w'=>e=.returned (.int .i64 (Lx.signLen s a:Nat))∧Drawn0 w w':=by
  obtain ⟨-,-,-,c3,-,-,-⟩:=hb.cells
  go_enter Tryz.func136,Tryz.ntmps136
  go_wp2_with fail
  clear c3
  go_loopg [3,11] 47 (fun kq v3 v11 w' => ∃ n i:Nat,v3=.int .i64 n∧v11=.int .i64 i∧Aside0 (i ≤ 47∧n ≤ s.size∧Lx.signOf s a (Lx.signs.drop i) n=Lx.signLen s a∧kq=47 - i)∧Drawn0 w w')
  case atStart=>exact ⟨0,0,rfl,rfl,⟨by omega,by omega,rfl,rfl⟩,(by repeat (first | exact Drawn0.refl _ | assumption | apply Drawn0.step))⟩
  case round =>
    obtain ⟨n,i,rfl,rfl,HA,⟨m,rfl⟩⟩:=hrel
    have hi:=HA.out.1
    by_cases hlt:i < 47
    · have hgg:∃ g,Lx.signs[i]? = some g:=⟨_,List.getElem?_eq_getElem (show i < Lx.signs.length from hlt)⟩
      obtain ⟨g,hgi⟩:=hgg
      have hc:=hg i g hgi
      obtain ⟨gs,rfl⟩:∃ gs:ByteArray,g=gs.data.toList:=⟨⟨g.toArray⟩,rfl⟩
      have hc1:w.cell? ⟨gb,i,none⟩=some (.string gs):=hc
      have hx:=mkA (signOf_cons s a i n _ hgi)
      have hsz:=mkA (data_length gs)
      clear hc hgi
      cases h1:decide ((n:Int) < (gs.size:Int))
      · have h1':¬ n < gs.size:=by simpa using h1
        have hy:Aside0 ((if n < gs.data.toList.length∧Lx.begins s a gs.data.toList=true then gs.data.toList.length else n)=n):=⟨if_neg (by rw [hsz.out];omega)⟩
        go_wp2_with fail
        go_roundg (47 - (i + 1))
        case measure=>have:=HA.out;omega
        case rel=>exact ⟨n,i + 1,rfl,by go_num,⟨by omega,HA.out.2.1,by rw [← HA.out.2.2.1,hx.out,hy.out],rfl⟩,(by repeat (first | exact Drawn0.refl _ | assumption | apply Drawn0.step))⟩
      · have h1':n < gs.size:=by simpa using h1
        cases h2:Lx.begins s a gs.data.toList
        · have hy:Aside0 ((if n < gs.data.toList.length∧Lx.begins s a gs.data.toList=true then gs.data.toList.length else n)=n):=⟨if_neg (by rw [h2];simp)⟩
          go_wp2_with (first | (go_at_call 159;(with_reducible refine (rest_calls b s a km (.slice (some ⟨gb,0,none⟩) 47 47) cl _ ?_ (by omega)).mono ?_);exact hb;rintro e w' ⟨rfl,⟨nd,rfl⟩⟩) | (go_at_call 40;(with_reducible refine (begins_calls s gs a _).mono ?_);rintro e w' ⟨rfl,rfl⟩))
          go_roundg (47 - (i + 1))
          case measure=>have:=HA.out;omega
          case rel=>exact ⟨n,i + 1,rfl,by go_num,⟨by omega,HA.out.2.1,by rw [← HA.out.2.2.1,hx.out,hy.out],rfl⟩,(by repeat (first | exact Drawn0.refl _ | assumption | apply Drawn0.step))⟩
        · have hy:Aside0 ((if n < gs.data.toList.length∧Lx.begins s a gs.data.toList=true then gs.data.toList.length else n)=gs.size):=⟨by rw [hsz.out];exact if_pos ⟨h1',h2⟩⟩
          have hle:gs.size ≤ s.size:=by
            have:=(List.isPrefixOf_iff_prefix.1 h2).length_le
            rw [List.length_drop,data_length,data_length] at this;omega
          go_wp2_with (first | (go_at_call 159;(with_reducible refine (rest_calls b s a km (.slice (some ⟨gb,0,none⟩) 47 47) cl _ ?_ (by omega)).mono ?_);exact hb;rintro e w' ⟨rfl,⟨nd,rfl⟩⟩) | (go_at_call 40;(with_reducible refine (begins_calls s gs a _).mono ?_);rintro e w' ⟨rfl,rfl⟩))
          go_roundg (47 - (i + 1))
          case measure=>have:=HA.out;omega
          case rel=>exact ⟨gs.size,i + 1,rfl,by go_num,⟨by omega,hle,by rw [← HA.out.2.2.1,hx.out,hy.out],rfl⟩,(by repeat (first | exact Drawn0.refl _ | assumption | apply Drawn0.step))⟩
    · obtain rfl:i=47:=by omega
      have hx:Aside0 (n=Lx.signLen s a):=⟨HA.out.2.2.1⟩
      go_wp2_with fail
      go_ret
      exact ⟨by rw [← hx.out];rfl,(by repeat (first | exact Drawn0.refl _ | assumption | apply Drawn0.step))⟩
def Rest (s r:ByteArray) (a:Nat):Prop:=r=s.extract a s.size
theorem Rest.list {s r:ByteArray} {a:Nat} (h:Rest s r a):r.data.toList=s.data.toList.drop a:=by rw [h,Lib.extract_to_end]
theorem Rest.size {s r:ByteArray} {a:Nat} (h:Rest s r a):r.size=s.size - a:=by
  rw [← data_length,h.list,List.length_drop,data_length]
theorem restr_calls (b:Nat) (s r:ByteArray) (a:Nat) (km sg:Value) (cl:Bool) (w:World) (hb:Sc w b s a km sg cl) (h:a ≤ s.size) (hr:Rest s r a) :
    Calls Tryz.prog 159 #[.pointer (some ⟨b,0,none⟩)] w fun e w'=>e=.returned (.string r)∧Drawn0 w w':=by
  rw [hr];exact rest_calls b s a km sg cl w hb h
def lfAt (s:ByteArray) (i:Nat):Int:=if Lx.runS s i < s.size then ((Lx.runS s i - i:Nat):Int) else -1
theorem lf_calls (s r:ByteArray) (a e:Nat) (w:World) (hr:Rest s r a) (ha:a ≤ s.size) (h:e ≤ r.size) :
    Calls Tryz.prog 160 #[.string (r.extract e r.size),.int .u8 10] w fun e' w'=>e'=.returned (.int .i64 (lfAt s (a + e)))∧w=w' :=
  (Tryz.strings_IndexByte _ _ _).mono fun _ _ ⟨h1,h2⟩=>⟨by
    rw [h1,Lib.extract_to_end,hr.list,List.drop_drop]
    show Ending.returned (.int .i64 (Lib.indexByte (s.data.toList.drop (a + e)) 10))=_
    rw [Lx.ix_runS s (a + e) (by have:=hr.size;omega)];rfl,h2.symm⟩
def endsIn (s:ByteArray) (a k:Nat) (x:Int):Bool:=decide (0 < k∧Lx.B s (a + k - 1)=x)
theorem suffix_calls (s r:ByteArray) (a k:Nat) (w:World) (hr:Rest s r a) (ha:a ≤ s.size) (h:k ≤ r.size) (hs:s.size ≤ 1000000) :
    Calls Tryz.prog 162 #[.string (r.extract 0 k),.string ⟨#[92]⟩] w fun e' w'=>e'=.returned (.bool (endsIn s a k 92))∧w=w' :=
  (Tryz.strings_HasSuffix _ _ _ (by have:=hr.size;rw [ByteArray.size_extract];omega)).mono fun _ _ ⟨h1,h2⟩=>⟨by
    rw [h1,Lib.extract_data,hr.list]
    show Ending.returned (.bool (Lib.hasSuffix ((s.data.toList.drop a).take k) [92]))=_
    rw [Lx.suffix_one s a k 92 (by have:=hr.size;omega)];rfl,h2.symm⟩
def cutCr (s:ByteArray) (a k:Nat):Nat:=if endsIn s a k 13=true then k - 1 else k
theorem trim_calls (s r:ByteArray) (a k:Nat) (w:World) (hr:Rest s r a) (ha:a ≤ s.size) (h:k ≤ r.size) (hs:s.size ≤ 1000000) :
    Calls Tryz.prog 161 #[.string (r.extract 0 k),.string ⟨#[13]⟩] w fun e' w'=>e'=.returned (.string (r.extract 0 (cutCr s a k)))∧w=w' :=
  (Tryz.strings_TrimSuffix _ _ _ (by have:=hr.size;rw [ByteArray.size_extract];omega)).mono fun _ _ ⟨h1,h2⟩=>⟨by
    rw [h1,Lib.extract_data,hr.list]
    show Ending.returned (.string ⟨(Lib.trimSuffix ((s.data.toList.drop a).take k) [13]).toArray⟩)=_
    rw [Lx.trim_one s a k 13 (by have:=hr.size;omega)]
    refine congrArg (fun z=>Ending.returned (.string z)) ?_
    refine ByteArray.ext (Array.ext' ?_)
    rw [Lib.extract_data,hr.list,List.drop_zero]
    show List.take _ _=_
    unfold cutCr endsIn
    simp only [decide_eq_true_eq];rfl,h2.symm⟩
theorem runS_lf (s:ByteArray) (i:Nat) (h:Lx.runS s i < s.size):Lx.B s (Lx.runS s i)=10:=by
  unfold Lx.runS at h ⊢
  by_cases hi:i < s.size
  · rw [dif_pos hi] at h ⊢
    by_cases hc:Lx.B s i=10
    · rw [if_pos hc];exact hc
    · rw [if_neg hc] at h ⊢
      exact runS_lf s (i + 1) h
  · rw [dif_neg hi] at h;omega
  termination_by s.size - i
theorem runL_skip (s:ByteArray) (a i:Nat) (h:i ≤ s.size):Lx.runL s a i=Lx.runL s a (Lx.runS s i):=by
  unfold Lx.runS
  by_cases hi:i < s.size
  · rw [dif_pos hi]
    by_cases hc:Lx.B s i=10
    · rw [if_pos hc]
    · rw [if_neg hc,← runL_skip s a (i + 1) (by omega)]
      conv=>lhs;unfold Lx.runL
      rw [dif_pos hi,if_neg (fun e=>hc e.1)]
  · rw [dif_neg hi]
  termination_by s.size - i
theorem runL_none (s:ByteArray) (a i:Nat) (h:i ≤ s.size) (hn:¬ Lx.runS s i < s.size):Lx.runL s a i=s.size:=by
  have:=Lx.runS_b s i h
  rw [runL_skip s a i h,show Lx.runS s i=s.size from by omega]
  unfold Lx.runL
  rw [dif_neg (by omega)]
theorem runL_ends (s:ByteArray) (a k:Nat) (ha:Lx.B s a=35) (hk:a + k < s.size) (hp:Lx.B s (a + k)=10) (h1:endsIn s a k 92=false) (h2:endsIn s a (cutCr s a k) 92=false) :
    Lx.runL s a (a + k)=a + cutCr s a k:=by
  have h0:0 < k:=by
    rcases Nat.eq_zero_or_pos k with h | h
    · rw [h] at hp;rw [Nat.add_zero,ha] at hp;cases hp
    · exact h
  unfold endsIn at h1 h2
  unfold Lx.runL cutCr endsIn at *
  simp only [decide_eq_false_iff_not,decide_eq_true_eq] at *
  have g1:¬ Lx.B s (a + k - 1)=92:=fun e=>h1 ⟨h0,e⟩
  have g0:¬ (Lx.B s (a + k - 1)=13∧k=1):=fun e=>by
    rw [e.2,Nat.add_sub_cancel,ha] at e;cases e.1
  rw [dif_pos hk,if_pos]
  · unfold Lx.lineCut
    by_cases hc:Lx.B s (a + k - 1)=13
    · have g2:k ≠ 1:=fun e=>g0 ⟨hc,e⟩
      rw [if_pos ⟨by omega,hc⟩,if_pos ⟨h0,hc⟩];omega
    · rw [if_neg (fun e=>hc e.2),if_neg (fun e=>hc e.2)]
  · refine ⟨hp,?_⟩
    rintro (e | ⟨e1,e2,e3⟩)
    · exact g1 e
    · rw [if_pos ⟨h0,e2⟩] at h2
      refine h2 ⟨by omega,?_⟩
      rw [show a + (k - 1) - 1=a + k - 2 from by omega];exact e3
theorem runL_goes (s:ByteArray) (a k:Nat) (hk:a + k < s.size) (h:endsIn s a k 92=true ∨ endsIn s a (cutCr s a k) 92=true) :
    Lx.runL s a (a + k)=Lx.runL s a (a + (k + 1)):=by
  conv=>lhs;unfold Lx.runL
  rw [dif_pos hk,if_neg]
  · rfl
  · rintro ⟨-,hn⟩
    refine hn ?_
    unfold cutCr endsIn at h
    simp only [decide_eq_true_eq] at h
    rcases h with h | h
    · exact .inl h.2
    · by_cases hc:0 < k∧Lx.B s (a + k - 1)=13
      · rw [if_pos hc] at h
        exact .inr ⟨by omega,hc.2,by rw [show a + k - 2=a + (k - 1) - 1 from by omega];exact h.2⟩
      · rw [if_neg hc] at h
        exact .inl h.2
theorem cutCr_le (s:ByteArray) (a k:Nat):cutCr s a k ≤ k:=by unfold cutCr;split <;> omega
def lineLen (s:ByteArray) (a:Nat) (cl:Bool):Nat:=if cl=true∧Lx.B s a=35 then Lx.runL s a a - a else 0
theorem line_yes (b:Nat) (s:ByteArray) (a:Nat) (km sg:Value) (w:World) (hb:Sc w b s a km sg true) (hs:s.size ≤ 1000000) (ha:a ≤ s.size) (h35:Lx.B s a=35) :
    Calls Tryz.prog 131 #[.pointer (some ⟨b,0,none⟩)] w fun e w'=>e=.returned (.int .i64 ((Lx.runL s a a - a:Nat):Int))∧Drawn0 w w':=by
  obtain ⟨-,-,-,-,c4,-,-⟩:=hb.cells
  obtain ⟨r,hr0⟩:∃ r,Rest s r a:=⟨_,rfl⟩
  have hsz:=hr0.size
  have hsz':r.size=s.size - a:=hsz
  have hZ:=mkA hsz
  have hrl:r.size ≤ s.size:=by omega
  have har:a + r.size ≤ s.size:=by omega
  clear hsz hsz'
  have hr:=mkA hr0
  clear hr0
  have h1:(Lx.B s a != 35)=false:=by rw [h35];rfl
  have H35:=mkA h35
  clear h35
  generalize hcl:true=cl at hb c4
  have hclb:(!cl)=false:=by rw [← hcl];rfl
  have HC:=mkA hcl
  clear hcl
  go_enter Tryz.func131,Tryz.ntmps131
  go_wp2_with (first | (go_at_call 157;(with_reducible refine (next_calls b s a (0) km sg cl _ ?_ hs (by omega) (by omega) (by omega)).mono ?_);exact hb;rintro e w' ⟨rfl,⟨nd,rfl⟩⟩) | (go_at_call 159;(with_reducible refine (restr_calls b s r a km sg cl _ ?_ (by omega) hr.out).mono ?_);exact hb;rintro e w' ⟨rfl,⟨nd,rfl⟩⟩))
  clear c4 hclb h1
  go_loopg [4] (s.size + 1 - a) (fun kq v4 w' => ∃ e:Nat,v4=.int .i64 e∧Aside0 (e ≤ r.size∧Lx.runL s a (a + e)=Lx.runL s a a∧kq=s.size + 1 - (a + e))∧Drawn0 w w')
  case atStart=>exact ⟨0,rfl,⟨by omega,rfl,by omega⟩,(by repeat (first | exact Drawn0.refl _ | assumption | apply Drawn0.step))⟩
  case round =>
    obtain ⟨e,rfl,HA,⟨m,rfl⟩⟩:=hrel
    have he:=HA.out.1
    by_cases hlf:Lx.runS s (a + e) < s.size
    · have hb2:=Lx.runS_b s (a + e) (by omega)
      obtain ⟨d,hd⟩:∃ d:Nat,Lx.runS s (a + e)=a + e + d:=⟨Lx.runS s (a + e) - (a + e),by omega⟩
      have hlfd:lfAt s (a + e)=(d:Int):=by unfold lfAt;rw [if_pos hlf,hd];omega
      have hlt:a + (e + d) < s.size:=by omega
      have hp:Aside0 (Lx.B s (a + (e + d))=10):=⟨by have:=runS_lf s (a + e) hlf;rw [hd] at this;rw [← this];congr 1;omega⟩
      have hsk:Aside0 (Lx.runL s a (a + e)=Lx.runL s a (a + (e + d))):=⟨by rw [runL_skip s a (a + e) (by omega),hd];congr 1;omega⟩
      have hle:e + d ≤ r.size:=by have:=hZ.out;omega
      have hcr:=cutCr_le s a (e + d)
      have hcr2:cutCr s a (e + d) ≤ r.size:=by omega
      clear hb2 hd hlf
      cases h1:endsIn s a (e + d) 92
      · cases h2:endsIn s a (cutCr s a (e + d)) 92
        · have hE:=mkA (runL_ends s a (e + d) H35.out hlt hp.out h1 h2)
          go_wp2_with (first | (go_at_call 159;(with_reducible refine (restr_calls b s r a km sg cl _ ?_ (by omega) hr.out).mono ?_);exact hb;rintro e w' ⟨rfl,⟨nd,rfl⟩⟩) | (go_at_call 160;(with_reducible refine (lf_calls s r a e _ hr.out ha (by omega)).mono ?_);rintro e' w' ⟨rfl,rfl⟩) | (go_at_call 161;(with_reducible refine (trim_calls s r a (e + d) _ hr.out ha (by omega) hs).mono ?_);rintro e' w' ⟨rfl,rfl⟩) | (go_at_call 162;(with_reducible refine (suffix_calls s r a _ _ hr.out ha (by omega) hs).mono ?_);rintro e' w' ⟨rfl,rfl⟩))
          go_ret
          refine ⟨?_,(by repeat (first | exact Drawn0.refl _ | assumption | apply Drawn0.step))⟩
          rw [← HA.out.2.1,hsk.out,hE.out]
          exact congrArg (fun z:Int=>Ending.returned (Value.int .i64 z)) (by omega)
        · have hG:=mkA (runL_goes s a (e + d) hlt (.inr h2))
          go_wp2_with (first | (go_at_call 159;(with_reducible refine (restr_calls b s r a km sg cl _ ?_ (by omega) hr.out).mono ?_);exact hb;rintro e w' ⟨rfl,⟨nd,rfl⟩⟩) | (go_at_call 160;(with_reducible refine (lf_calls s r a e _ hr.out ha (by omega)).mono ?_);rintro e' w' ⟨rfl,rfl⟩) | (go_at_call 161;(with_reducible refine (trim_calls s r a (e + d) _ hr.out ha (by omega) hs).mono ?_);rintro e' w' ⟨rfl,rfl⟩) | (go_at_call 162;(with_reducible refine (suffix_calls s r a _ _ hr.out ha (by omega) hs).mono ?_);rintro e' w' ⟨rfl,rfl⟩))
          go_roundg (s.size + 1 - (a + (e + d + 1)))
          case measure=>have:=HA.out;omega
          case rel=>exact ⟨e + d + 1,by go_num,⟨by have:=hZ.out;omega,by rw [← HA.out.2.1,hsk.out,hG.out],rfl⟩,(by repeat (first | exact Drawn0.refl _ | assumption | apply Drawn0.step))⟩
      · have hG:=mkA (runL_goes s a (e + d) hlt (.inl h1))
        go_wp2_with (first | (go_at_call 159;(with_reducible refine (restr_calls b s r a km sg cl _ ?_ (by omega) hr.out).mono ?_);exact hb;rintro e w' ⟨rfl,⟨nd,rfl⟩⟩) | (go_at_call 160;(with_reducible refine (lf_calls s r a e _ hr.out ha (by omega)).mono ?_);rintro e' w' ⟨rfl,rfl⟩) | (go_at_call 161;(with_reducible refine (trim_calls s r a (e + d) _ hr.out ha (by omega) hs).mono ?_);rintro e' w' ⟨rfl,rfl⟩) | (go_at_call 162;(with_reducible refine (suffix_calls s r a _ _ hr.out ha (by omega) hs).mono ?_);rintro e' w' ⟨rfl,rfl⟩))
        go_roundg (s.size + 1 - (a + (e + d + 1)))
        case measure=>have:=HA.out;omega
        case rel=>exact ⟨e + d + 1,by go_num,⟨by have:=hZ.out;omega,by rw [← HA.out.2.1,hsk.out,hG.out],rfl⟩,(by repeat (first | exact Drawn0.refl _ | assumption | apply Drawn0.step))⟩
    · have hlfd:lfAt s (a + e) = -1:=by unfold lfAt;rw [if_neg hlf]
      have hE:=mkA (runL_none s a (a + e) (by omega) hlf)
      clear hlf
      go_wp2_with (first | (go_at_call 159;(with_reducible refine (restr_calls b s r a km sg cl _ ?_ (by omega) hr.out).mono ?_);exact hb;rintro e w' ⟨rfl,⟨nd,rfl⟩⟩) | (go_at_call 160;(with_reducible refine (lf_calls s r a e _ hr.out ha (by omega)).mono ?_);rintro e' w' ⟨rfl,rfl⟩) | (go_at_call 161;(with_reducible refine (trim_calls s r a (e + d) _ hr.out ha (by omega) hs).mono ?_);rintro e' w' ⟨rfl,rfl⟩) | (go_at_call 162;(with_reducible refine (suffix_calls s r a _ _ hr.out ha (by omega) hs).mono ?_);rintro e' w' ⟨rfl,rfl⟩))
      go_ret
      exact ⟨by rw [← HA.out.2.1,hE.out,← hZ.out];rfl,(by repeat (first | exact Drawn0.refl _ | assumption | apply Drawn0.step))⟩
theorem line_no (b:Nat) (s:ByteArray) (a:Nat) (km sg:Value) (cl:Bool) (w:World) (hb:Sc w b s a km sg cl) (hs:s.size ≤ 1000000) (ha:a ≤ s.size) (h:cl=false ∨ (Lx.B s a != 35)=true) :
    Calls Tryz.prog 131 #[.pointer (some ⟨b,0,none⟩)] w fun e w'=>e=.returned (.int .i64 0)∧Drawn0 w w':=by
  obtain ⟨-,-,-,-,c4,-,-⟩:=hb.cells
  cases cl
  · clear h
    go_enter Tryz.func131,Tryz.ntmps131
    go_wp2_with fail
    go_ret
    exact ⟨rfl,(by repeat (first | exact Drawn0.refl _ | assumption | apply Drawn0.step))⟩
  · have h1:(Lx.B s a != 35)=true:=by simpa using h
    clear h
    generalize hcl:true=cl at hb c4
    have hclb:(!cl)=false:=by rw [← hcl];rfl
    have HC:=mkA hcl
    clear hcl
    go_enter Tryz.func131,Tryz.ntmps131
    go_wp2_with (first | (go_at_call 157;(with_reducible refine (next_calls b s a (0) km sg cl _ ?_ hs (by omega) (by omega) (by omega)).mono ?_);exact hb;rintro e w' ⟨rfl,⟨nd,rfl⟩⟩))
    go_ret
    exact ⟨rfl,(by repeat (first | exact Drawn0.refl _ | assumption | apply Drawn0.step))⟩
theorem line_calls (b:Nat) (s:ByteArray) (a:Nat) (km sg:Value) (cl:Bool) (w:World) (hb:Sc w b s a km sg cl) (hs:s.size ≤ 1000000) (ha:a ≤ s.size) :
    Calls Tryz.prog 131 #[.pointer (some ⟨b,0,none⟩)] w fun e w'=>e=.returned (.int .i64 (lineLen s a cl:Nat))∧Drawn0 w w':=by
  unfold lineLen
  by_cases h:cl=true∧Lx.B s a=35
  · rw [if_pos h]
    obtain ⟨rfl,h2⟩:=h
    exact line_yes b s a km sg w hb hs ha h2
  · rw [if_neg h]
    refine line_no b s a km sg cl w hb hs ha ?_
    cases cl
    · exact .inl rfl
    · exact .inr (bne_iff_ne.mpr fun e=>h ⟨rfl,e⟩)
theorem grown_drewN {w w':World} {row:Option Nat} (h:w.grownBy w' row) (n:Nat):w.grownBy (w'.drewN n) row:=⟨h.os,h.tape,h.output,h.size,h.block⟩
theorem grown_set {w w':World} {b:Nat} (h:w.grownBy w' (some b)) (i:Nat) (v:Value):w.grownBy (w'.setCell ⟨b,i,none⟩ v) (some b) :=
  ⟨h.os,h.tape,h.output,by simpa [World.setCell] using h.size,fun k hk hne=>(Below.heap_setCell _ _ _ _ (by simpa using hne)).trans (h.block k hk hne)⟩
theorem grown_trans {a w w':World} {row:Option Nat} (h:a.grownBy w row) (k:w.grownBy w' row):a.grownBy w' row :=
  ⟨k.os.trans h.os,k.tape.trans h.tape,k.output.trans h.output,Nat.le_trans h.size k.size,fun i hi hne=>(k.block i (Nat.lt_of_lt_of_le hi h.size) hne).trans (h.block i hi hne)⟩
theorem grown_below {a w w':World} {row:Option Nat} (h:a.grownBy w row) (hb:Below w.heap.size w w'):a.grownBy w' row :=
  grown_trans h ⟨hb.os,hb.tape,hb.output,hb.size,fun i hi _=>hb.block i hi⟩
def MaxLen (w:World):Prop:=∃ m:Int,w.cell? ⟨4,0,none⟩=some (.int .i64 m)
theorem MaxLen.grown {w w':World} {b:Nat} (h:MaxLen w) (hg:w.grownBy w' (some b)) (hb:4 < b):MaxLen w':=by
  obtain ⟨m,hm⟩:=h
  exact ⟨m,hg.cell hm (by simp;omega)⟩
theorem pre47_calls (s r:ByteArray) (a:Nat) (w:World) (hr:Rest s r a) :
    Calls Tryz.prog 40 #[.string r,.string ⟨#[47,47]⟩] w fun e w'=>e=.returned (.bool (decide (Lx.B s a=47) && decide (Lx.B s (a + 1)=47)))∧w=w' :=
  (Tryz.strings_HasPrefix _ _ _).mono fun _ _ ⟨h1,h2⟩=>⟨by rw [h1,hr.list];exact congrArg (fun z=>Ending.returned (.bool z)) (Lx.prefix_two s a 47 47 (by decide) (by decide)),h2.symm⟩
theorem pre42_calls (s r:ByteArray) (a:Nat) (w:World) (hr:Rest s r a) :
    Calls Tryz.prog 40 #[.string r,.string ⟨#[47,42]⟩] w fun e w'=>e=.returned (.bool (decide (Lx.B s a=47) && decide (Lx.B s (a + 1)=42)))∧w=w' :=
  (Tryz.strings_HasPrefix _ _ _).mono fun _ _ ⟨h1,h2⟩=>⟨by rw [h1,hr.list];exact congrArg (fun z=>Ending.returned (.bool z)) (Lx.prefix_two s a 47 42 (by decide) (by decide)),h2.symm⟩
theorem lf0_calls (s r:ByteArray) (a:Nat) (w:World) (hr:Rest s r a) (ha:a ≤ s.size) :
    Calls Tryz.prog 160 #[.string r,.int .u8 10] w fun e' w'=>e'=.returned (.int .i64 (lfAt s a))∧w=w' :=
  (Tryz.strings_IndexByte _ _ _).mono fun _ _ ⟨h1,h2⟩=>⟨by
    rw [h1,hr.list]
    show Ending.returned (.int .i64 (Lib.indexByte (s.data.toList.drop a) 10))=_
    rw [Lx.ix_runS s a ha];rfl,h2.symm⟩
def closeAt (s:ByteArray) (i:Nat):Int:=Lib.index (s.data.toList.drop i) [42,47]
theorem close_calls (s r:ByteArray) (a:Nat) (w:World) (hr:Rest s r a) (hs:s.size ≤ 1000000) (h2:2 ≤ r.size) (hm:MaxLen w) :
    Calls Tryz.prog 177 #[.string (r.extract 2 r.size),.string ⟨#[42,47]⟩] w fun e' w'=>e'=.returned (.int .i64 (closeAt s (a + 2)))∧w=w':=by
  obtain ⟨m,hm⟩:=hm
  exact (Tryz.strings_Index _ _ m _ (by have:=hr.size;rw [ByteArray.size_extract];omega) hm).mono fun _ _ ⟨h1,h2⟩=>⟨by
    rw [h1,Lib.extract_to_end,hr.list,List.drop_drop];rfl,h2.symm⟩
theorem has10_calls (s r:ByteArray) (a k:Nat) (w:World) (hr:Rest s r a) (h:k ≤ r.size) (ha:a ≤ s.size) :
    Calls Tryz.prog 178 #[.string (r.extract 0 k),.string ⟨#[10]⟩] w fun e' w'=>e'=.returned (.bool (Lx.hasLf s a (a + k)))∧w=w' :=
  (Tryz.strings_Contains_one _ 10 _).mono fun _ _ ⟨h1,h2⟩=>⟨by
    rw [h1,Lib.extract_data,hr.list,List.drop_zero,← Lx.lf_take s a k (by have:=hr.size;omega)];rfl,h2.symm⟩
theorem has10r_calls (s r:ByteArray) (a:Nat) (w:World) (hr:Rest s r a) (ha:a ≤ s.size) :
    Calls Tryz.prog 178 #[.string r,.string ⟨#[10]⟩] w fun e' w'=>e'=.returned (.bool (Lx.hasLf s a (a + r.size)))∧w=w' :=
  (Tryz.strings_Contains_one _ 10 _).mono fun _ _ ⟨h1,h2⟩=>⟨by
    have e:List.take r.size (s.data.toList.drop a)=s.data.toList.drop a:=List.take_of_length_le (by rw [← hr.list,data_length];exact Nat.le_refl _)
    rw [h1,hr.list,← Lx.lf_take s a r.size (by have:=hr.size;omega),e],h2.symm⟩
theorem comment_no (b:Nat) (s:ByteArray) (a:Nat) (km sg:Value) (cl:Bool) (w:World) (hb:Sc w b s a km sg cl) (hs:s.size ≤ 1000000) (ha:a ≤ s.size)
    (h1:(decide (Lx.B s a=47) && decide (Lx.B s (a + 1)=47))=false) (h2:(decide (Lx.B s a=47) && decide (Lx.B s (a + 1)=42))=false) :
    Calls Tryz.prog 158 #[.pointer (some ⟨b,0,none⟩)] w fun e w'=>e=.returned (.bool false)∧Drawn0 w w':=by
  obtain ⟨r,hr0⟩:∃ r,Rest s r a:=⟨_,rfl⟩
  have hr:=mkA hr0
  clear hr0
  have k1:=fun W=>pre47_calls s r a W hr.out
  have k2:=fun W=>pre42_calls s r a W hr.out
  rw [h1] at k1
  rw [h2] at k2
  go_enter Tryz.func158,Tryz.ntmps158
  go_wp2_with (first | (go_at_call 159;(with_reducible refine (restr_calls b s r a km sg cl _ ?_ (by omega) hr.out).mono ?_);exact hb;rintro e w' ⟨rfl,⟨nd,rfl⟩⟩) | (go_at_call 40;(with_reducible refine (k1 _).mono ?_);rintro e' w' ⟨rfl,rfl⟩) | (go_at_call 40;(with_reducible refine (k2 _).mono ?_);rintro e' w' ⟨rfl,rfl⟩))
  go_ret
  exact ⟨rfl,(by repeat (first | exact Drawn0.refl _ | assumption | apply Drawn0.step))⟩
theorem Sc.setAt {w:World} {b:Nat} {s:ByteArray} {a a':Nat} {km sg:Value} {cl:Bool} (h:Sc w b s a km sg cl):Sc (w.setCell ⟨b,1,none⟩ (.int .i64 a')) b s a' km sg cl:=by
  have:=blk_set h 1 (.int .i64 a');simpa [Sc] using this
theorem Sc.setCl {w:World} {b:Nat} {s:ByteArray} {a:Nat} {km sg:Value} {cl cl':Bool} (h:Sc w b s a km sg cl):Sc (w.setCell ⟨b,4,none⟩ (.bool cl')) b s a km sg cl':=by
  have:=blk_set h 4 (.bool cl');simpa [Sc] using this
def ScStep (w w':World) (b:Nat) (s:ByteArray) (a:Nat) (km sg:Value) (cl:Bool):Prop:=Sc w' b s a km sg cl∧w.grownBy w' (some b)
theorem ScStep.refl {w:World} {b:Nat} {s:ByteArray} {a:Nat} {km sg:Value} {cl:Bool} (h:Sc w b s a km sg cl):ScStep w w b s a km sg cl:=⟨h,World.grownBy.refl _ _⟩
theorem ScStep.drewN {w w':World} {b:Nat} {s:ByteArray} {a:Nat} {km sg:Value} {cl:Bool} (h:ScStep w w' b s a km sg cl) (n:Nat):ScStep w (w'.drewN n) b s a km sg cl:=⟨h.1,grown_drewN h.2 n⟩
theorem ScStep.setAt {w w':World} {b:Nat} {s:ByteArray} {a:Nat} {km sg:Value} {cl:Bool} (h:ScStep w w' b s a km sg cl) {a':Nat}:ScStep w (w'.setCell ⟨b,1,none⟩ (.int .i64 a')) b s a' km sg cl:=⟨h.1.setAt,grown_set h.2 _ _⟩
theorem ScStep.setCl {w w':World} {b:Nat} {s:ByteArray} {a:Nat} {km sg:Value} {cl:Bool} (h:ScStep w w' b s a km sg cl) {cl':Bool}:ScStep w (w'.setCell ⟨b,4,none⟩ (.bool cl')) b s a km sg cl':=⟨h.1.setCl,grown_set h.2 _ _⟩
theorem ScStep.alloc {w w':World} {b:Nat} {s:ByteArray} {a:Nat} {km sg:Value} {cl:Bool} (h:ScStep w w' b s a km sg cl) (o:Obj):ScStep w (w'.alloc o) b s a km sg cl:=⟨blk_alloc h.1 o,grown_trans h.2 (World.grownBy_alloc _ _ _)⟩
theorem ScStep.trans {w w1 w2:World} {b:Nat} {s s':ByteArray} {a a':Nat} {km sg km' sg':Value} {cl cl':Bool} (h:ScStep w w1 b s a km sg cl) (k:ScStep w1 w2 b s' a' km' sg' cl'):ScStep w w2 b s' a' km' sg' cl':=⟨k.1,grown_trans h.2 k.2⟩
theorem comment_line (b:Nat) (s:ByteArray) (a:Nat) (km sg:Value) (cl:Bool) (w:World) (hb:Sc w b s a km sg cl) (hs:s.size ≤ 1000000) (ha:a ≤ s.size)
    (h1:(decide (Lx.B s a=47) && decide (Lx.B s (a + 1)=47))=true) :
    Calls Tryz.prog 158 #[.pointer (some ⟨b,0,none⟩)] w fun e w'=>e=.returned (.bool true)∧ScStep w w' b s (Lx.runS s a) km sg cl:=by
  obtain ⟨-,c1,-,-,-,f1,-⟩:=hb.cells
  obtain ⟨r,hr0⟩:∃ r,Rest s r a:=⟨_,rfl⟩
  have hr:=mkA hr0
  have hZ:=mkA hr0.size
  have hrl:a + r.size ≤ s.size:=by have:=hr0.size;omega
  clear hr0
  have k1:=fun W=>pre47_calls s r a W hr.out
  rw [h1] at k1
  clear h1
  by_cases hlf:Lx.runS s a < s.size
  · have hb2:=Lx.runS_b s a ha
    obtain ⟨d,hd⟩:∃ d:Nat,Lx.runS s a=a + d:=⟨Lx.runS s a - a,by omega⟩
    have hlfd:lfAt s a=(d:Int):=by unfold lfAt;rw [if_pos hlf,hd];omega
    have hle:a + d ≤ s.size:=by omega
    have hD:=mkA hd
    clear hb2 hd hlf
    go_enter Tryz.func158,Tryz.ntmps158
    go_wp2_with (first | (go_at_call 159;(with_reducible refine (restr_calls b s r a km sg cl _ ?_ (by omega) hr.out).mono ?_);exact hb;rintro e w' ⟨rfl,⟨nd,rfl⟩⟩) | (go_at_call 40;(with_reducible refine (k1 _).mono ?_);rintro e' w' ⟨rfl,rfl⟩) | (go_at_call 160;(with_reducible refine (lf0_calls s r a _ hr.out ha).mono ?_);rintro e' w' ⟨rfl,rfl⟩))
    go_ret
    refine ⟨rfl,?_⟩
    rw [hD.out]
    exact ((ScStep.refl hb).drewN _).setAt (a':=a + d)
  · have hlfd:lfAt s a = -1:=by unfold lfAt;rw [if_neg hlf]
    have hb2:=Lx.runS_b s a ha
    have hD:Aside0 (Lx.runS s a=a + r.size):=⟨by have:=hZ.out;omega⟩
    clear hb2 hlf
    go_enter Tryz.func158,Tryz.ntmps158
    go_wp2_with (first | (go_at_call 159;(with_reducible refine (restr_calls b s r a km sg cl _ ?_ (by omega) hr.out).mono ?_);exact hb;rintro e w' ⟨rfl,⟨nd,rfl⟩⟩) | (go_at_call 40;(with_reducible refine (k1 _).mono ?_);rintro e' w' ⟨rfl,rfl⟩) | (go_at_call 160;(with_reducible refine (lf0_calls s r a _ hr.out ha).mono ?_);rintro e' w' ⟨rfl,rfl⟩))
    go_ret
    refine ⟨rfl,?_⟩
    rw [hD.out]
    exact ((ScStep.refl hb).drewN _).setAt (a':=a + r.size)
theorem comment_block (b:Nat) (s:ByteArray) (a:Nat) (km sg:Value) (cl:Bool) (w:World) (hb:Sc w b s a km sg cl) (hs:s.size ≤ 1000000) (ha:a ≤ s.size) (hm:MaxLen w)
    (h1:(decide (Lx.B s a=47) && decide (Lx.B s (a + 1)=47))=false) (h2:(decide (Lx.B s a=47) && decide (Lx.B s (a + 1)=42))=true) :
    Calls Tryz.prog 158 #[.pointer (some ⟨b,0,none⟩)] w fun e w'=>e=.returned (.bool true)∧ScStep w w' b s (Lx.runC s (a + 2)) km sg (cl || Lx.hasLf s a (Lx.runC s (a + 2))):=by
  have h42:a + 1 < s.size:=by
    rw [Bool.and_eq_true,decide_eq_true_eq,decide_eq_true_eq] at h2
    exact Lx.B_lt_of_ne (by rw [h2.2];decide)
  obtain ⟨-,c1,-,-,c4,f1,f4⟩:=hb.cells
  obtain ⟨r,hr0⟩:∃ r,Rest s r a:=⟨_,rfl⟩
  have hr:=mkA hr0
  have hZ:=mkA hr0.size
  have hrl:a + r.size ≤ s.size:=by have:=hr0.size;omega
  have hr2:2 ≤ r.size:=by have:=hr0.size;omega
  clear hr0
  have k1:=fun W=>pre47_calls s r a W hr.out
  rw [h1] at k1
  have k2:=fun W=>pre42_calls s r a W hr.out
  rw [h2] at k2
  clear h1 h2
  rcases Lx.ix_runC s (a + 2) (by omega) with ⟨hi,hrc⟩ | ⟨j,hi,hrc,hj⟩
  · have hcl:closeAt s (a + 2) = -1:=hi
    have hD:Aside0 (Lx.runC s (a + 2)=a + r.size):=⟨by have:=hZ.out;omega⟩
    clear hi hrc
    rcases Bool.eq_false_or_eq_true cl with hcl | hcl
    · go_enter Tryz.func158,Tryz.ntmps158
      go_wp2_with (first | (go_at_call 159;(with_reducible refine (restr_calls b s r a km sg cl _ ?_ (by omega) hr.out).mono ?_);exact hb;rintro e w' ⟨rfl,⟨nd,rfl⟩⟩) | (go_at_call 40;(with_reducible refine (k1 _).mono ?_);rintro e' w' ⟨rfl,rfl⟩) | (go_at_call 40;(with_reducible refine (k2 _).mono ?_);rintro e' w' ⟨rfl,rfl⟩) | (go_at_call 177;(with_reducible refine (close_calls s r a _ hr.out hs (by omega) ?_).mono ?_);exact hm;rintro e' w' ⟨rfl,rfl⟩) | (go_at_call 178;(with_reducible refine (has10r_calls s r a _ hr.out ha).mono ?_);rintro e' w' ⟨rfl,rfl⟩) | (go_at_call 178;(with_reducible refine (has10_calls s r a (r.size) _ hr.out (by omega) ha).mono ?_);rintro e' w' ⟨rfl,rfl⟩))
      go_ret
      refine ⟨rfl,?_⟩
      rw [hD.out]
      rw [hcl]
      exact (((ScStep.refl hb).drewN _).setCl (cl':=true)).setAt (a':=a + r.size)
    · cases hl:Lx.hasLf s a (a + r.size)
      · go_enter Tryz.func158,Tryz.ntmps158
        go_wp2_with (first | (go_at_call 159;(with_reducible refine (restr_calls b s r a km sg cl _ ?_ (by omega) hr.out).mono ?_);exact hb;rintro e w' ⟨rfl,⟨nd,rfl⟩⟩) | (go_at_call 40;(with_reducible refine (k1 _).mono ?_);rintro e' w' ⟨rfl,rfl⟩) | (go_at_call 40;(with_reducible refine (k2 _).mono ?_);rintro e' w' ⟨rfl,rfl⟩) | (go_at_call 177;(with_reducible refine (close_calls s r a _ hr.out hs (by omega) ?_).mono ?_);exact hm;rintro e' w' ⟨rfl,rfl⟩) | (go_at_call 178;(with_reducible refine (has10r_calls s r a _ hr.out ha).mono ?_);rintro e' w' ⟨rfl,rfl⟩) | (go_at_call 178;(with_reducible refine (has10_calls s r a (r.size) _ hr.out (by omega) ha).mono ?_);rintro e' w' ⟨rfl,rfl⟩))
        go_ret
        refine ⟨rfl,?_⟩
        rw [hD.out]
        rw [hl,hcl]
        exact (((ScStep.refl hb).drewN _).setCl (cl':=false)).setAt (a':=a + r.size)
      · go_enter Tryz.func158,Tryz.ntmps158
        go_wp2_with (first | (go_at_call 159;(with_reducible refine (restr_calls b s r a km sg cl _ ?_ (by omega) hr.out).mono ?_);exact hb;rintro e w' ⟨rfl,⟨nd,rfl⟩⟩) | (go_at_call 40;(with_reducible refine (k1 _).mono ?_);rintro e' w' ⟨rfl,rfl⟩) | (go_at_call 40;(with_reducible refine (k2 _).mono ?_);rintro e' w' ⟨rfl,rfl⟩) | (go_at_call 177;(with_reducible refine (close_calls s r a _ hr.out hs (by omega) ?_).mono ?_);exact hm;rintro e' w' ⟨rfl,rfl⟩) | (go_at_call 178;(with_reducible refine (has10r_calls s r a _ hr.out ha).mono ?_);rintro e' w' ⟨rfl,rfl⟩) | (go_at_call 178;(with_reducible refine (has10_calls s r a (r.size) _ hr.out (by omega) ha).mono ?_);rintro e' w' ⟨rfl,rfl⟩))
        go_ret
        refine ⟨rfl,?_⟩
        rw [hD.out]
        rw [hl,hcl]
        exact (((ScStep.refl hb).drewN _).setCl (cl':=true)).setAt (a':=a + r.size)
  · have hcl:closeAt s (a + 2)=(j:Int):=hi
    have hD:Aside0 (Lx.runC s (a + 2)=a + (j + 4)):=⟨by omega⟩
    have hj2:j + 4 ≤ r.size:=by have:=hZ.out;omega
    clear hi hrc
    rcases Bool.eq_false_or_eq_true cl with hcl | hcl
    · go_enter Tryz.func158,Tryz.ntmps158
      go_wp2_with (first | (go_at_call 159;(with_reducible refine (restr_calls b s r a km sg cl _ ?_ (by omega) hr.out).mono ?_);exact hb;rintro e w' ⟨rfl,⟨nd,rfl⟩⟩) | (go_at_call 40;(with_reducible refine (k1 _).mono ?_);rintro e' w' ⟨rfl,rfl⟩) | (go_at_call 40;(with_reducible refine (k2 _).mono ?_);rintro e' w' ⟨rfl,rfl⟩) | (go_at_call 177;(with_reducible refine (close_calls s r a _ hr.out hs (by omega) ?_).mono ?_);exact hm;rintro e' w' ⟨rfl,rfl⟩) | (go_at_call 178;(with_reducible refine (has10r_calls s r a _ hr.out ha).mono ?_);rintro e' w' ⟨rfl,rfl⟩) | (go_at_call 178;(with_reducible refine (has10_calls s r a (j + 4) _ hr.out (by omega) ha).mono ?_);rintro e' w' ⟨rfl,rfl⟩))
      go_ret
      refine ⟨rfl,?_⟩
      rw [hD.out]
      rw [hcl]
      exact (((ScStep.refl hb).drewN _).setCl (cl':=true)).setAt (a':=a + (j + 4))
    · cases hl:Lx.hasLf s a (a + (j + 4))
      · go_enter Tryz.func158,Tryz.ntmps158
        go_wp2_with (first | (go_at_call 159;(with_reducible refine (restr_calls b s r a km sg cl _ ?_ (by omega) hr.out).mono ?_);exact hb;rintro e w' ⟨rfl,⟨nd,rfl⟩⟩) | (go_at_call 40;(with_reducible refine (k1 _).mono ?_);rintro e' w' ⟨rfl,rfl⟩) | (go_at_call 40;(with_reducible refine (k2 _).mono ?_);rintro e' w' ⟨rfl,rfl⟩) | (go_at_call 177;(with_reducible refine (close_calls s r a _ hr.out hs (by omega) ?_).mono ?_);exact hm;rintro e' w' ⟨rfl,rfl⟩) | (go_at_call 178;(with_reducible refine (has10r_calls s r a _ hr.out ha).mono ?_);rintro e' w' ⟨rfl,rfl⟩) | (go_at_call 178;(with_reducible refine (has10_calls s r a (j + 4) _ hr.out (by omega) ha).mono ?_);rintro e' w' ⟨rfl,rfl⟩))
        go_ret
        refine ⟨rfl,?_⟩
        rw [hD.out]
        rw [hl,hcl]
        exact (((ScStep.refl hb).drewN _).setCl (cl':=false)).setAt (a':=a + (j + 4))
      · go_enter Tryz.func158,Tryz.ntmps158
        go_wp2_with (first | (go_at_call 159;(with_reducible refine (restr_calls b s r a km sg cl _ ?_ (by omega) hr.out).mono ?_);exact hb;rintro e w' ⟨rfl,⟨nd,rfl⟩⟩) | (go_at_call 40;(with_reducible refine (k1 _).mono ?_);rintro e' w' ⟨rfl,rfl⟩) | (go_at_call 40;(with_reducible refine (k2 _).mono ?_);rintro e' w' ⟨rfl,rfl⟩) | (go_at_call 177;(with_reducible refine (close_calls s r a _ hr.out hs (by omega) ?_).mono ?_);exact hm;rintro e' w' ⟨rfl,rfl⟩) | (go_at_call 178;(with_reducible refine (has10r_calls s r a _ hr.out ha).mono ?_);rintro e' w' ⟨rfl,rfl⟩) | (go_at_call 178;(with_reducible refine (has10_calls s r a (j + 4) _ hr.out (by omega) ha).mono ?_);rintro e' w' ⟨rfl,rfl⟩))
        go_ret
        refine ⟨rfl,?_⟩
        rw [hD.out]
        rw [hl,hcl]
        exact (((ScStep.refl hb).drewN _).setCl (cl':=true)).setAt (a':=a + (j + 4))
end Go.Proofs.YtjnafjgonoficaaGreatDoor
