/-
  What the printer takes of the library: numbers, bools, prefixes, the builder.
-/
import Derived.Test.YtpmlmpibpmoclaaGreatDoorS1
import Derived.Shelf.Strings.BuilderRune
import Derived.Shelf.Strings.Repeat
import Derived.Shelf.Strings.Prefix
import Derived.Shelf.Strconv.Itoa4
import Derived.Shelf.Small.Wraps
import Derived.Lib.AppendIntMem
import Derived.Lib.MapLaws
import Derived.Lib.OthersKept
namespace Go.Proofs.YtpmlmpibpmoclaaGreatDoor
set_option linter.all false
open Go.RowKit

def Tryz.l171_ren : Go.Shelf.Ren := ⟨fun | 171 => 132 | 243 => 178 | 246 => 222 | 283 => 238 | 284 => 239 | 285 => 240 | 286 => 241 | 129 => 255 | 317 => 254 | 318 => 256 | 319 => 257 | 320 => 258 | 337 => 267 | 338 => 268 | n => n, fun | 3 => 3 | 9 => 9 | 2 => 2 | 4 => 4 | 171 => 176 | 0 => 0 | 53 => 145 | 37 => 47 | 5 => 5 | 173 => 179 | 212 => 186 | 51 => 142 | 20 => 20 | 213 => 187 | 46 => 118 | 232 => 201 | 233 => 202 | n => n, fun | 17 => 3 | 18 => 6 | 19 => 7 | n => n⟩

theorem Tryz.l171 : Go.Proofs.LaysM.n171 Tryz.prog Tryz.l171_ren :=
  {  mixed := by kernel_rfl,
     f129 := Tryz.func255.trans (congrArg some (by kernel_rfl)),
     f171 := Tryz.func132.trans (congrArg some (by kernel_rfl)),
     f243 := Tryz.func178.trans (congrArg some (by kernel_rfl)),
     f246 := Tryz.func222.trans (congrArg some (by kernel_rfl)),
     f283 := Tryz.func238.trans (congrArg some (by kernel_rfl)),
     f284 := Tryz.func239.trans (congrArg some (by kernel_rfl)),
     f285 := Tryz.func240.trans (congrArg some (by kernel_rfl)),
     f286 := Tryz.func241.trans (congrArg some (by kernel_rfl)),
     f317 := Tryz.func254.trans (congrArg some (by kernel_rfl)),
     f318 := Tryz.func256.trans (congrArg some (by kernel_rfl)),
     f319 := Tryz.func257.trans (congrArg some (by kernel_rfl)),
     f320 := Tryz.func258.trans (congrArg some (by kernel_rfl)),
     f337 := Tryz.func267.trans (congrArg some (by kernel_rfl)),
     f338 := Tryz.func268.trans (congrArg some (by kernel_rfl)),
     t0 := Tryz.underlying0,
     a0 := Tryz.isAgg0,
     z0 := Tryz.sizeOf0,
     v0 := Tryz.zeroValue0,
     t2 := Tryz.underlying2,
     a2 := Tryz.isAgg2,
     z2 := Tryz.sizeOf2,
     v2 := Tryz.zeroValue2,
     t3 := Tryz.underlying3,
     a3 := Tryz.isAgg3,
     z3 := Tryz.sizeOf3,
     v3 := Tryz.zeroValue3,
     t4 := Tryz.underlying4,
     a4 := Tryz.isAgg4,
     z4 := Tryz.sizeOf4,
     v4 := Tryz.zeroValue4,
     t5 := Tryz.underlying5,
     a5 := Tryz.isAgg5,
     z5 := Tryz.sizeOf5,
     v5 := Tryz.zeroValue5,
     t9 := Tryz.underlying9,
     a9 := Tryz.isAgg9,
     z9 := Tryz.sizeOf9,
     v9 := Tryz.zeroValue9,
     t20 := Tryz.underlying20,
     a20 := Tryz.isAgg20,
     z20 := Tryz.sizeOf20,
     v20 := Tryz.zeroValue20,
     t37 := Tryz.underlying47,
     a37 := Tryz.isAgg47,
     z37 := Tryz.sizeOf47,
     v37 := Tryz.zeroValue47,
     t46 := Tryz.underlying118,
     a46 := Tryz.isAgg118,
     z46 := Tryz.sizeOf118,
     v46 := Tryz.zeroValue118,
     t51 := Tryz.underlying142,
     a51 := Tryz.isAgg142,
     z51 := Tryz.sizeOf142,
     v51 := Tryz.zeroValue142,
     t53 := Tryz.underlying145,
     a53 := Tryz.isAgg145,
     z53 := Tryz.sizeOf145,
     v53 := Tryz.zeroValue145,
     t171 := Tryz.underlying176,
     a171 := Tryz.isAgg176,
     z171 := Tryz.sizeOf176,
     v171 := Tryz.zeroValue176,
     t173 := Tryz.underlying179,
     a173 := Tryz.isAgg179,
     z173 := Tryz.sizeOf179,
     v173 := Tryz.zeroValue179,
     t212 := Tryz.underlying186,
     a212 := Tryz.isAgg186,
     z212 := Tryz.sizeOf186,
     v212 := Tryz.zeroValue186,
     t213 := Tryz.underlying187,
     a213 := Tryz.isAgg187,
     z213 := Tryz.sizeOf187,
     t232 := Tryz.underlying201,
     a232 := Tryz.isAgg201,
     z232 := Tryz.sizeOf201,
     v232 := Tryz.zeroValue201,
     t233 := Tryz.underlying202,
     a233 := Tryz.isAgg202,
     z233 := Tryz.sizeOf202,
     v233 := Tryz.zeroValue202,
     g17 := by kernel_rfl,
     g18 := by kernel_rfl,
     g19 := by kernel_rfl,
     i0 := by kernel_rfl,
     i2 := by kernel_rfl,
     i3 := by kernel_rfl,
     i4 := by kernel_rfl,
     i5 := by kernel_rfl,
     i9 := by kernel_rfl,
     i20 := by kernel_rfl,
     i37 := by kernel_rfl,
     i46 := by kernel_rfl,
     i51 := by kernel_rfl,
     i53 := by kernel_rfl,
     i171 := by kernel_rfl,
     i173 := by kernel_rfl,
     i212 := by kernel_rfl,
     i232 := by kernel_rfl,
     i233 := by kernel_rfl,
     m17 := by kernel_rfl,
     m18 := by kernel_rfl,
     m19 := by kernel_rfl }

def Tryz.l121_ren : Go.Shelf.Ren := ⟨fun | 121 => 134 | 214 => 182 | n => n, fun | 4 => 4 | 9 => 9 | n => n, fun | n => n⟩

theorem Tryz.l121 : Go.Proofs.Lays.n121 Tryz.prog Tryz.l121_ren :=
  {  mixed := by kernel_rfl,
     f121 := Tryz.func134.trans (congrArg some (by kernel_rfl)),
     f214 := Tryz.func182.trans (congrArg some (by kernel_rfl)),
     t4 := Tryz.underlying4,
     a4 := Tryz.isAgg4,
     z4 := Tryz.sizeOf4,
     v4 := Tryz.zeroValue4,
     t9 := Tryz.underlying9,
     a9 := Tryz.isAgg9,
     z9 := Tryz.sizeOf9,
     v9 := Tryz.zeroValue9 }

def Tryz.l99_ren : Go.Shelf.Ren := ⟨fun | 99 => 146 | 206 => 186 | n => n, fun | 9 => 9 | 4 => 4 | 3 => 3 | n => n, fun | n => n⟩

theorem Tryz.l99 : Go.Proofs.Lays.n99 Tryz.prog Tryz.l99_ren :=
  {  mixed := by kernel_rfl,
     f99 := Tryz.func146.trans (congrArg some (by kernel_rfl)),
     f206 := Tryz.func186.trans (congrArg some (by kernel_rfl)),
     t3 := Tryz.underlying3,
     a3 := Tryz.isAgg3,
     z3 := Tryz.sizeOf3,
     v3 := Tryz.zeroValue3,
     t4 := Tryz.underlying4,
     a4 := Tryz.isAgg4,
     z4 := Tryz.sizeOf4,
     v4 := Tryz.zeroValue4,
     t9 := Tryz.underlying9,
     a9 := Tryz.isAgg9,
     z9 := Tryz.sizeOf9,
     v9 := Tryz.zeroValue9 }

def Tryz.l166_ren : Go.Shelf.Ren := ⟨fun | 166 => 32 | 240 => 76 | 276 => 144 | n => n, fun | 70 => 46 | 9 => 9 | 3 => 3 | 75 => 51 | 0 => 0 | 72 => 49 | 37 => 47 | 4 => 4 | 164 => 116 | 80 => 54 | 5 => 5 | n => n, fun | n => n⟩

theorem Tryz.l166 : Go.Proofs.Lays.n166 Tryz.prog Tryz.l166_ren :=
  {  mixed := by kernel_rfl,
     f166 := Tryz.func32.trans (congrArg some (by kernel_rfl)),
     f240 := Tryz.func76.trans (congrArg some (by kernel_rfl)),
     f276 := Tryz.func144.trans (congrArg some (by kernel_rfl)),
     t0 := Tryz.underlying0,
     a0 := Tryz.isAgg0,
     z0 := Tryz.sizeOf0,
     v0 := Tryz.zeroValue0,
     t3 := Tryz.underlying3,
     a3 := Tryz.isAgg3,
     z3 := Tryz.sizeOf3,
     v3 := Tryz.zeroValue3,
     t4 := Tryz.underlying4,
     a4 := Tryz.isAgg4,
     z4 := Tryz.sizeOf4,
     v4 := Tryz.zeroValue4,
     t9 := Tryz.underlying9,
     a9 := Tryz.isAgg9,
     z9 := Tryz.sizeOf9,
     v9 := Tryz.zeroValue9,
     t20 := Tryz.underlying20,
     a20 := Tryz.isAgg20,
     z20 := Tryz.sizeOf20,
     v20 := Tryz.zeroValue20,
     t37 := Tryz.underlying47,
     a37 := Tryz.isAgg47,
     z37 := Tryz.sizeOf47,
     v37 := Tryz.zeroValue47,
     t70 := Tryz.underlying46,
     a70 := Tryz.isAgg46,
     z70 := Tryz.sizeOf46,
     v70 := Tryz.zeroValue46,
     t72 := Tryz.underlying49,
     a72 := Tryz.isAgg49,
     z72 := Tryz.sizeOf49,
     v72 := Tryz.zeroValue49,
     t75 := Tryz.underlying51,
     a75 := Tryz.isAgg51,
     z75 := Tryz.sizeOf51,
     v75 := Tryz.zeroValue51,
     t164 := Tryz.underlying116,
     a164 := Tryz.isAgg116,
     z164 := Tryz.sizeOf116,
     v164 := Tryz.zeroValue116 }

def Tryz.l167_ren : Go.Shelf.Ren := ⟨fun | 167 => 179 | 240 => 76 | 276 => 144 | n => n, fun | 70 => 46 | 5 => 5 | 75 => 51 | 0 => 0 | 72 => 49 | 37 => 47 | 4 => 4 | 164 => 116 | 80 => 54 | 9 => 9 | n => n, fun | n => n⟩

theorem Tryz.l167 : Go.Proofs.Lays.n167 Tryz.prog Tryz.l167_ren :=
  {  mixed := by kernel_rfl,
     f167 := Tryz.func179.trans (congrArg some (by kernel_rfl)),
     f240 := Tryz.func76.trans (congrArg some (by kernel_rfl)),
     f276 := Tryz.func144.trans (congrArg some (by kernel_rfl)),
     t0 := Tryz.underlying0,
     a0 := Tryz.isAgg0,
     z0 := Tryz.sizeOf0,
     v0 := Tryz.zeroValue0,
     t4 := Tryz.underlying4,
     a4 := Tryz.isAgg4,
     z4 := Tryz.sizeOf4,
     v4 := Tryz.zeroValue4,
     t5 := Tryz.underlying5,
     a5 := Tryz.isAgg5,
     z5 := Tryz.sizeOf5,
     v5 := Tryz.zeroValue5,
     t9 := Tryz.underlying9,
     a9 := Tryz.isAgg9,
     z9 := Tryz.sizeOf9,
     v9 := Tryz.zeroValue9,
     t20 := Tryz.underlying20,
     a20 := Tryz.isAgg20,
     z20 := Tryz.sizeOf20,
     v20 := Tryz.zeroValue20,
     t37 := Tryz.underlying47,
     a37 := Tryz.isAgg47,
     z37 := Tryz.sizeOf47,
     v37 := Tryz.zeroValue47,
     t70 := Tryz.underlying46,
     a70 := Tryz.isAgg46,
     z70 := Tryz.sizeOf46,
     v70 := Tryz.zeroValue46,
     t72 := Tryz.underlying49,
     a72 := Tryz.isAgg49,
     z72 := Tryz.sizeOf49,
     v72 := Tryz.zeroValue49,
     t75 := Tryz.underlying51,
     a75 := Tryz.isAgg51,
     z75 := Tryz.sizeOf51,
     v75 := Tryz.zeroValue51,
     t164 := Tryz.underlying116,
     a164 := Tryz.isAgg116,
     z164 := Tryz.sizeOf116,
     v164 := Tryz.zeroValue116 }

def Tryz.l168_ren : Go.Shelf.Ren := ⟨fun | 168 => 181 | 240 => 76 | 242 => 223 | 276 => 144 | 278 => 242 | n => n, fun | 70 => 46 | 21 => 21 | 3 => 3 | 75 => 51 | 0 => 0 | 72 => 49 | 37 => 47 | 4 => 4 | 164 => 116 | 51 => 142 | 5 => 5 | 46 => 118 | 80 => 54 | 9 => 9 | n => n, fun | n => n⟩

theorem Tryz.l168 : Go.Proofs.Lays.n168 Tryz.prog Tryz.l168_ren :=
  {  mixed := by kernel_rfl,
     f168 := Tryz.func181.trans (congrArg some (by kernel_rfl)),
     f240 := Tryz.func76.trans (congrArg some (by kernel_rfl)),
     f242 := Tryz.func223.trans (congrArg some (by kernel_rfl)),
     f276 := Tryz.func144.trans (congrArg some (by kernel_rfl)),
     f278 := Tryz.func242.trans (congrArg some (by kernel_rfl)),
     t0 := Tryz.underlying0,
     a0 := Tryz.isAgg0,
     z0 := Tryz.sizeOf0,
     v0 := Tryz.zeroValue0,
     t3 := Tryz.underlying3,
     a3 := Tryz.isAgg3,
     z3 := Tryz.sizeOf3,
     v3 := Tryz.zeroValue3,
     t4 := Tryz.underlying4,
     a4 := Tryz.isAgg4,
     z4 := Tryz.sizeOf4,
     v4 := Tryz.zeroValue4,
     t5 := Tryz.underlying5,
     a5 := Tryz.isAgg5,
     z5 := Tryz.sizeOf5,
     v5 := Tryz.zeroValue5,
     t9 := Tryz.underlying9,
     a9 := Tryz.isAgg9,
     z9 := Tryz.sizeOf9,
     v9 := Tryz.zeroValue9,
     t20 := Tryz.underlying20,
     a20 := Tryz.isAgg20,
     z20 := Tryz.sizeOf20,
     v20 := Tryz.zeroValue20,
     t21 := Tryz.underlying21,
     a21 := Tryz.isAgg21,
     z21 := Tryz.sizeOf21,
     v21 := Tryz.zeroValue21,
     t37 := Tryz.underlying47,
     a37 := Tryz.isAgg47,
     z37 := Tryz.sizeOf47,
     v37 := Tryz.zeroValue47,
     t46 := Tryz.underlying118,
     a46 := Tryz.isAgg118,
     z46 := Tryz.sizeOf118,
     v46 := Tryz.zeroValue118,
     t51 := Tryz.underlying142,
     a51 := Tryz.isAgg142,
     z51 := Tryz.sizeOf142,
     v51 := Tryz.zeroValue142,
     t70 := Tryz.underlying46,
     a70 := Tryz.isAgg46,
     z70 := Tryz.sizeOf46,
     v70 := Tryz.zeroValue46,
     t72 := Tryz.underlying49,
     a72 := Tryz.isAgg49,
     z72 := Tryz.sizeOf49,
     v72 := Tryz.zeroValue49,
     t75 := Tryz.underlying51,
     a75 := Tryz.isAgg51,
     z75 := Tryz.sizeOf51,
     v75 := Tryz.zeroValue51,
     t164 := Tryz.underlying116,
     a164 := Tryz.isAgg116,
     z164 := Tryz.sizeOf116,
     v164 := Tryz.zeroValue116 }

def Tryz.l169_ren : Go.Shelf.Ren := ⟨fun | 169 => 34 | n => n, fun | 70 => 46 | 9 => 9 | 0 => 0 | 72 => 49 | 37 => 47 | 127 => 83 | 3 => 3 | 5 => 5 | n => n, fun | n => n⟩

theorem Tryz.l169 : Go.Proofs.Lays.n169 Tryz.prog Tryz.l169_ren :=
  {  mixed := by kernel_rfl,
     f169 := Tryz.func34.trans (congrArg some (by kernel_rfl)),
     t0 := Tryz.underlying0,
     a0 := Tryz.isAgg0,
     z0 := Tryz.sizeOf0,
     v0 := Tryz.zeroValue0,
     t3 := Tryz.underlying3,
     a3 := Tryz.isAgg3,
     z3 := Tryz.sizeOf3,
     v3 := Tryz.zeroValue3,
     t9 := Tryz.underlying9,
     a9 := Tryz.isAgg9,
     z9 := Tryz.sizeOf9,
     v9 := Tryz.zeroValue9,
     t37 := Tryz.underlying47,
     a37 := Tryz.isAgg47,
     z37 := Tryz.sizeOf47,
     v37 := Tryz.zeroValue47,
     t70 := Tryz.underlying46,
     a70 := Tryz.isAgg46,
     z70 := Tryz.sizeOf46,
     v70 := Tryz.zeroValue46,
     t72 := Tryz.underlying49,
     a72 := Tryz.isAgg49,
     z72 := Tryz.sizeOf49,
     v72 := Tryz.zeroValue49,
     t127 := Tryz.underlying83,
     a127 := Tryz.isAgg83,
     z127 := Tryz.sizeOf83,
     v127 := Tryz.zeroValue83 }

def Tryz.l105_ren : Go.Shelf.Ren := ⟨fun | 105 => 77 | 212 => 145 | 99 => 146 | 165 => 147 | 166 => 32 | 170 => 148 | 169 => 34 | 263 => 184 | 264 => 185 | 206 => 186 | 240 => 76 | 241 => 187 | 276 => 144 | 277 => 224 | n => n, fun | 9 => 9 | 3 => 3 | 4 => 4 | 20 => 20 | 0 => 0 | 46 => 118 | 109 => 119 | 5 => 5 | 72 => 49 | 76 => 52 | 51 => 142 | 146 => 143 | 53 => 145 | 148 => 146 | 70 => 46 | 37 => 47 | 75 => 51 | 127 => 83 | 164 => 116 | 80 => 54 | n => n, fun | n => n⟩

theorem Tryz.l105 : Go.Proofs.Lays.n105 Tryz.prog Tryz.l105_ren :=
  {  mixed := by kernel_rfl,
     f99 := Tryz.func146.trans (congrArg some (by kernel_rfl)),
     f105 := Tryz.func77.trans (congrArg some (by kernel_rfl)),
     f165 := Tryz.func147.trans (congrArg some (by kernel_rfl)),
     f166 := Tryz.func32.trans (congrArg some (by kernel_rfl)),
     f169 := Tryz.func34.trans (congrArg some (by kernel_rfl)),
     f170 := Tryz.func148.trans (congrArg some (by kernel_rfl)),
     f206 := Tryz.func186.trans (congrArg some (by kernel_rfl)),
     f212 := Tryz.func145.trans (congrArg some (by kernel_rfl)),
     f240 := Tryz.func76.trans (congrArg some (by kernel_rfl)),
     f241 := Tryz.func187.trans (congrArg some (by kernel_rfl)),
     f263 := Tryz.func184.trans (congrArg some (by kernel_rfl)),
     f264 := Tryz.func185.trans (congrArg some (by kernel_rfl)),
     f276 := Tryz.func144.trans (congrArg some (by kernel_rfl)),
     f277 := Tryz.func224.trans (congrArg some (by kernel_rfl)),
     t0 := Tryz.underlying0,
     a0 := Tryz.isAgg0,
     z0 := Tryz.sizeOf0,
     v0 := Tryz.zeroValue0,
     t3 := Tryz.underlying3,
     a3 := Tryz.isAgg3,
     z3 := Tryz.sizeOf3,
     v3 := Tryz.zeroValue3,
     t4 := Tryz.underlying4,
     a4 := Tryz.isAgg4,
     z4 := Tryz.sizeOf4,
     v4 := Tryz.zeroValue4,
     t5 := Tryz.underlying5,
     a5 := Tryz.isAgg5,
     z5 := Tryz.sizeOf5,
     v5 := Tryz.zeroValue5,
     t9 := Tryz.underlying9,
     a9 := Tryz.isAgg9,
     z9 := Tryz.sizeOf9,
     v9 := Tryz.zeroValue9,
     t20 := Tryz.underlying20,
     a20 := Tryz.isAgg20,
     z20 := Tryz.sizeOf20,
     v20 := Tryz.zeroValue20,
     t37 := Tryz.underlying47,
     a37 := Tryz.isAgg47,
     z37 := Tryz.sizeOf47,
     v37 := Tryz.zeroValue47,
     t46 := Tryz.underlying118,
     a46 := Tryz.isAgg118,
     z46 := Tryz.sizeOf118,
     v46 := Tryz.zeroValue118,
     t51 := Tryz.underlying142,
     a51 := Tryz.isAgg142,
     z51 := Tryz.sizeOf142,
     v51 := Tryz.zeroValue142,
     t53 := Tryz.underlying145,
     a53 := Tryz.isAgg145,
     z53 := Tryz.sizeOf145,
     v53 := Tryz.zeroValue145,
     t70 := Tryz.underlying46,
     a70 := Tryz.isAgg46,
     z70 := Tryz.sizeOf46,
     v70 := Tryz.zeroValue46,
     t72 := Tryz.underlying49,
     a72 := Tryz.isAgg49,
     z72 := Tryz.sizeOf49,
     v72 := Tryz.zeroValue49,
     t75 := Tryz.underlying51,
     a75 := Tryz.isAgg51,
     z75 := Tryz.sizeOf51,
     v75 := Tryz.zeroValue51,
     t76 := Tryz.underlying52,
     a76 := Tryz.isAgg52,
     z76 := Tryz.sizeOf52,
     v76 := Tryz.zeroValue52,
     t109 := Tryz.underlying119,
     a109 := Tryz.isAgg119,
     z109 := Tryz.sizeOf119,
     v109 := Tryz.zeroValue119,
     t127 := Tryz.underlying83,
     a127 := Tryz.isAgg83,
     z127 := Tryz.sizeOf83,
     v127 := Tryz.zeroValue83,
     t146 := Tryz.underlying143,
     a146 := Tryz.isAgg143,
     z146 := Tryz.sizeOf143,
     v146 := Tryz.zeroValue143,
     t148 := Tryz.underlying146,
     a148 := Tryz.isAgg146,
     z148 := Tryz.sizeOf146,
     v148 := Tryz.zeroValue146,
     t164 := Tryz.underlying116,
     a164 := Tryz.isAgg116,
     z164 := Tryz.sizeOf116,
     v164 := Tryz.zeroValue116 }

theorem Tryz.x166 : Builder.Extra Tryz.prog Tryz.l166_ren where
  sizeBuilder := by kernel_rfl
  liesBuilder := by kernel_rfl
  t5 := Tryz.underlying5
  a5 := Tryz.isAgg5
  z5 := Tryz.sizeOf5
  v5 := Tryz.zeroValue5
  infoByte := by kernel_rfl
  cellsByte := by kernel_rfl
  sizeByte := by kernel_rfl
  neB5 := by decide

theorem Tryz.x167 : Builder.Extra Tryz.prog Tryz.l167_ren where
  sizeBuilder := by kernel_rfl
  liesBuilder := by kernel_rfl
  t5 := Tryz.underlying5
  a5 := Tryz.isAgg5
  z5 := Tryz.sizeOf5
  v5 := Tryz.zeroValue5
  infoByte := by kernel_rfl
  cellsByte := by kernel_rfl
  sizeByte := by kernel_rfl
  neB5 := by decide

theorem Tryz.x168 : Builder.Extra Tryz.prog Tryz.l168_ren where
  sizeBuilder := by kernel_rfl
  liesBuilder := by kernel_rfl
  t5 := Tryz.underlying5
  a5 := Tryz.isAgg5
  z5 := Tryz.sizeOf5
  v5 := Tryz.zeroValue5
  infoByte := by kernel_rfl
  cellsByte := by kernel_rfl
  sizeByte := by kernel_rfl
  neB5 := by decide

theorem Tryz.x169 : Builder.Extra Tryz.prog Tryz.l169_ren where
  sizeBuilder := by kernel_rfl
  liesBuilder := by kernel_rfl
  t5 := Tryz.underlying5
  a5 := Tryz.isAgg5
  z5 := Tryz.sizeOf5
  v5 := Tryz.zeroValue5
  infoByte := by kernel_rfl
  cellsByte := by kernel_rfl
  sizeByte := by kernel_rfl
  neB5 := by decide

theorem Tryz.x105 : Builder.Extra Tryz.prog Tryz.l105_ren where
  sizeBuilder := by kernel_rfl
  liesBuilder := by kernel_rfl
  t5 := Tryz.underlying5
  a5 := Tryz.isAgg5
  z5 := Tryz.sizeOf5
  v5 := Tryz.zeroValue5
  infoByte := by kernel_rfl
  cellsByte := by kernel_rfl
  sizeByte := by kernel_rfl
  neB5 := by decide

/-- The call answers that text. -/
def StrP (s : Bs) (w : World) (e : Ending) (w' : World) : Prop := e = .returned (.string (sv s)) ∧ Fx w w'

theorem itoa_p (n : Int) (h0 : -9223372036854775808 ≤ n) (h1 : n ≤ 9223372036854775807) (B : Nat) (w : World) (h : Pow B w) : Calls Tryz.prog 132 #[.int .i64 n] w (StrP (Lib.itoa n) w) := by
  have cI : Calls Tryz.prog 132 #[.int .i64 n] w _ := Any.strconv_Itoa Tryz.l171 n h0 h1 w h.now
  refine cI.mono ?_
  rintro e w' ⟨rfl, k, os, rfl⟩
  exact ⟨rfl, fx_below (Lib.below_grow _ _ (Nat.le_refl _) _ _)⟩

def boolT (b : Bool) : Bs := if b then [116, 114, 117, 101] else [102, 97, 108, 115, 101]
theorem fbool_p (b : Bool) (w : World) : Calls Tryz.prog 134 #[.bool b] w (StrP (boolT b) w) := by
  have cB : Calls Tryz.prog 134 #[.bool b] w _ := Any.strconv_FormatBool Tryz.l121 b w
  refine cB.mono ?_
  rintro e w' ⟨rfl, rfl⟩
  refine ⟨?_, Ext.refl _ _⟩
  cases b <;> rfl

theorem prefix_p (s p : Bs) (w : World) : Calls Tryz.prog 146 #[.string (sv s), .string (sv p)] w (Tells (startsB p s) w) := by
  have cP : Calls Tryz.prog 146 #[.string (sv s), .string (sv p)] w _ := Any.strings_HasPrefix Tryz.l99 (sv s) (sv p) w
  refine cP.mono ?_
  rintro e w' ⟨rfl, rfl⟩
  refine ⟨?_, rfl⟩
  simp [Lib.hasPrefix, startsB, sv]

set_option maxRecDepth 20000

theorem pow2_p (w : World) : Calls Tryz.prog 257 #[.int .i64 16] w (Tells true w) := by
 go_enter Tryz.func257, Tryz.ntmps257
 go_wp2
 go_ret
 exact .mk rfl

theorem zeros_p (w : World) (B : Nat) (hT : Tabs B w) : Calls Tryz.prog 268 #[.int .u64 16] w (TellsI 4 w) := by
 have hc := hT.bru w (Below.refl _ _)
 have e1 : IntKind.u64.wrap (-16) = 18446744073709551600 := by decide
 have e2 : bits BinOp.and IntKind.u64 16 18446744073709551600 = 16 := by decide
 have e3 : IntKind.u64.wrap 4573923408821661840 = 4573923408821661840 := by decide
 clear hT
 go_enter Tryz.func268, Tryz.ntmps268
 go_wp2
 go_ret
 exact ⟨rfl, rfl⟩

theorem zeros_q (w : World) (B : Nat) (hT : Tabs B w) : Calls Tryz.prog 258 #[.int .u64 16] w (TellsI 4 w) := by
 go_enter Tryz.func258, Tryz.ntmps258
 go_wp2_with (go_at_call 268; refine (zeros_p _ B hT).mono ?_; rintro e w1 ⟨rfl, rfl⟩)
 go_ret
 exact ⟨rfl, rfl⟩

theorem hex_tab (n : Nat) (hn : n < 16) (h : n < (⟨#[48, 49, 50, 51, 52, 53, 54, 55, 56, 57, 97, 98, 99, 100, 101, 102, 103, 104, 105, 106, 107, 108, 109, 110, 111, 112, 113, 114, 115, 116, 117, 118, 119, 120, 121, 122]⟩ : ByteArray).size) : (⟨#[48, 49, 50, 51, 52, 53, 54, 55, 56, 57, 97, 98, 99, 100, 101, 102, 103, 104, 105, 106, 107, 108, 109, 110, 111, 112, 113, 114, 115, 116, 117, 118, 119, 120, 121, 122]⟩ : ByteArray)[n] = hexD n := by
 have key : ∀ m : Fin 16, (⟨#[48, 49, 50, 51, 52, 53, 54, 55, 56, 57, 97, 98, 99, 100, 101, 102, 103, 104, 105, 106, 107, 108, 109, 110, 111, 112, 113, 114, 115, 116, 117, 118, 119, 120, 121, 122]⟩ : ByteArray).data[m.val]? = some (hexD m.val) := by decide
 have := key ⟨n, hn⟩
 have h2 := (Array.getElem?_eq_some_iff.1 this).2
 exact h2

theorem conv_row (w : World) (A : Array Value) (o n cap : Nat) (l : Bs) (hn : l.length = n) (h : ∀ j (hj : j < l.length), A[o + j]? = some (.int .u8 (l[j].toNat : Int))) :
  (convert 47 9 (.slice (some ⟨w.heap.size, o, none⟩) n cap)).run Tryz.prog (w.alloc (.cells A 187)) = .ok (.string (sv l)) (w.alloc (.cells A 187)) := by
 subst hn
 refine run_convert_bytes_back _ 47 9 5 ⟨w.heap.size, o, none⟩ cap l Tryz.underlying47 Tryz.underlying5 Tryz.underlying9 fun j hj => ?_
 rw [Lib.add_plain, World.cell?_alloc_new]
 exact h j hj

def FbP (u : Nat) (w : World) (e : Ending) (w' : World) : Prop := e = .returned (.tuple #[.slice none 0 0, .string (sv (hex u))]) ∧ Fx w w'

theorem fb1_p (u : Nat) (hu : u < 16) (w : World) (B : Nat) (hT : Tabs B w) : Calls Tryz.prog 241 #[.slice none 0 0, .int .u64 u, .int .i64 16, .bool false, .bool false] w (FbP u w) := by
 go_enter Tryz.func241, Tryz.ntmps241
 go_wp2_with (first
  | (go_at_call 257; refine (pow2_p _).mono ?_; rintro e w1 ⟨rfl, rfl⟩)
  | (go_at_call 258; refine (zeros_q _ B (hT.keepF (Ext.alloc _ _ _))).mono ?_; rintro e w1 ⟨rfl, rfl⟩))
 go_loopw [1, 13] (fun x i wr => x = .int .u64 u ∧ i = .int .i64 65 ∧ wr = w.alloc (.cells (Array.replicate 65 (.int .u8 0)) 187)) (fun _ _ _ => 0)
 case atStart => exact ⟨rfl, rfl, rfl⟩
 case round =>
  obtain ⟨rfl, rfl, rfl⟩ := hrel
  go_wp2
  rw [conv_row w _ 64 1 1 [hexD u] rfl (fun j hj => by
   obtain rfl : j = 0 := by simp at hj; exact hj
   simp [hex_tab u hu])]
  go_wp2
  go_ret2
  refine ⟨?_, Ext.alloc _ _ _⟩
  rw [hex, if_pos hu]
  rfl

theorem land15 (u : Nat) (hu : u < 128) : bits BinOp.and IntKind.u64 (u : Int) 15 = ((u % 16 : Nat) : Int) := by
 have key : ∀ m : Fin 128, bits BinOp.and IntKind.u64 (m.val : Int) 15 = ((m.val % 16 : Nat) : Int) := by decide
 exact key ⟨u, hu⟩

theorem fb2_p (u : Nat) (hu : 16 ≤ u) (hu2 : u < 128) (w : World) (B : Nat) (hT : Tabs B w) : Calls Tryz.prog 241 #[.slice none 0 0, .int .u64 u, .int .i64 16, .bool false, .bool false] w (FbP u w) := by
 have hb := land15 u hu2
 have hm : u % 16 < 16 := Nat.mod_lt _ (by omega)
 go_enter Tryz.func241, Tryz.ntmps241
 go_wp2_with (first
  | (go_at_call 257; refine (pow2_p _).mono ?_; rintro e w1 ⟨rfl, rfl⟩)
  | (go_at_call 258; refine (zeros_q _ B (hT.keepF (Ext.alloc _ _ _))).mono ?_; rintro e w1 ⟨rfl, rfl⟩))
 go_loopw [1, 13] (fun x i wr => (x = .int .u64 u ∧ i = .int .i64 65 ∧ wr = w.alloc (.cells (Array.replicate 65 (.int .u8 0)) 187)) ∨ (x = .int .u64 (u / 16 : Nat) ∧ i = .int .i64 64 ∧ wr = w.alloc (.cells ((Array.replicate 65 (.int .u8 0)).setIfInBounds 64 (.int .u8 (hexD (u % 16)).toNat)) 187))) (fun x _ _ => (intOf x).toNat)
 case atStart => exact .inl ⟨rfl, rfl, rfl⟩
 case round =>
  rcases hrel with ⟨rfl, rfl, rfl⟩ | ⟨rfl, rfl, rfl⟩
  ·go_wp2
   go_roundw
   case rel => exact .inr ⟨by rw [Int.natCast_ediv]; rfl, rfl, by rw [hex_tab (u % 16) hm]⟩
   case measure => simp [intOf]; omega
  ·have hd : u / 16 < 16 := by omega
   go_wp2
   rw [conv_row w _ 63 2 2 [hexD (u / 16), hexD (u % 16)] rfl (fun j hj => by
    rcases j with _ | _ | j
    ·simp [hex_tab (u / 16) hd]
    ·simp [hex_tab (u / 16) hd]
    ·exact absurd hj (by simp))]
   go_wp2
   go_ret2
   refine ⟨?_, Ext.alloc _ _ _⟩
   rw [hex, if_neg (by omega)]
   rfl

theorem fb_p (u : Nat) (hu : u < 128) (w : World) (B : Nat) (hT : Tabs B w) : Calls Tryz.prog 241 #[.slice none 0 0, .int .u64 u, .int .i64 16, .bool false, .bool false] w (FbP u w) := by
 rcases Nat.lt_or_ge u 16 with h | h
 ·exact fb1_p u h w B hT
 ·exact fb2_p u h hu w B hT

theorem fmt_q (u : Nat) (hu : u < 128) (w : World) (B : Nat) (hT : Tabs B w) : Calls Tryz.prog 222 #[.int .i64 u, .int .i64 16] w (StrP (hex u) w) := by
 go_enter Tryz.func222, Tryz.ntmps222
 go_wp2_with (go_at_call 241; refine (fb_p u hu _ B hT).mono ?_; rintro e w1 ⟨rfl, x1⟩)
 go_ret
 exact ⟨rfl, x1⟩

theorem fmt_p (u : Nat) (hu : u < 128) (w : World) (B : Nat) (hT : Tabs B w) : Calls Tryz.prog 180 #[.int .i64 u, .int .i64 16] w (StrP (hex u) w) := by
 go_enter Tryz.func180, Tryz.ntmps180
 go_wp2_with (go_at_call 222; refine (fmt_q u hu _ B hT).mono ?_; rintro e w1 ⟨rfl, x1⟩)
 go_ret
 exact ⟨rfl, x1⟩

set_option maxRecDepth 20000
set_option maxHeartbeats 4000000

/-- The builder in block b holds acc. -/
def Bl (b : Nat) (acc : Bs) (w : World) : Prop := Lib.IsBuilderF 49 5 b b (Lib.byteCells acc) w
/-- A call that writes s into it. -/
def WsP (b : Nat) (acc s : Bs) (w : World) (e : Ending) (w' : World) : Prop := (∃ v, e = .returned v) ∧ Bl b (acc ++ s) w' ∧ Below b w w'

theorem ws_b {b : Nat} {acc : Bs} {s : ByteArray} {w : World} (h : Bl b acc w) (hl : acc.length + s.size ≤ 140737488355328) (hb : b ≤ w.heap.size) : Calls Tryz.prog 32 #[.pointer (some ⟨b, 0, none⟩), .string s] w (WsP b acc s.data.toList w) := by
 have cW : Calls Tryz.prog 32 #[.pointer (some ⟨b, 0, none⟩), .string s] w _ := Any.Builder_WriteString_k Tryz.l166 Tryz.x166 b b (Lib.byteCells acc) s w h (by rw [Lib.byteCells_length]; exact hl) hb
 refine cW.mono ?_
 rintro e w' ⟨rfl, h1, h2, _⟩
 refine ⟨⟨_, rfl⟩, ?_, h2⟩
 unfold Bl
 rw [Lib.byteCells_append]
 exact .inr h1

theorem ind_repeat (d : Nat) : Lib.repeatL [32, 32] d = ind d := by
 unfold ind
 induction d with
 | zero => rfl
 | succ d ih => simp [Lib.repeatL, ih, Nat.mul_succ, List.replicate_succ]; try rfl

theorem rep_p (d : Nat) (hd : d ≤ 35184372088832) (w : World) : Calls Tryz.prog 77 #[.string (sv [32, 32]), .int .i64 d] w (StrP (ind d) w) := by
 have cR : Calls Tryz.prog 77 #[.string (sv [32, 32]), .int .i64 d] w _ := Any.strings_Repeat Tryz.l105 Tryz.x105 (sv [32, 32]) d w (by omega) (by rw [sv_size]; simp; omega)
 refine cR.mono ?_
 rintro e w' ⟨rfl, h⟩
 refine ⟨?_, fx_below h⟩
 rw [show (sv [32, 32]).data.toList = [32, 32] by simp [sv], ind_repeat]
 rfl

theorem str_p {b : Nat} {acc : Bs} {w : World} (h : Bl b acc w) (hb : b ≤ w.heap.size) : Calls Tryz.prog 34 #[.pointer (some ⟨b, 0, none⟩)] w (fun e w' => e = .returned (.string (sv acc)) ∧ Below b w w') := by
 have cS : Calls Tryz.prog 34 #[.pointer (some ⟨b, 0, none⟩)] w _ := Any.Builder_String_any_k Tryz.l169 Tryz.x169 b b acc w h hb
 refine cS.mono ?_
 rintro e w' ⟨rfl, _, h2, _⟩
 exact ⟨rfl, h2⟩

theorem pc_cells {B pb : Nat} {L : List Pc} {w : World} (hp : PrAt B w pb L) : ∃ p c, w.cell? ⟨pb, 0, none⟩ = some (.slice p L.length c) ∧ ∀ i (h : i < L.length), ∃ g, p = some ⟨g, 0, none⟩ ∧ w.cell? ⟨g, i, none⟩ = some (pcv L[i]) := by
 obtain ⟨v, hv, ho⟩ := hp.val
 have hc := cell_one hv
 rcases ho.2 with ⟨rfl, h0⟩ | ⟨g, cap, cur, rfl, hb, hg, hcc, _, hs, ht⟩
 ·obtain rfl := List.length_eq_zero_iff.1 h0
  exact ⟨none, 0, hc, fun i h => by simp at h⟩
 ·refine ⟨some ⟨g, 0, none⟩, cap, hc, fun i hi => ⟨g, rfl, ?_⟩⟩
  have h1 : (pcs L)[i]? = some (pcv L[i]) := by simp [pcs, List.getElem?_map, List.getElem?_eq_getElem hi]
  rw [← ht, List.getElem?_take] at h1
  split at h1
  ·simp only [World.cell?, hg]
   simpa using h1
  ·cases h1

/-- What holds ahead of piece j: d deep, e: nothing stands yet in the block; acc is written. -/
structure TxI (L : List Pc) (j d : Nat) (e : Bool) (acc : Bs) : Prop where
 text : acc ++ lay d e (L.drop j) = lay 0 false L
 ok : okd d (L.drop j)
 deep : d ≤ j

theorem TxI.len {L : List Pc} {j d : Nat} {e : Bool} {acc : Bs} (h : TxI L j d e acc) {s r : Bs} (hs : lay d e (L.drop j) = s ++ r) : acc.length + s.length ≤ (lay 0 false L).length := by
 have := congrArg List.length h.text
 rw [hs] at this
 simp at this
 omega
theorem TxI.word {L : List Pc} {j d : Nat} {e : Bool} {acc s : Bs} (h : TxI L j d e acc) (hlt : j < L.length) (hj : L[j] = .word s) : TxI L (j + 1) d e (acc ++ s) ∧ acc.length + s.length ≤ (lay 0 false L).length := by
 have hd := List.drop_eq_getElem_cons hlt
 rw [hj] at hd
 refine ⟨⟨?_, ?_, by have := h.deep; omega⟩, h.len (r := lay d e (L.drop (j + 1))) (by rw [hd]; rfl)⟩
 ·rw [← h.text, hd]; simp [lay]
 ·have := h.ok; rw [hd] at this; exact this
theorem TxI.opn {L : List Pc} {j d : Nat} {e : Bool} {acc : Bs} (h : TxI L j d e acc) (hlt : j < L.length) (hj : L[j] = .opn) : TxI L (j + 1) (d + 1) true (acc ++ [123]) ∧ acc.length + 1 ≤ (lay 0 false L).length := by
 have hd := List.drop_eq_getElem_cons hlt
 rw [hj] at hd
 refine ⟨⟨?_, ?_, by have := h.deep; omega⟩, h.len (s := [123]) (r := lay (d + 1) true (L.drop (j + 1))) (by rw [hd]; rfl)⟩
 ·rw [← h.text, hd]; simp [lay]
 ·have := h.ok; rw [hd] at this; exact this
theorem TxI.line {L : List Pc} {j d : Nat} {e : Bool} {acc : Bs} (h : TxI L j d e acc) (hlt : j < L.length) (hj : L[j] = .line) : TxI L (j + 1) d false (acc ++ (10 :: ind d)) ∧ acc.length + (10 :: ind d).length ≤ (lay 0 false L).length := by
 have hd := List.drop_eq_getElem_cons hlt
 rw [hj] at hd
 refine ⟨⟨?_, ?_, by have := h.deep; omega⟩, h.len (r := lay d false (L.drop (j + 1))) (by rw [hd]; rfl)⟩
 ·rw [← h.text, hd]; simp [lay]
 ·have := h.ok; rw [hd] at this; exact this
theorem TxI.shut {L : List Pc} {j d : Nat} {e : Bool} {acc : Bs} (h : TxI L j d e acc) (hlt : j < L.length) (hj : L[j] = .shut) : 1 ≤ d ∧ TxI L (j + 1) (d - 1) false (acc ++ ((if e then [] else 10 :: ind (d - 1)) ++ [125])) ∧ acc.length + ((if e then [] else 10 :: ind (d - 1)) ++ [125] : Bs).length ≤ (lay 0 false L).length := by
 have hd := List.drop_eq_getElem_cons hlt
 rw [hj] at hd
 have ho := h.ok
 rw [hd] at ho
 refine ⟨ho.1, ⟨?_, ho.2, by have := h.deep; omega⟩, h.len (r := lay (d - 1) false (L.drop (j + 1))) (by rw [hd]; simp [lay])⟩
 rw [← h.text, hd]; simp [lay]

theorem cat10 (s : Bs) : ((⟨#[10]⟩ : ByteArray) ++ sv s).data.toList = 10 :: s := by simp [sv]

theorem Bl.below {b : Nat} {acc : Bs} {w w' : World} (h : Bl b acc w) (hx : Fx w w') : Bl b acc w' := by
 unfold Bl Lib.IsBuilderF Lib.BuilderAtF at *
 have key : ∀ p, (b ≤ b ∧ ∃ v, w.heap[b]? = some (.cells #[p, v] 49 (0, 0)) ∧ w.ownsRowF b 5 1 v (Lib.byteCells acc).length (Lib.byteCells acc) ∧ v.ownBlock ≠ some b) → (b ≤ b ∧ ∃ v, w'.heap[b]? = some (.cells #[p, v] 49 (0, 0)) ∧ w'.ownsRowF b 5 1 v (Lib.byteCells acc).length (Lib.byteCells acc) ∧ v.ownBlock ≠ some b) := by
  rintro p ⟨h1, v, h2, h3, h4⟩
  refine ⟨h1, v, (hx.block b (Array.getElem?_eq_some_iff.1 h2).1 id).trans h2, ?_, h4⟩
  refine ⟨h3.1, ?_⟩
  rcases h3.2 with h5 | ⟨g, cap, cur, fr, r1, r2, r3, r4⟩
  ·exact .inl h5
  ·exact .inr ⟨g, cap, cur, fr, r1, r2, (hx.block g (Array.getElem?_eq_some_iff.1 r3).1 id).trans r3, r4⟩
 rcases h with h | h
 ·exact .inl (key _ h)
 ·exact .inr (key _ h)

theorem ta_77_77 (v : Value) (w : World) : (Instr.typeAssert (.iface 77 v) 76 77 true).run Tryz.prog w = .ok (.tuple #[v, .bool true]) w := by
 simp [Instr.typeAssert, run_underlying Tryz.underlying77]
theorem ta_79_77 (v : Value) (w : World) : (Instr.typeAssert (.iface 79 v) 76 77 true).run Tryz.prog w = .ok (.tuple #[.string ⟨#[]⟩, .bool false]) w := by
 simp [Instr.typeAssert, run_underlying Tryz.underlying77, Tryz.zeroValue77]
theorem ta_79_79 (v : Value) (w : World) : (Instr.typeAssert (.iface 79 v) 76 79 true).run Tryz.prog w = .ok (.tuple #[v, .bool true]) w := by
 simp [Instr.typeAssert, run_underlying Tryz.underlying79]
theorem ta_80_77 (v : Value) (w : World) : (Instr.typeAssert (.iface 80 v) 76 77 true).run Tryz.prog w = .ok (.tuple #[.string ⟨#[]⟩, .bool false]) w := by
 simp [Instr.typeAssert, run_underlying Tryz.underlying77, Tryz.zeroValue77]
theorem ta_80_79 (v : Value) (w : World) : (Instr.typeAssert (.iface 80 v) 76 79 true).run Tryz.prog w = .ok (.tuple #[.agg #[], .bool false]) w := by
 simp [Instr.typeAssert, run_underlying Tryz.underlying79, Tryz.zeroValue79]
theorem ta_80_80 (v : Value) (w : World) : (Instr.typeAssert (.iface 80 v) 76 80 true).run Tryz.prog w = .ok (.tuple #[v, .bool true]) w := by
 simp [Instr.typeAssert, run_underlying Tryz.underlying80]
theorem ta_82_77 (v : Value) (w : World) : (Instr.typeAssert (.iface 82 v) 76 77 true).run Tryz.prog w = .ok (.tuple #[.string ⟨#[]⟩, .bool false]) w := by
 simp [Instr.typeAssert, run_underlying Tryz.underlying77, Tryz.zeroValue77]
theorem ta_82_79 (v : Value) (w : World) : (Instr.typeAssert (.iface 82 v) 76 79 true).run Tryz.prog w = .ok (.tuple #[.agg #[], .bool false]) w := by
 simp [Instr.typeAssert, run_underlying Tryz.underlying79, Tryz.zeroValue79]
theorem ta_82_80 (v : Value) (w : World) : (Instr.typeAssert (.iface 82 v) 76 80 true).run Tryz.prog w = .ok (.tuple #[.agg #[], .bool false]) w := by
 simp [Instr.typeAssert, run_underlying Tryz.underlying80, Tryz.zeroValue80]
theorem ta_82_82 (v : Value) (w : World) : (Instr.typeAssert (.iface 82 v) 76 82 true).run Tryz.prog w = .ok (.tuple #[v, .bool true]) w := by
 simp [Instr.typeAssert, run_underlying Tryz.underlying82]

theorem bel0 {b : Nat} {w wr w1 : World} (h : Below b w wr) (hb : b ≤ w.heap.size) (x : Fx wr w1) : Below b w w1 := h.trans (x.below (Nat.le_trans hb h.size) fun _ _ h => h.elim)

theorem text_p {B pb : Nat} {L : List Pc} {w : World} (hp : PrAt B w pb L) (ho : okd 0 L) (hl : (lay 0 false L).length ≤ 70368744177664) (hL : L.length ≤ 4398046511104) : Calls Tryz.prog 33 #[.pointer (some ⟨pb, 0, none⟩)] w (StrP (lay 0 false L) w) := by
 obtain ⟨p, c, hcell, hpc⟩ := pc_cells hp
 have K := hid hpc
 have HL := hid hl
 have hll := hid hL
 have hb0 : Bl w.heap.size [] (w.alloc (.cells #[.pointer none, .slice none 0 0] 49)) := Lib.IsBuilderF.of (Lib.fresh_isBuilder 49 5 w)
 have hB0 := hid hb0
 have xa : Fx w (w.alloc (.cells #[.pointer none, .slice none 0 0] 49)) := Ext.alloc _ _ _
 have hbw0 : Below w.heap.size w (w.alloc (.cells #[.pointer none, .slice none 0 0] 49)) := xa.below (Nat.le_refl _) fun _ _ h => h.elim
 have q0 := xa.cellF hcell
 have hI0 : TxI L 0 0 false [] := ⟨rfl, ho, Nat.le_refl _⟩
 clear hcell hpc hp ho hl hL hb0
 have ta_77_77' := ta_77_77
 have ta_79_77' := ta_79_77
 have ta_79_79' := ta_79_79
 have ta_80_77' := ta_80_77
 have ta_80_79' := ta_80_79
 have ta_80_80' := ta_80_80
 have ta_82_77' := ta_82_77
 have ta_82_79' := ta_82_79
 have ta_82_80' := ta_82_80
 have ta_82_82' := ta_82_82
 go_enter Tryz.func33, Tryz.ntmps33
 go_wp2
 go_loopw [4, 5, 17] (fun deep emp i wr => ∃ (j d : Nat) (e : Bool) (acc : Bs), j ≤ L.length ∧ i = .int .i64 j ∧ deep = .int .i64 d ∧ emp = .bool e ∧ Hid (Bl w.heap.size acc wr) ∧ Hid (Below w.heap.size w wr) ∧ Hid (TxI L j d e acc)) (fun _ _ i _ => L.length - (intOf i).toNat)
 case atStart => exact ⟨0, 0, false, [], Nat.zero_le _, rfl, rfl, rfl, hB0, hid hbw0, hid hI0⟩
 case round =>
  obtain ⟨j, d, e, acc, hj, rfl, rfl, rfl, hB, hbw, hI⟩ := hrel
  have hj4 : (j : Int) ≤ 4398046511104 := by have := hll.out; omega
  have hd4 : (d : Int) ≤ 4398046511104 := by have := hI.out.deep; omega
  have hdn := hid (show d ≤ 35184372088832 by omega)
  clear hB0 hbw0 hI0 q0 xa
  by_cases hlt : j < L.length
  ·obtain ⟨g, rfl, hc⟩ := K.out j hlt
   have hc1 := (fx_below hbw.out).cellF hc
   clear hc
   cases hpj : L[j] with
   | word s =>
    rw [hpj] at hc1
    obtain ⟨h1, h2⟩ := hI.out.word hlt hpj
    have HL1 := hid (show acc.length + (sv s).size ≤ 140737488355328 by rw [sv_size]; have := HL.out; omega)
    have HL2 := HL1
    have h1 := hid h1
    simp only [pcv] at hc1
    clear h2 hpj
    go_wp2_with (go_at_call 32; refine (ws_b (b := w.heap.size) (hB.out.below (by first | exact Ext.refl _ _ | exact Ext.alloc _ _ _)) (by first | exact HL1.out | exact HL2.out) (Nat.le_trans (bel0 hbw.out (Nat.le_refl _) (by first | exact Ext.refl _ _ | exact Ext.alloc _ _ _)).size (Nat.le_refl _))).mono ?_; rintro e w32 ⟨⟨v32, rfl⟩, hB2, b32⟩; replace hB := hid hB2; replace hbw := hid ((bel0 hbw.out (Nat.le_refl _) (by first | exact Ext.refl _ _ | exact Ext.alloc _ _ _)).trans b32); clear hB2 b32)
    go_roundw
    case rel => exact ⟨j + 1, d, e, acc ++ s, by omega, by go_num, rfl, rfl, hid (by have := hB.out; rwa [show (sv s).data.toList = s by simp [sv]] at this), hbw, h1⟩
    case measure => simp [intOf]; omega
   | opn =>
    rw [hpj] at hc1
    obtain ⟨h1, h2⟩ := hI.out.opn hlt hpj
    have HL1 := hid (show acc.length + (⟨#[123]⟩ : ByteArray).size ≤ 140737488355328 by have := HL.out; simp [ByteArray.size]; omega)
    have HL2 := HL1
    have h1 := hid h1
    simp only [pcv] at hc1
    clear h2 hpj
    go_wp2_with (go_at_call 32; refine (ws_b (b := w.heap.size) (hB.out.below (by first | exact Ext.refl _ _ | exact Ext.alloc _ _ _)) (by first | exact HL1.out | exact HL2.out) (Nat.le_trans (bel0 hbw.out (Nat.le_refl _) (by first | exact Ext.refl _ _ | exact Ext.alloc _ _ _)).size (Nat.le_refl _))).mono ?_; rintro e w32 ⟨⟨v32, rfl⟩, hB2, b32⟩; replace hB := hid hB2; replace hbw := hid ((bel0 hbw.out (Nat.le_refl _) (by first | exact Ext.refl _ _ | exact Ext.alloc _ _ _)).trans b32); clear hB2 b32)
    go_roundw
    case rel => exact ⟨j + 1, d + 1, true, acc ++ [123], by omega, by go_num, by go_num, rfl, hid hB.out, hbw, h1⟩
    case measure => simp [intOf]; omega
   | line =>
    rw [hpj] at hc1
    obtain ⟨h1, h2⟩ := hI.out.line hlt hpj
    have e9 : ((⟨#[10]⟩ : ByteArray) ++ sv (ind d)).size = (10 :: ind d).length := by rw [← cat10 (ind d), Array.length_toList]; rfl
    have HL1 := hid (show acc.length + ((⟨#[10]⟩ : ByteArray) ++ sv (ind d)).size ≤ 140737488355328 by have := HL.out; rw [e9]; omega)
    clear e9
    have HL2 := HL1
    have h1 := hid h1
    have hsz : (sv (ind d)).size ≤ 140737488355328 := by rw [sv_size]; have := hdn.out; simp [ind]; omega
    simp only [pcv] at hc1
    clear h2 hpj
    go_wp2_with (first
     | (go_at_call 77; refine (rep_p d hdn.out _).mono ?_; rintro e w77 ⟨rfl, z_⟩; replace hB := hid (hB.out.below (Ext.of_eq (X := fun _ => False) (by first | exact Ext.refl _ _ | exact Ext.alloc _ _ _) z_)); replace hbw := hid (bel0 hbw.out (Nat.le_refl _) (Ext.of_eq (X := fun _ => False) (by first | exact Ext.refl _ _ | exact Ext.alloc _ _ _) z_)); clear z_)
     | (go_at_call 32; refine (ws_b (b := w.heap.size) (hB.out.below (by first | exact Ext.refl _ _ | exact Ext.alloc _ _ _)) (by first | exact HL1.out | exact HL2.out) (Nat.le_trans (bel0 hbw.out (Nat.le_refl _) (by first | exact Ext.refl _ _ | exact Ext.alloc _ _ _)).size (Nat.le_refl _))).mono ?_; rintro e w32 ⟨⟨v32, rfl⟩, hB2, b32⟩; replace hB := hid hB2; replace hbw := hid ((bel0 hbw.out (Nat.le_refl _) (by first | exact Ext.refl _ _ | exact Ext.alloc _ _ _)).trans b32); clear hB2 b32))
    go_roundw
    case rel => exact ⟨j + 1, d, false, acc ++ (10 :: ind d), by omega, by go_num, rfl, rfl, hid (by have := hB.out; rwa [cat10] at this), hbw, h1⟩
    case measure => simp [intOf]; omega
   | shut =>
    rw [hpj] at hc1
    obtain ⟨h0, h1, h2⟩ := hI.out.shut hlt hpj
    obtain ⟨d', rfl⟩ : ∃ d', d = d' + 1 := ⟨d - 1, by omega⟩
    simp only [Nat.add_sub_cancel] at h1 h2
    have hd5 : (d' : Int) ≤ 4398046511104 := by omega
    replace hdn := hid (show d' ≤ 35184372088832 by have := hdn.out; omega)
    have h1 := hid h1
    simp only [pcv] at hc1
    clear hpj h0 hd4
    have e9 : ((⟨#[10]⟩ : ByteArray) ++ sv (ind d')).size = (10 :: ind d').length := by rw [← cat10 (ind d'), Array.length_toList]; rfl
    cases e
    ·have HL1 := hid (show acc.length + ((⟨#[10]⟩ : ByteArray) ++ sv (ind d')).size ≤ 140737488355328 by have := HL.out; rw [e9]; simp at h2 ⊢; omega)
     have HL2 := hid (show (acc ++ ((⟨#[10]⟩ : ByteArray) ++ sv (ind d')).data.toList).length + (⟨#[125]⟩ : ByteArray).size ≤ 140737488355328 by have := HL.out; rw [cat10]; simp [ByteArray.size] at h2 ⊢; omega)
     clear h2 e9
     have hsz : (sv (ind d')).size ≤ 140737488355328 := by rw [sv_size]; have := hdn.out; simp [ind]; omega
     go_wp2_with (first
      | (go_at_call 77; refine (rep_p d' hdn.out _).mono ?_; rintro e w77 ⟨rfl, z_⟩; replace hB := hid (hB.out.below (Ext.of_eq (X := fun _ => False) (by first | exact Ext.refl _ _ | exact Ext.alloc _ _ _) z_)); replace hbw := hid (bel0 hbw.out (Nat.le_refl _) (Ext.of_eq (X := fun _ => False) (by first | exact Ext.refl _ _ | exact Ext.alloc _ _ _) z_)); clear z_)
      | (go_at_call 32; refine (ws_b (b := w.heap.size) (hB.out.below (by first | exact Ext.refl _ _ | exact Ext.alloc _ _ _)) (by first | exact HL1.out | exact HL2.out) (Nat.le_trans (bel0 hbw.out (Nat.le_refl _) (by first | exact Ext.refl _ _ | exact Ext.alloc _ _ _)).size (Nat.le_refl _))).mono ?_; rintro e w32 ⟨⟨v32, rfl⟩, hB2, b32⟩; replace hB := hid hB2; replace hbw := hid ((bel0 hbw.out (Nat.le_refl _) (by first | exact Ext.refl _ _ | exact Ext.alloc _ _ _)).trans b32); clear hB2 b32))
     go_roundw
     case rel => exact ⟨j + 1, d', false, acc ++ ((10 :: ind d') ++ [125]), by omega, by go_num, by go_num, rfl, hid (by have := hB.out; rw [cat10, List.append_assoc] at this; exact this), hbw, h1⟩
     case measure => simp [intOf]; omega
    ·have HL1 := hid (show acc.length + (⟨#[125]⟩ : ByteArray).size ≤ 140737488355328 by have := HL.out; simp [ByteArray.size] at h2 ⊢; omega)
     have HL2 := HL1
     clear h2 e9
     go_wp2_with (go_at_call 32; refine (ws_b (b := w.heap.size) (hB.out.below (by first | exact Ext.refl _ _ | exact Ext.alloc _ _ _)) (by first | exact HL1.out | exact HL2.out) (Nat.le_trans (bel0 hbw.out (Nat.le_refl _) (by first | exact Ext.refl _ _ | exact Ext.alloc _ _ _)).size (Nat.le_refl _))).mono ?_; rintro e w32 ⟨⟨v32, rfl⟩, hB2, b32⟩; replace hB := hid hB2; replace hbw := hid ((bel0 hbw.out (Nat.le_refl _) (by first | exact Ext.refl _ _ | exact Ext.alloc _ _ _)).trans b32); clear hB2 b32)
     go_roundw
     case rel => exact ⟨j + 1, d', false, acc ++ ([] ++ [125]), by omega, by go_num, by go_num, rfl, hid hB.out, hbw, h1⟩
     case measure => simp [intOf]; omega
  ·have hfin := hid (show acc = lay 0 false L from by have := hI.out.text; rw [List.drop_of_length_le (by omega)] at this; simpa [lay] using this)
   go_wp2_with (go_at_call 34; refine (str_p (b := w.heap.size) hB.out hbw.out.size).mono ?_; rintro e w34 ⟨rfl, b34⟩)
   go_ret
   exact ⟨by rw [hfin.out]; rfl, fx_below (hbw.out.trans b34)⟩

/-- What is written for a rune. -/
def escR (v : Nat) : Bs :=
 if v = 34 ∨ v = 92 then 92 :: Lib.encodeRune v else if v = 10 then [92, 110] else if v = 9 then [92, 116]
 else if v < 32 ∨ v = 127 then [92, 117, 123] ++ hex v ++ [125] else Lib.encodeRune v

theorem high_bytes {v : Int} (h : 128 ≤ v) : ∀ c ∈ Lib.encodeRune v, 128 ≤ c.toNat := by
 intro c hc
 unfold Lib.encodeRune at hc
 rw [List.mem_map] at hc
 obtain ⟨x, hx, rfl⟩ := hc
 have hb := Lib.encodeRuneZ_byte v x hx
 have h2 : 128 ≤ x := by
  unfold Lib.encodeRuneZ at hx
  repeat' split at hx
  all_goals simp at hx
  all_goals omega
 obtain ⟨n, rfl⟩ : ∃ n : Nat, x = n := ⟨x.toNat, by omega⟩
 simp
 omega

theorem esc_high {c : UInt8} (h : 128 ≤ c.toNat) : escB c = [c] := by
 unfold escB
 have e1 : ¬ (c = 34 ∨ c = 92) := by rintro (rfl | rfl) <;> simp at h
 have e2 : ¬ c = 10 := by rintro rfl; simp at h
 have e3 : ¬ c = 9 := by rintro rfl; simp at h
 have e4 : ¬ (c.toNat < 32 ∨ c = 127) := by rintro (h5 | rfl); omega; simp at h
 rw [if_neg e1, if_neg e2, if_neg e3, if_neg e4]

theorem esc_highs : ∀ l : Bs, (∀ c ∈ l, 128 ≤ c.toNat) → l.flatMap escB = l := by
 intro l h
 induction l with
 | nil => rfl
 | cons c r ih => rw [List.flatMap_cons, esc_high (h c (List.mem_cons_self ..)), ih (fun d hd => h d (List.mem_cons_of_mem _ hd))]; rfl

theorem esc_low : ∀ c : UInt8, c.toNat < 128 → escB c = escR c.toNat := by
 have key : ∀ m : Fin 128, escB (UInt8.ofNat m.val) = escR m.val := by decide
 intro c h
 have := key ⟨c.toNat, h⟩
 simpa using this

theorem quote_round {s : Bs} {pos : Nat} (hlt : pos < s.length) (hal : valid (s.drop pos) = true) :
  ∃ V M : Nat, Utf8.decode (sv s) pos = (V, M) ∧ 1 ≤ M ∧ pos + M ≤ s.length ∧ valid (s.drop (pos + M)) = true ∧ V ≤ 1114111 ∧ (V = 65533 → startsB [239, 191, 189] (s.drop pos) = true) ∧
   escR V ++ (s.drop (pos + M)).flatMap escB = (s.drop pos).flatMap escB ∧ (escR V).length ≤ 6 * M := by
 have hd := decode_rune s pos hlt
 obtain ⟨c, r, hcr⟩ : ∃ c r, s.drop pos = c :: r := by
  cases hq : s.drop pos with
  | nil => have := congrArg List.length hq; simp at this; omega
  | cons c r => exact ⟨c, r, rfl⟩
 have hlen := congrArg List.length hcr
 simp only [List.length_drop, lC] at hlen
 have hdl := decode_rune (c :: r) 0 (by simp)
 rw [List.drop_zero] at hdl
 rw [hcr] at hd hal
 unfold valid at hal
 rw [runes_cons, List.all_cons, Bool.and_eq_true] at hal
 have hp := rune_pos c r
 have h0 : 0 ≤ (rune (c :: r)).2 := by simpa using hal.1
 rw [if_neg (by omega)] at hd hdl
 have hdL : Lib.decodeL (c :: r) = ((rune (c :: r)).2.toNat, (rune (c :: r)).1) := hdl
 have henc := Lib.encode_decode (c :: r) (by simp) (by
  rw [hdL]; rintro ⟨h1, h2⟩
  have := hp.2.2.2.2.2 (by simp at h1; omega)
  simp at h2; omega)
 rw [hdL] at henc
 simp only [] at henc
 refine ⟨_, _, hd, hp.1, by omega, ?_, by omega, ?_, ?_, ?_⟩
 ·rw [← List.drop_drop, hcr]; exact hal.2
 ·intro hV
  rw [hV] at henc
  rw [hcr]
  have e3 : Lib.encodeRune ((65533 : Nat) : Int) = [239, 191, 189] := by decide
  rw [e3] at henc
  have hsp := List.take_append_drop (rune (c :: r)).1 (c :: r)
  rw [← henc] at hsp
  rw [← hsp]
  rfl
 ·rw [← List.drop_drop, hcr]
  conv => rhs; rw [← List.take_append_drop (rune (c :: r)).1 (c :: r), List.flatMap_append]
  congr 1
  rw [← henc]
  by_cases hlow : (rune (c :: r)).2 < 128
  ·have hc := rune_low h0 hlow
   rw [hc]
   have hc128 : c.toNat < 128 := by omega
   have e1 : Lib.encodeRune ((((c.toNat : Int)).toNat : Nat) : Int) = [c] := by
    unfold Lib.encodeRune
    rw [Lib.encodeRuneZ_one (by omega) (by simp; omega)]
    simp
   rw [e1]
   simp [esc_low c hc128]
  ·rw [esc_highs _ (high_bytes (by omega))]
   unfold escR
   rw [if_neg (by omega), if_neg (by omega), if_neg (by omega), if_neg (by omega)]
 ·have hcl := Lib.runeCells_le ((rune (c :: r)).2.toNat : Int)
  rw [Lib.runeCells_length] at hcl
  have hM := hp.1
  clear hp hdL henc hdl hd hal
  generalize (rune (c :: r)).2.toNat = V at hcl ⊢
  generalize (rune (c :: r)).1 = M at hM ⊢
  unfold escR hex
  repeat' split
  all_goals simp
  all_goals omega


def WkP (b : Nat) (acc s : Bs) (w : World) (e : Ending) (w' : World) : Prop := (∃ v, e = .returned v) ∧ Bl b (acc ++ s) w' ∧ Below b w w' ∧ Lib.OthersKept 5 (some b) w w'

theorem wk_s {b : Nat} {acc : Bs} {s : ByteArray} {w : World} (h : Bl b acc w) (hl : acc.length + s.size ≤ 140737488355328) (hb : b ≤ w.heap.size) : Calls Tryz.prog 32 #[.pointer (some ⟨b, 0, none⟩), .string s] w (WkP b acc s.data.toList w) := by
 have cW : Calls Tryz.prog 32 #[.pointer (some ⟨b, 0, none⟩), .string s] w _ := Any.Builder_WriteString_k Tryz.l166 Tryz.x166 b b (Lib.byteCells acc) s w h (by rw [Lib.byteCells_length]; exact hl) hb
 refine cW.mono ?_
 rintro e w' ⟨rfl, h1, h2, h3⟩
 refine ⟨⟨_, rfl⟩, ?_, h2, h3⟩
 unfold Bl
 rw [Lib.byteCells_append]
 exact .inr h1
theorem wk_b (c : UInt8) {n : Int} (hn : n = c.toNat) {b : Nat} {acc : Bs} {w : World} (h : Bl b acc w) (hl : acc.length + 1 ≤ 140737488355328) (hb : b ≤ w.heap.size) : Calls Tryz.prog 179 #[.pointer (some ⟨b, 0, none⟩), .int .u8 n] w (WkP b acc [c] w) := by
 subst hn
 have cW : Calls Tryz.prog 179 #[.pointer (some ⟨b, 0, none⟩), .int .u8 c.toNat] w _ := Any.Builder_WriteByte_k Tryz.l167 Tryz.x167 b b (Lib.byteCells acc) c.toNat w h (by rw [Lib.byteCells_length]; exact hl) hb
 refine cW.mono ?_
 rintro e w' ⟨rfl, h1, h2, h3⟩
 refine ⟨⟨_, rfl⟩, ?_, h2, h3⟩
 unfold Bl
 rw [Lib.byteCells_append]
 exact .inr h1
theorem wk_r (v : Nat) (hv : v ≤ 1114111) {b : Nat} {acc : Bs} {w : World} (h : Bl b acc w) (hl : acc.length + 4 ≤ 140737488355328) (hb : b ≤ w.heap.size) : Calls Tryz.prog 181 #[.pointer (some ⟨b, 0, none⟩), .int .i32 v] w (WkP b acc (Lib.encodeRune v) w) := by
 have cW : Calls Tryz.prog 181 #[.pointer (some ⟨b, 0, none⟩), .int .i32 v] w _ := Any.Builder_WriteRune_k Tryz.l168 Tryz.x168 b b (Lib.byteCells acc) v (by omega) (by omega) w h (by rw [Lib.byteCells_length]; exact hl) hb
 refine cW.mono ?_
 rintro e w' ⟨rfl, h1, h2, h3⟩
 refine ⟨⟨_, rfl⟩, ?_, h2, h3⟩
 unfold Bl
 rw [Lib.byteCells_append, Lib.byteCells_encodeRune]
 exact .inr h1

/-- How far the round has come. -/
structure QI (s : Bs) (b it : Nat) (w : World) (pos : Nat) (acc : Bs) (wr : World) : Prop where
 bl : Bl b acc wr
 iter : wr.heap[it]? = some (.stringIter (sv s) pos)
 bel : Below b w wr
theorem QI.wk {s : Bs} {b it : Nat} {w : World} {pos : Nat} {acc t : Bs} {wr : World} (h : QI s b it w pos acc wr) (hne : it ≠ b) {e : Ending} {w' : World} (k : WkP b acc t wr e w') : (∃ v, e = .returned v) ∧ QI s b it w pos (acc ++ t) w' :=
 ⟨k.1, k.2.1, k.2.2.2.iter h.iter hne, h.bel.trans k.2.2.1⟩
theorem QI.fx {s : Bs} {b it : Nat} {w : World} {pos : Nat} {acc : Bs} {wr : World} (h : QI s b it w pos acc wr) (hb : b ≤ w.heap.size) {w' : World} (k : Fx wr w') : QI s b it w pos acc w' :=
 ⟨h.bl.below k, (k.block it (Array.getElem?_eq_some_iff.1 h.iter).1 id).trans h.iter, bel0 h.bel hb k⟩
theorem QI.next {s : Bs} {b it : Nat} {w : World} {pos : Nat} {acc : Bs} {wr : World} (h : QI s b it w pos acc wr) (hit : b < it) (p : Nat) : QI s b it w p acc (wr.iterAt it (sv s) p) :=
 ⟨by have := Lib.IsBuilderF.iterAt h.bl h.iter p; exact this, Lib.iterAt_heap wr it (sv s) pos p h.iter, Lib.below_iterAt h.bel (by omega) (sv s) p⟩
theorem QI.size {s : Bs} {b it : Nat} {w : World} {pos : Nat} {acc : Bs} {wr : World} (h : QI s b it w pos acc wr) (hb : b ≤ w.heap.size) : b ≤ wr.heap.size := Nat.le_trans hb h.bel.size

theorem Tabs.bel {B : Nat} {w w' : World} (h : Tabs B w) (hb : Below w.heap.size w w') : Tabs B w' := h.keepF (fx_below hb)

theorem quote_p (t : Bs) (hv : valid t = true) (hl : t.length ≤ 4398046511104) (B : Nat) (w : World) (hT : Tabs B w) : Calls Tryz.prog 133 #[.string (sv t)] w (StrP (quote t) w) := by
 have hb0 : Bl w.heap.size [] (w.alloc (.cells #[.pointer none, .slice none 0 0] 49)) := Lib.IsBuilderF.of (Lib.fresh_isBuilder 49 5 w)
 have xa : Fx w (w.alloc (.cells #[.pointer none, .slice none 0 0] 49)) := Ext.alloc _ _ _
 have hbw0 : Below w.heap.size w (w.alloc (.cells #[.pointer none, .slice none 0 0] 49)) := xa.below (Nat.le_refl _) fun _ _ h => h.elim
 have HT := hid hT
 have HV := hid hv
 have hB0 := hid hb0
 have hW0 := hid hbw0
 clear hb0 hbw0 hT hv xa
 go_enter Tryz.func133, Tryz.ntmps133
 go_wp2_with (go_at_call 179; refine (wk_b 34 rfl (b := w.heap.size) hB0.out (by simp) hW0.out.size).mono ?_; rintro e w1 ⟨⟨v1, rfl⟩, h1, h2, h3⟩; replace h1 := hid h1; replace h2 := hid (hW0.out.trans h2); clear h3)
 go_loopw [] (fun wr => ∃ (pos : Nat) (acc : Bs), pos ≤ t.length ∧ Hid (QI t w.heap.size w1.heap.size w pos acc wr) ∧ Hid (valid (t.drop pos) = true) ∧ Hid (acc ++ (t.drop pos).flatMap escB = 34 :: t.flatMap escB) ∧ acc.length ≤ 1 + 6 * pos) (fun wr => t.length - wr.iterPos w1.heap.size)
 case atStart =>
  refine ⟨0, [34], Nat.zero_le _, hid ⟨?_, by simpa using World.iter_heap w1 (sv t) 0, ?_⟩, HV, hid rfl, by simp⟩
  ·exact h1.out.below (Ext.alloc _ _ _)
  ·exact bel0 h2.out (Nat.le_refl _) (Ext.alloc _ _ _)
 case round =>
  obtain ⟨pos, acc, hp, hQ, hval, hacc, hal⟩ := hrel
  have hit0 : w.heap.size < w1.heap.size := by
   have hq := h1.out
   unfold Bl Lib.IsBuilderF Lib.BuilderAtF at hq
   rcases hq with ⟨_, v, hv, _⟩ | ⟨_, v, hv, _⟩ <;> exact (Array.getElem?_eq_some_iff.1 hv).1
  have hne : w1.heap.size ≠ w.heap.size := by omega
  clear hB0 hW0 h1 h2
  by_cases hlt : pos < t.length
  ·have hlt' : pos < (sv t).size := by rw [sv_size]; exact hlt
   have hit := hQ.out.iter
   have hnx : ∀ ty, (Instr.next (.pointer (some ⟨w1.heap.size, 0, none⟩)) true ty).run Tryz.prog wr = _ := fun ty => Lib.run_next_any_at wr w1.heap.size (sv t) pos ty hit hlt'
   obtain ⟨V, M, hd, hM, hM2, hal2, hVm, hrep, hesc, hlen⟩ := quote_round hlt hval.out
   rw [hd] at hnx
   have hpos : wr.iterPos w1.heap.size = pos := by simp only [World.iterPos, hit]
   replace hQ := hid (hQ.out.next hit0 (pos + M))
   have hp4 : (pos : Int) ≤ 4398046511104 := by omega
   replace hal2 := hid hal2
   replace hesc := hid (show (acc ++ escR V) ++ (t.drop (pos + M)).flatMap escB = 34 :: t.flatMap escB by rw [List.append_assoc, hesc]; exact hacc.out)
   have hrep2 := hid hrep
   clear hd hval hacc hrep hit
   have hrd := sv_drop
   by_cases c1 : V = 34 ∨ V = 92
   ·have e1 : escR V = [92] ++ Lib.encodeRune V := by unfold escR; rw [if_pos c1]; rfl
    rw [e1] at hesc hlen
    rw [← List.append_assoc] at hesc
    clear e1
    rcases c1 with rfl | rfl
    all_goals
     go_wp2_with (first
      | (go_at_call 179; refine (wk_b 92 rfl hQ.out.bl (by omega) (hQ.out.size (Nat.le_refl _))).mono ?_; rintro e w3 hk; obtain ⟨⟨v3, rfl⟩, hQ2⟩ := hQ.out.wk hne hk; replace hQ := hid hQ2; clear hQ2 hk)
      | (go_at_call 181; refine (wk_r _ (by decide) hQ.out.bl (by first | omega | (simp; omega)) (hQ.out.size (Nat.le_refl _))).mono ?_; rintro e w2 hk; obtain ⟨⟨v2, rfl⟩, hQ2⟩ := hQ.out.wk hne hk; replace hQ := hid hQ2; clear hQ2 hk))
     go_roundw
     case rel => exact ⟨pos + M, (acc ++ [92]) ++ Lib.encodeRune _, by omega, hQ, hal2, hesc, by simp at hlen ⊢; omega⟩
     case measure => rw [hpos]; simp only [World.iterPos, hQ.out.iter]; omega

   by_cases c2 : V = 10
   ·subst c2
    go_wp2_with (go_at_call 32; refine (wk_s hQ.out.bl (by simp [ByteArray.size]; omega) (hQ.out.size (Nat.le_refl _))).mono ?_; rintro e w2 hk; obtain ⟨⟨v2, rfl⟩, hQ2⟩ := hQ.out.wk hne hk; replace hQ := hid hQ2; clear hQ2 hk)
    go_roundw
    case rel => exact ⟨pos + M, acc ++ escR 10, by omega, hQ, hal2, hesc, by simp at hlen ⊢; omega⟩
    case measure => rw [hpos]; simp only [World.iterPos, hQ.out.iter]; omega

   by_cases c3 : V = 9
   ·subst c3
    go_wp2_with (go_at_call 32; refine (wk_s hQ.out.bl (by simp [ByteArray.size]; omega) (hQ.out.size (Nat.le_refl _))).mono ?_; rintro e w2 hk; obtain ⟨⟨v2, rfl⟩, hQ2⟩ := hQ.out.wk hne hk; replace hQ := hid hQ2; clear hQ2 hk)
    go_roundw
    case rel => exact ⟨pos + M, acc ++ escR 9, by omega, hQ, hal2, hesc, by simp at hlen ⊢; omega⟩
    case measure => rw [hpos]; simp only [World.iterPos, hQ.out.iter]; omega

   by_cases c4 : V < 32 ∨ V = 127
   ·have e1 : escR V = [92, 117, 123] ++ hex V ++ [125] := by unfold escR; rw [if_neg c1, if_neg c2, if_neg c3, if_pos c4]
    have hV128 : V < 128 := by omega
    have hh : (hex V).length ≤ 2 := by unfold hex; split <;> simp
    have hhs : (sv (hex V)).size ≤ 2 := by rw [sv_size]; exact hh
    have hcat : (((⟨#[92, 117, 123]⟩ : ByteArray) ++ sv (hex V)) ++ (⟨#[125]⟩ : ByteArray)).data.toList = escR V := by rw [e1]; simp [sv]
    have hcs : (((⟨#[92, 117, 123]⟩ : ByteArray) ++ sv (hex V)) ++ (⟨#[125]⟩ : ByteArray)).size ≤ 10 := by
     have := congrArg List.length hcat
     rw [Array.length_toList] at this
     have h9 : (escR V).length ≤ 10 := by rw [e1]; simp; omega
     show (((⟨#[92, 117, 123]⟩ : ByteArray) ++ sv (hex V)) ++ (⟨#[125]⟩ : ByteArray)).data.size ≤ 10
     omega
    replace hcat := hid hcat
    replace hcs := hid hcs
    have d34 : ¬ (V : Int) = 34 := by omega
    have g34 : ((V : Int) == 34) = false := by simpa using d34
    have d92 : ¬ (V : Int) = 92 := by omega
    have g92 : ((V : Int) == 92) = false := by simpa using d92
    have d10 : ¬ (V : Int) = 10 := by omega
    have g10 : ((V : Int) == 10) = false := by simpa using d10
    have d9 : ¬ (V : Int) = 9 := by omega
    have g9 : ((V : Int) == 9) = false := by simpa using d9
    have d65533 : ¬ (V : Int) = 65533 := by omega
    have g65533 : ((V : Int) == 65533) = false := by simpa using d65533
    clear c1 c2 c3 e1 hh
    by_cases c6 : V < 32
    ·have d5 : (V : Int) < 32 := by omega
     clear c4
     go_wp2_with (first
      | (go_at_call 180; refine (fmt_p V hV128 _ B (HT.out.bel hQ.out.bel)).mono ?_; rintro e w4 ⟨rfl, z_⟩; replace hQ := hid (hQ.out.fx (Nat.le_refl _) z_); clear z_)
      | (go_at_call 32; refine (wk_s hQ.out.bl (by have := hcs.out; omega) (hQ.out.size (Nat.le_refl _))).mono ?_; rintro e w2 hk; obtain ⟨⟨v2, rfl⟩, hQ2⟩ := hQ.out.wk hne hk; replace hQ := hid hQ2; clear hQ2 hk))
     go_roundw
     case rel => exact ⟨pos + M, acc ++ escR V, by omega, hid (by have := hQ.out; rwa [hcat.out] at this), hal2, hesc, by simp at hlen ⊢; omega⟩
     case measure => rw [hpos]; simp only [World.iterPos, hQ.out.iter]; omega

    ·obtain rfl : V = 127 := by omega
     clear c4
     go_wp2_with (first
      | (go_at_call 180; refine (fmt_p 127 (by decide) _ B (HT.out.bel hQ.out.bel)).mono ?_; rintro e w4 ⟨rfl, z_⟩; replace hQ := hid (hQ.out.fx (Nat.le_refl _) z_); clear z_)
      | (go_at_call 32; refine (wk_s hQ.out.bl (by have := hcs.out; omega) (hQ.out.size (Nat.le_refl _))).mono ?_; rintro e w2 hk; obtain ⟨⟨v2, rfl⟩, hQ2⟩ := hQ.out.wk hne hk; replace hQ := hid hQ2; clear hQ2 hk))
     go_roundw
     case rel => exact ⟨pos + M, acc ++ escR 127, by omega, hid (by have := hQ.out; rwa [hcat.out] at this), hal2, hesc, by simp at hlen ⊢; omega⟩
     case measure => rw [hpos]; simp only [World.iterPos, hQ.out.iter]; omega

   ·have e1 : escR V = Lib.encodeRune V := by unfold escR; rw [if_neg c1, if_neg c2, if_neg c3, if_neg c4]
    rw [e1] at hesc hlen
    have d34 : ¬ (V : Int) = 34 := by omega
    have g34 : ((V : Int) == 34) = false := by simpa using d34
    have d92 : ¬ (V : Int) = 92 := by omega
    have g92 : ((V : Int) == 92) = false := by simpa using d92
    have d10 : ¬ (V : Int) = 10 := by omega
    have g10 : ((V : Int) == 10) = false := by simpa using d10
    have d9 : ¬ (V : Int) = 9 := by omega
    have g9 : ((V : Int) == 9) = false := by simpa using d9
    have d127 : ¬ (V : Int) = 127 := by omega
    have g127 : ((V : Int) == 127) = false := by simpa using d127
    have d5 : ¬ (V : Int) < 32 := by omega
    clear c1 c2 c3 c4 e1
    by_cases c5 : V = 65533
    ·have hpre := hrep2.out c5
     subst c5
     go_wp2_with (first
      | (go_at_call 146; refine (prefix_p _ [239, 191, 189] _).mono ?_; rw [hpre]; rintro e w2 ⟨rfl, rfl⟩)
      | (go_at_call 181; refine (wk_r _ (by decide) hQ.out.bl (by first | omega | (simp; omega)) (hQ.out.size (Nat.le_refl _))).mono ?_; rintro e w2 hk; obtain ⟨⟨v2, rfl⟩, hQ2⟩ := hQ.out.wk hne hk; replace hQ := hid hQ2; clear hQ2 hk))
     go_roundw
     case rel => exact ⟨pos + M, acc ++ Lib.encodeRune _, by omega, hQ, hal2, hesc, by simp at hlen ⊢; omega⟩
     case measure => rw [hpos]; simp only [World.iterPos, hQ.out.iter]; omega

    ·have d65 : ¬ (V : Int) = 65533 := by omega
     have g65 : ((V : Int) == 65533) = false := by simpa using d65
     go_wp2_with (go_at_call 181; refine (wk_r V hVm hQ.out.bl (by first | omega | (simp; omega)) (hQ.out.size (Nat.le_refl _))).mono ?_; rintro e w2 hk; obtain ⟨⟨v2, rfl⟩, hQ2⟩ := hQ.out.wk hne hk; replace hQ := hid hQ2; clear hQ2 hk)
     go_roundw
     case rel => exact ⟨pos + M, acc ++ Lib.encodeRune V, by omega, hQ, hal2, hesc, by simp at hlen ⊢; omega⟩
     case measure => rw [hpos]; simp only [World.iterPos, hQ.out.iter]; omega

  ·have hnx : ∀ ty, (Instr.next (.pointer (some ⟨w1.heap.size, 0, none⟩)) true ty).run Tryz.prog wr = _ := fun ty => Lib.run_next_end_at wr w1.heap.size (sv t) pos ty hQ.out.iter (by rw [sv_size]; exact hlt)
   have hfin := hid (show acc = 34 :: t.flatMap escB by have := hacc.out; rw [List.drop_of_length_le (by omega)] at this; simpa using this)
   go_wp2_with (first
    | (go_at_call 179; refine (wk_b 34 rfl hQ.out.bl (by omega) (hQ.out.size (Nat.le_refl _))).mono ?_; rintro e w3 hk; obtain ⟨⟨v3, rfl⟩, hQ2⟩ := hQ.out.wk hne hk; replace hQ := hid hQ2; clear hQ2 hk)
    | (go_at_call 34; refine (str_p hQ.out.bl (hQ.out.size (Nat.le_refl _))).mono ?_; rintro e w4 ⟨rfl, b4⟩))
   go_ret
   exact ⟨by rw [hfin.out]; rfl, fx_below (hQ.out.bel.trans b4)⟩

end Go.Proofs.YtpmlmpibpmoclaaGreatDoor
