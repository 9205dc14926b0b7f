/-
  Texts of the library,one behind the other. Over any program; no condition.
-/
import Derived.Shelf.Strings.Prefix
import Derived.Shelf.Strings.Search2
import Derived.Shelf.Strconv.Itoa4
import Derived.Shelf.Strconv.ParseIntPublic10
import Derived.Test.YtlimahhonfckdaaGreatDoorProg
import Derived.Lib.ParseIntBTie
import Derived.Test.YtlimahhonfckdaaGreatDoorRuA
import Derived.Test.YtlimahhonfckdaaGreatDoorPkT
import Derived.Test.YtlimahhonfckdaaGreatDoorRuC
import Derived.Test.YtlimahhonfckdaaGreatDoorRuE
namespace Go.Proofs
set_option linter.unusedSimpArgs false
set_option linter.unusedVariables false
open Go.Shelf
def Tryz.laysC174_ren:Go.Shelf.Ren:=⟨fun | 174=>123 | 247=>131 | 245=>132 | 287=>140 | 279=>141 | 280=>142 | 281=>143 | 282=>144 | 321=>153 | 322=>154 | 316=>155 | 171=>157 | 205=>156 | 243=>163 | 246=>133 | 283=>145 | 284=>146 | 285=>147 | 286=>148 | 129=>159 | 317=>158 | 318=>160 | 319=>161 | 320=>162 | 337=>164 | 338=>165 | n=>n,fun | 9=>9 | 3=>3 | 2=>2 | 75=>153 | 85=>154 | 4=>4 | 167=>167 | 5=>5 | 53=>168 | 175=>169 | 46=>165 | 168=>171 | 37=>178 | 0=>0 | 210=>189 | 21=>21 | 127=>195 | 145=>198 | 143=>196 | 171=>175 | 173=>179 | 212=>192 | 51=>182 | 20=>20 | 213=>193 | 232=>200 | 233=>201 | 80=>202 | n=>n,fun | 15=>1 | 16=>2 | 17=>3 | 18=>4 | 19=>5 | n=>n⟩
theorem Tryz.laysC174:Go.Proofs.LaysC.n174 Tryz.prog Tryz.laysC174_ren:={
  mixed:=by kernel_rfl
  f129:=Tryz.func159.trans (congrArg some (by kernel_rfl))
  f171:=Tryz.func157.trans (congrArg some (by kernel_rfl))
  f174:=Tryz.func123.trans (congrArg some (by kernel_rfl))
  f205:=Tryz.func156.trans (congrArg some (by kernel_rfl))
  f243:=Tryz.func163.trans (congrArg some (by kernel_rfl))
  f245:=Tryz.func132.trans (congrArg some (by kernel_rfl))
  f246:=Tryz.func133.trans (congrArg some (by kernel_rfl))
  f247:=Tryz.func131.trans (congrArg some (by kernel_rfl))
  f279:=Tryz.func141.trans (congrArg some (by kernel_rfl))
  f280:=Tryz.func142.trans (congrArg some (by kernel_rfl))
  f281:=Tryz.func143.trans (congrArg some (by kernel_rfl))
  f282:=Tryz.func144.trans (congrArg some (by kernel_rfl))
  f283:=Tryz.func145.trans (congrArg some (by kernel_rfl))
  f284:=Tryz.func146.trans (congrArg some (by kernel_rfl))
  f285:=Tryz.func147.trans (congrArg some (by kernel_rfl))
  f286:=Tryz.func148.trans (congrArg some (by kernel_rfl))
  f287:=Tryz.func140.trans (congrArg some (by kernel_rfl))
  f316:=Tryz.func155.trans (congrArg some (by kernel_rfl))
  f317:=Tryz.func158.trans (congrArg some (by kernel_rfl))
  f318:=Tryz.func160.trans (congrArg some (by kernel_rfl))
  f319:=Tryz.func161.trans (congrArg some (by kernel_rfl))
  f320:=Tryz.func162.trans (congrArg some (by kernel_rfl))
  f321:=Tryz.func153.trans (congrArg some (by kernel_rfl))
  f322:=Tryz.func154.trans (congrArg some (by kernel_rfl))
  f337:=Tryz.func164.trans (congrArg some (by kernel_rfl))
  f338:=Tryz.func165.trans (congrArg some (by kernel_rfl))
  t0:=Tryz.underlying0
  a0:=Tryz.isAgg0
  z0:=Tryz.sizeOf0
  v0:=Tryz.zeroValue0
  t2:=Tryz.underlying2
  a2:=Tryz.isAgg2
  z2:=Tryz.sizeOf2
  v2:=Tryz.zeroValue2
  t3:=Tryz.underlying3
  a3:=Tryz.isAgg3
  z3:=Tryz.sizeOf3
  v3:=Tryz.zeroValue3
  t4:=Tryz.underlying4
  a4:=Tryz.isAgg4
  z4:=Tryz.sizeOf4
  v4:=Tryz.zeroValue4
  t5:=Tryz.underlying5
  a5:=Tryz.isAgg5
  z5:=Tryz.sizeOf5
  v5:=Tryz.zeroValue5
  t9:=Tryz.underlying9
  a9:=Tryz.isAgg9
  z9:=Tryz.sizeOf9
  v9:=Tryz.zeroValue9
  t20:=Tryz.underlying20
  a20:=Tryz.isAgg20
  z20:=Tryz.sizeOf20
  v20:=Tryz.zeroValue20
  t21:=Tryz.underlying21
  a21:=Tryz.isAgg21
  z21:=Tryz.sizeOf21
  v21:=Tryz.zeroValue21
  t37:=Tryz.underlying178
  a37:=Tryz.isAgg178
  z37:=Tryz.sizeOf178
  v37:=Tryz.zeroValue178
  t46:=Tryz.underlying165
  a46:=Tryz.isAgg165
  z46:=Tryz.sizeOf165
  v46:=Tryz.zeroValue165
  t51:=Tryz.underlying182
  a51:=Tryz.isAgg182
  z51:=Tryz.sizeOf182
  v51:=Tryz.zeroValue182
  t53:=Tryz.underlying168
  a53:=Tryz.isAgg168
  z53:=Tryz.sizeOf168
  v53:=Tryz.zeroValue168
  t75:=Tryz.underlying153
  a75:=Tryz.isAgg153
  z75:=Tryz.sizeOf153
  v75:=Tryz.zeroValue153
  t85:=Tryz.underlying154
  a85:=Tryz.isAgg154
  z85:=Tryz.sizeOf154
  v85:=Tryz.zeroValue154
  t127:=Tryz.underlying195
  a127:=Tryz.isAgg195
  z127:=Tryz.sizeOf195
  v127:=Tryz.zeroValue195
  t143:=Tryz.underlying196
  a143:=Tryz.isAgg196
  z143:=Tryz.sizeOf196
  v143:=Tryz.zeroValue196
  t145:=Tryz.underlying198
  a145:=Tryz.isAgg198
  z145:=Tryz.sizeOf198
  v145:=Tryz.zeroValue198
  t167:=Tryz.underlying167
  a167:=Tryz.isAgg167
  z167:=Tryz.sizeOf167
  v167:=Tryz.zeroValue167
  t168:=Tryz.underlying171
  a168:=Tryz.isAgg171
  z168:=Tryz.sizeOf171
  v168:=Tryz.zeroValue171
  t171:=Tryz.underlying175
  a171:=Tryz.isAgg175
  z171:=Tryz.sizeOf175
  v171:=Tryz.zeroValue175
  t173:=Tryz.underlying179
  a173:=Tryz.isAgg179
  z173:=Tryz.sizeOf179
  v173:=Tryz.zeroValue179
  t175:=Tryz.underlying169
  a175:=Tryz.isAgg169
  z175:=Tryz.sizeOf169
  v175:=Tryz.zeroValue169
  t210:=Tryz.underlying189
  a210:=Tryz.isAgg189
  z210:=Tryz.sizeOf189
  v210:=Tryz.zeroValue189
  t212:=Tryz.underlying192
  a212:=Tryz.isAgg192
  z212:=Tryz.sizeOf192
  v212:=Tryz.zeroValue192
  t213:=Tryz.underlying193
  a213:=Tryz.isAgg193
  z213:=Tryz.sizeOf193
  t232:=Tryz.underlying200
  a232:=Tryz.isAgg200
  z232:=Tryz.sizeOf200
  v232:=Tryz.zeroValue200
  t233:=Tryz.underlying201
  a233:=Tryz.isAgg201
  z233:=Tryz.sizeOf201
  v233:=Tryz.zeroValue201
  g15:=by kernel_rfl
  g16:=by kernel_rfl
  g17:=by kernel_rfl
  g18:=by kernel_rfl
  g19:=by kernel_rfl
  t80:=Tryz.underlying202
  a80:=Tryz.isAgg202
  z80:=Tryz.sizeOf202
  v80:=Tryz.zeroValue202
  i0:=by kernel_rfl
  i2:=by kernel_rfl
  i3:=by kernel_rfl
  i4:=by kernel_rfl
  i5:=by kernel_rfl
  i9:=by kernel_rfl
  i20:=by kernel_rfl
  i21:=by kernel_rfl
  i37:=by kernel_rfl
  i46:=by kernel_rfl
  i51:=by kernel_rfl
  i53:=by kernel_rfl
  i75:=by kernel_rfl
  i80:=by kernel_rfl
  i85:=by kernel_rfl
  i127:=by kernel_rfl
  i143:=by kernel_rfl
  i145:=by kernel_rfl
  i167:=by kernel_rfl
  i168:=by kernel_rfl
  i171:=by kernel_rfl
  i173:=by kernel_rfl
  i175:=by kernel_rfl
  i210:=by kernel_rfl
  i212:=by kernel_rfl
  i232:=by kernel_rfl
  i233:=by kernel_rfl
  m15:=by kernel_rfl
  m16:=by kernel_rfl
  m17:=by kernel_rfl
  m18:=by kernel_rfl
  m19:=by kernel_rfl
  c0:=by kernel_rfl
  c2:=by kernel_rfl
  c3:=by kernel_rfl
  c4:=by kernel_rfl
  c5:=by kernel_rfl
  c9:=by kernel_rfl
  c20:=by kernel_rfl
  c21:=by kernel_rfl
  c37:=by kernel_rfl
  c46:=by kernel_rfl
  c51:=by kernel_rfl
  c53:=by kernel_rfl
  c75:=by kernel_rfl
  c80:=by kernel_rfl
  c85:=by kernel_rfl
  c127:=by kernel_rfl
  c143:=by kernel_rfl
  c145:=by kernel_rfl
  c167:=by kernel_rfl
  c168:=by kernel_rfl
  c171:=by kernel_rfl
  c173:=by kernel_rfl
  c175:=by kernel_rfl
  c210:=by kernel_rfl
  c212:=by kernel_rfl
  c213:=by kernel_rfl
  c232:=by kernel_rfl
  c233:=by kernel_rfl }
def Tryz.laysM173_ren:Go.Shelf.Ren:=⟨fun | 173=>124 | 246=>133 | 283=>145 | 284=>146 | 285=>147 | 286=>148 | 129=>159 | 317=>158 | 318=>160 | 319=>161 | 320=>162 | 337=>164 | 338=>165 | n=>n,fun | 2=>2 | 3=>3 | 9=>9 | 4=>4 | 171=>175 | 0=>0 | 53=>168 | 37=>178 | 5=>5 | 173=>179 | 212=>192 | 51=>182 | 20=>20 | 213=>193 | 46=>165 | 232=>200 | 233=>201 | n=>n,fun | 17=>3 | 18=>4 | 19=>5 | n=>n⟩
theorem Tryz.laysM173:Go.Proofs.LaysM.n173 Tryz.prog Tryz.laysM173_ren:={
  mixed:=by kernel_rfl
  f129:=Tryz.func159.trans (congrArg some (by kernel_rfl))
  f173:=Tryz.func124.trans (congrArg some (by kernel_rfl))
  f246:=Tryz.func133.trans (congrArg some (by kernel_rfl))
  f283:=Tryz.func145.trans (congrArg some (by kernel_rfl))
  f284:=Tryz.func146.trans (congrArg some (by kernel_rfl))
  f285:=Tryz.func147.trans (congrArg some (by kernel_rfl))
  f286:=Tryz.func148.trans (congrArg some (by kernel_rfl))
  f317:=Tryz.func158.trans (congrArg some (by kernel_rfl))
  f318:=Tryz.func160.trans (congrArg some (by kernel_rfl))
  f319:=Tryz.func161.trans (congrArg some (by kernel_rfl))
  f320:=Tryz.func162.trans (congrArg some (by kernel_rfl))
  f337:=Tryz.func164.trans (congrArg some (by kernel_rfl))
  f338:=Tryz.func165.trans (congrArg some (by kernel_rfl))
  t0:=Tryz.underlying0
  a0:=Tryz.isAgg0
  z0:=Tryz.sizeOf0
  v0:=Tryz.zeroValue0
  t2:=Tryz.underlying2
  a2:=Tryz.isAgg2
  z2:=Tryz.sizeOf2
  v2:=Tryz.zeroValue2
  t3:=Tryz.underlying3
  a3:=Tryz.isAgg3
  z3:=Tryz.sizeOf3
  v3:=Tryz.zeroValue3
  t4:=Tryz.underlying4
  a4:=Tryz.isAgg4
  z4:=Tryz.sizeOf4
  v4:=Tryz.zeroValue4
  t5:=Tryz.underlying5
  a5:=Tryz.isAgg5
  z5:=Tryz.sizeOf5
  v5:=Tryz.zeroValue5
  t9:=Tryz.underlying9
  a9:=Tryz.isAgg9
  z9:=Tryz.sizeOf9
  v9:=Tryz.zeroValue9
  t20:=Tryz.underlying20
  a20:=Tryz.isAgg20
  z20:=Tryz.sizeOf20
  v20:=Tryz.zeroValue20
  t37:=Tryz.underlying178
  a37:=Tryz.isAgg178
  z37:=Tryz.sizeOf178
  v37:=Tryz.zeroValue178
  t46:=Tryz.underlying165
  a46:=Tryz.isAgg165
  z46:=Tryz.sizeOf165
  v46:=Tryz.zeroValue165
  t51:=Tryz.underlying182
  a51:=Tryz.isAgg182
  z51:=Tryz.sizeOf182
  v51:=Tryz.zeroValue182
  t53:=Tryz.underlying168
  a53:=Tryz.isAgg168
  z53:=Tryz.sizeOf168
  v53:=Tryz.zeroValue168
  t171:=Tryz.underlying175
  a171:=Tryz.isAgg175
  z171:=Tryz.sizeOf175
  v171:=Tryz.zeroValue175
  t173:=Tryz.underlying179
  a173:=Tryz.isAgg179
  z173:=Tryz.sizeOf179
  v173:=Tryz.zeroValue179
  t212:=Tryz.underlying192
  a212:=Tryz.isAgg192
  z212:=Tryz.sizeOf192
  v212:=Tryz.zeroValue192
  t213:=Tryz.underlying193
  a213:=Tryz.isAgg193
  z213:=Tryz.sizeOf193
  t232:=Tryz.underlying200
  a232:=Tryz.isAgg200
  z232:=Tryz.sizeOf200
  v232:=Tryz.zeroValue200
  t233:=Tryz.underlying201
  a233:=Tryz.isAgg201
  z233:=Tryz.sizeOf201
  v233:=Tryz.zeroValue201
  g17:=by kernel_rfl
  g18:=by kernel_rfl
  g19:=by kernel_rfl
  i0:=by kernel_rfl
  i2:=by kernel_rfl
  i3:=by kernel_rfl
  i4:=by kernel_rfl
  i5:=by kernel_rfl
  i9:=by kernel_rfl
  i20:=by kernel_rfl
  i37:=by kernel_rfl
  i46:=by kernel_rfl
  i51:=by kernel_rfl
  i53:=by kernel_rfl
  i171:=by kernel_rfl
  i173:=by kernel_rfl
  i212:=by kernel_rfl
  i232:=by kernel_rfl
  i233:=by kernel_rfl
  m17:=by kernel_rfl
  m18:=by kernel_rfl
  m19:=by kernel_rfl }
def Tryz.lays101_ren:Go.Shelf.Ren:=⟨fun | 101=>122 | 208=>130 | 206=>139 | n=>n,fun | 9=>9 | 4=>4 | 3=>3 | n=>n,fun | n=>n⟩
theorem Tryz.lays101:Go.Proofs.Lays.n101 Tryz.prog Tryz.lays101_ren:={
  mixed:=by kernel_rfl
  f101:=Tryz.func122.trans (congrArg some (by kernel_rfl))
  f206:=Tryz.func139.trans (congrArg some (by kernel_rfl))
  f208:=Tryz.func130.trans (congrArg some (by kernel_rfl))
  t3:=Tryz.underlying3
  a3:=Tryz.isAgg3
  z3:=Tryz.sizeOf3
  v3:=Tryz.zeroValue3
  t4:=Tryz.underlying4
  a4:=Tryz.isAgg4
  z4:=Tryz.sizeOf4
  v4:=Tryz.zeroValue4
  t9:=Tryz.underlying9
  a9:=Tryz.isAgg9
  z9:=Tryz.sizeOf9
  v9:=Tryz.zeroValue9 }
def Tryz.lays219_ren:Go.Shelf.Ren:=⟨fun | 219=>129 | 217=>135 | 225=>136 | 224=>137 | 267=>138 | 266=>151 | 314=>152 | n=>n,fun | 9=>9 | 3=>3 | 4=>4 | 5=>5 | 46=>165 | 146=>183 | 51=>182 | n=>n,fun | 1=>0 | n=>n⟩
theorem Tryz.lays219:Go.Proofs.Lays.n219 Tryz.prog Tryz.lays219_ren:={
  mixed:=by kernel_rfl
  f217:=Tryz.func135.trans (congrArg some (by kernel_rfl))
  f219:=Tryz.func129.trans (congrArg some (by kernel_rfl))
  f224:=Tryz.func137.trans (congrArg some (by kernel_rfl))
  f225:=Tryz.func136.trans (congrArg some (by kernel_rfl))
  f266:=Tryz.func151.trans (congrArg some (by kernel_rfl))
  f267:=Tryz.func138.trans (congrArg some (by kernel_rfl))
  f314:=Tryz.func152.trans (congrArg some (by kernel_rfl))
  t3:=Tryz.underlying3
  a3:=Tryz.isAgg3
  z3:=Tryz.sizeOf3
  v3:=Tryz.zeroValue3
  t4:=Tryz.underlying4
  a4:=Tryz.isAgg4
  z4:=Tryz.sizeOf4
  v4:=Tryz.zeroValue4
  t5:=Tryz.underlying5
  a5:=Tryz.isAgg5
  z5:=Tryz.sizeOf5
  v5:=Tryz.zeroValue5
  t9:=Tryz.underlying9
  a9:=Tryz.isAgg9
  z9:=Tryz.sizeOf9
  v9:=Tryz.zeroValue9
  t46:=Tryz.underlying165
  a46:=Tryz.isAgg165
  z46:=Tryz.sizeOf165
  v46:=Tryz.zeroValue165
  t51:=Tryz.underlying182
  a51:=Tryz.isAgg182
  z51:=Tryz.sizeOf182
  v51:=Tryz.zeroValue182
  t146:=Tryz.underlying183
  a146:=Tryz.isAgg183
  z146:=Tryz.sizeOf183
  v146:=Tryz.zeroValue183
  g1:=by kernel_rfl }
end Go.Proofs

namespace Go.Aw
set_option linter.unusedSimpArgs false
set_option linter.unusedVariables false
open Go.RowKit Go.Proofs

def bs (l:List UInt8) : ByteArray:=⟨l.toArray⟩
theorem bs_list (l:List UInt8) : (bs l).data.toList=l:=rfl
theorem bs_size (l:List UInt8) : (bs l).size=l.length:=rfl
theorem bs_inj {a b:List UInt8} : (bs a==bs b)=decide (a=b):=by
  have h:(bs a==bs b)=(a.toArray==b.toArray):=rfl
  rw [h]
  by_cases h:a=b
  · simp [h]
  · simp [h]
theorem bs_extract (l:List UInt8) (a b:Nat) : (bs l).extract a b=bs ((l.take b).drop a):=by
  have h:((bs l).extract a b).data.toList=(l.take b).drop a:=by
    rw [ByteArray.data_extract]
    simp only [bs,Array.toList_extract,List.extract]
    rw [List.drop_take]
  rw [← h]
  rfl

def cut1 (c:UInt8) : List UInt8→List UInt8 × List UInt8 × Bool
  | []=>([],[],false)
  | b::l=>if b=c then ([],l,true) else (b::(cut1 c l).1,(cut1 c l).2.1,(cut1 c l).2.2)
theorem cut1_index (c:UInt8) : ∀ l:List UInt8,(Lib.indexByte l c = -1∧cut1 c l=(l,[],false))∨(∃ k:Nat,Lib.indexByte l c=k∧k<l.length∧cut1 c l=(l.take k,l.drop (k+1),true))
  | []=>.inl ⟨rfl,rfl⟩
  | b::l=>by
    by_cases hb:b=c
    · refine .inr ⟨0,?_,by simp,by simp [cut1,hb]⟩
      simp [Lib.indexByte,hb]
    · have hb':(b==c)=false:=beq_eq_false_iff_ne.2 hb
      rcases cut1_index c l with ⟨h1,h2⟩ | ⟨k,h1,h2,h3⟩
      · refine .inl ⟨?_,by simp [cut1,hb,h2]⟩
        simp [Lib.indexByte,hb',h1]
      · refine .inr ⟨k+1,?_,by simpa using h2,by simp [cut1,hb,h3]⟩
        have:((k:Int) == -1)=false:=beq_eq_false_iff_ne.2 (by omega)
        simp [Lib.indexByte,hb',h1,this]
theorem cut1_len (c:UInt8) (l:List UInt8) : (cut1 c l).1.length≤l.length∧(cut1 c l).2.1.length≤l.length∧((cut1 c l).2.2=true→(cut1 c l).1.length+(cut1 c l).2.1.length+1=l.length):=by
  induction l with
  | nil=>simp [cut1]
  | cons b l ih =>
    by_cases hb:b=c
    · simp [cut1,hb]
    · simp only [cut1,hb,if_false,List.length_cons]
      refine ⟨by omega,by omega,fun h => ?_⟩
      have:=ih.2.2 h
      omega

def numD (l:List UInt8) : Int × Bool:=if 18<(Lib.trimPrefix l [45]).length then (0,false) else
  match Lib.parseIntB 64 l with
  | .ok v=>(v,decide (Lib.itoa v=l))
  | .range=>(Lib.intSat 64 l,false)
  | _=>(0,false)

def wordL:List (List UInt8):=[[116,114,117,101],[108,101],[110,111,116],[97,110,100],[111,114],[97,108,119,97,121,115],[115,111,109,101],[117,110,116,105,108]]
def numsN (op:Nat) : Nat:=if op=2 then 3 else if op=6∨op=7∨op=8 then 2 else 0

def rdNums:Nat→Bool→List UInt8→Option (List Int × Bool × List UInt8)
  | 0,m,t=>some ([],m,t)
  | n+1,m,t=>if m then (if (numD (cut1 32 t).1).2 then (rdNums n (cut1 32 t).2.2 (cut1 32 t).2.1).map fun r=>((numD (cut1 32 t).1).1::r.1,r.2) else none) else none
def mkNd (op:Nat) (at':List Int) : Nd:=if op=2 then ⟨2,at'.getD 0 0,at'.getD 1 0,at'.getD 2 0,0,0⟩ else ⟨op,0,0,0,at'.getD 0 0,at'.getD 1 0⟩

def wordIx (w:List UInt8) : Option Nat:=wordL.findIdx? (·==w)
def parseN:Nat→Bool→List UInt8→Option (List Nd)
  | 0,_,_=>none
  | _+1,false,_=>some []
  | k+1,true,t=>match wordIx (cut1 32 t).1 with
    | none=>none
    | some i=>match rdNums (numsN (i+1)) (cut1 32 t).2.2 (cut1 32 t).2.1 with
      | none=>none
      | some (vs,m,r)=>(parseN k m r).map (mkNd (i+1) vs::·)
def parseL (l:List UInt8) : Option (List Nd):=parseN (l.length+2) true l

end Go.Aw

namespace Go.Aw
set_option linter.unusedSimpArgs false
set_option linter.unusedVariables false
open Go.RowKit Go.Proofs
set_option maxRecDepth 100000

theorem FO.cells {F:Nat→Prop} {w:World} (h:FO F w) {g:Nat} {xs:List D} (hg:globT g=some xs) :
    ∃ cs t fr,w.heap[g]? = some (.cells cs t fr)∧cs.size=xs.length∧∀ (j:Nat) (x:D) (v:Value),xs[j]? = some x→cs[j]? = some v→RD F w x v:=by
  obtain ⟨cs,t,fr,h1,h2⟩:=h.fl g xs hg
  refine ⟨cs,t,fr,h1,h2,fun j x v hx hv => ?_⟩
  have hp:=h.gl g xs hg
  cases hp with
  | cp b o off xs c hF hc hr =>
    have hj:j<xs.length:=(List.getElem?_eq_some_iff.1 hx).1
    have h3:=hc j hj
    have h4:=hr j x hx
    simp only [World.cell?,h1,Nat.zero_add] at h3
    rw [hv] at h3
    cases h3
    exact h4
theorem powG_eq:powG=Lib.pow10Tab.map (D.int .u64):=by kernel_rfl
theorem pow_tab {P:Program} {F:Nat→Prop} {w:World} (h:FO F w) {n:String} (hn:P.globalNamed n=some 3) : Lib.TabIs P w n .u64 Lib.pow10Tab:=by
  obtain ⟨cs,t,fr,h1,h2,h3⟩:=h.cells (g:=3) (xs:=powG) (by rfl)
  rw [powG_eq] at h2 h3
  simp only [List.length_map,Lib.pow10Tab_length] at h2
  simp only [Lib.TabIs,World.var?,hn,Option.bind_some,h1,Option.some.injEq]
  apply Array.ext
  · simp [h2,Lib.pow10Tab_length]
  · intro i hi hi'
    have hi2:i<Lib.pow10Tab.length:=by rw [Lib.pow10Tab_length]; omega
    have:=h3 i (.int .u64 Lib.pow10Tab[i]) cs[i] (by rw [List.getElem?_map,List.getElem?_eq_getElem hi2]; rfl) (by simp [hi])
    have:=int_of (.d _ _ this:VR [] F w _ _)
    rw [this]
    simp

theorem pd_trim (s p:ByteArray) : PD Tryz.prog 122 [.str s,.str p] (.d (.str (bs (Lib.trimPrefix s.data.toList p.data.toList)))) :=
  pd_same (vs:=[.string s,.string p]) ⟨_,Tryz.func122,by kernel_rfl,by kernel_rfl⟩ rfl rfl fun w=>Any.strings_TrimPrefix Tryz.lays101 s p w
theorem pd_index (s:ByteArray) (c:UInt8) : PD Tryz.prog 129 [.str s,.str ⟨#[c]⟩] (.d (.int .i64 (Lib.indexByte s.data.toList c))) :=
  pd_same (vs:=[.string s,.string ⟨#[c]⟩]) ⟨_,Tryz.func129,by kernel_rfl,by kernel_rfl⟩ rfl rfl fun w=>Any.stringslite_Index_one Tryz.lays219 s c w
theorem pd_format (n:Int) (h0 : -9223372036854775808≤n) (h1:n≤9223372036854775807) : PD Tryz.prog 124 [.int .i64 n,.int .i64 10] (.d (.str (bs (Lib.itoa n)))):=by
  refine pd_stays (vs:=[.int .i64 n,.int .i64 10]) ⟨_,Tryz.func124,by kernel_rfl,by kernel_rfl⟩ rfl fun w F hF=>(Any.strconv_FormatInt_10 Tryz.laysM173 n h0 h1 w (pow_tab hF (by kernel_rfl))).mono ?_
  rintro e w' ⟨he,k,os,rfl⟩
  refine ⟨_,he,.d _ _ (.str _),⟨rfl,rfl,rfl,?_,fun i hi => ?_⟩⟩
  · simp [World.drewN]
  · exact Sort.heap_grow_old (w.drewN k) os hi
theorem pd_parse (s:ByteArray) (hs:s.size≤9223372036854775806) (v:Int) (hv:Lib.parseIntB 64 s.data.toList=.ok v) : PD Tryz.prog 123 [.str s,.int .i64 10,.int .i64 64] (.tup [.d (.int .i64 v),.d .niliface]):=by
  refine pd_stays (vs:=[.string s,.int .i64 10,.int .i64 64]) ⟨_,Tryz.func123,by kernel_rfl,by kernel_rfl⟩ rfl fun w F hF=>(Any.strconv_ParseInt_10_at64_ok Tryz.laysC174 s hs v hv w).mono ?_
  rintro e w' ⟨he,hw⟩
  refine ⟨_,he,.tup _ _ rfl fun j x u hx hu => ?_,?_⟩
  · match j with
    | 0=>simp at hx hu; subst hx hu; exact .d _ _ (.int _ _)
    | 1=>simp at hx hu; subst hx hu; exact .d _ _ .niliface
    | j+2=>simp at hx
  · rcases hw with rfl | ⟨t,rfl⟩
    · exact Below.refl _ _
    · exact Lib.bytesWorld_below _ _ _
theorem err_cell {F:Nat→Prop} {w:World} (h:FO F w) {g:Nat} {t:TypeId} {x:D} (hg:globT g=some [.iface t x]) : ∃ ev,w.cell? ⟨g,0,none⟩=some ev∧(ev=.nilIface∨∃ te pe,ev=.iface te pe):=by
  obtain ⟨cs,ty,fr,h1,h2,h3⟩:=h.cells hg
  have hl:0<cs.size:=by rw [h2]; exact Nat.zero_lt_one
  have hv:=h3 0 _ cs[0] rfl (by simp [hl])
  refine ⟨cs[0],by simp [World.cell?,h1,hl],.inr ?_⟩
  generalize cs[0]=q at hv
  cases hv with
  | iface t x v hv=>exact ⟨_,_,rfl⟩
theorem pd_parse_bad (s:ByteArray) (hs:s.size≤281474976710656) (h1:∀ v,Lib.parseIntB 64 s.data.toList≠.ok v) (h2:Lib.parseIntB 64 s.data.toList≠.range) : PD Tryz.prog 123 [.str s,.int .i64 10,.int .i64 64] (.tup [.d (.int .i64 0),.iface 171 .junk]):=by
  cases hv:Lib.parseIntB 64 s.data.toList
  · exact absurd hv (h1 _)
  · refine pd_stays (vs:=[.string s,.int .i64 10,.int .i64 64]) ⟨_,Tryz.func123,by kernel_rfl,by kernel_rfl⟩ rfl fun w F hF => ?_
    obtain ⟨ev,g1,g2⟩:=err_cell hF (g:=1) (by rfl)
    refine (Any.strconv_ParseInt_10_at64_syntax Tryz.laysC174 s hs hv ev w g1 g2).mono ?_
    rintro e w' ⟨N,he,_,_,hb⟩
    refine ⟨_,he,.tup _ _ rfl fun j x u hx hu => ?_,hb⟩
    match j with
    | 0=>simp at hx hu; subst hx hu; exact .d _ _ (.int _ _)
    | 1=>simp at hx hu; subst hx hu; exact .iface _ _ _ (.junk _)
    | j+2=>simp at hx
  · exact absurd hv h2
theorem pd_parse_rng (s:ByteArray) (hs:s.size≤281474976710656) (hv:Lib.parseIntB 64 s.data.toList=.range) : PD Tryz.prog 123 [.str s,.int .i64 10,.int .i64 64] (.tup [.d (.int .i64 (Lib.intSat 64 s.data.toList)),.iface 171 .junk]):=by
  refine pd_stays (vs:=[.string s,.int .i64 10,.int .i64 64]) ⟨_,Tryz.func123,by kernel_rfl,by kernel_rfl⟩ rfl fun w F hF => ?_
  obtain ⟨ev,h1,h2⟩:=err_cell hF (g:=2) (by rfl)
  refine (Any.strconv_ParseInt_10_at64_range Tryz.laysC174 s hs hv ev w h1 h2).mono ?_
  rintro e w' ⟨N,he,_,_,hb⟩
  refine ⟨_,he,.tup _ _ rfl fun j x u hx hu => ?_,hb⟩
  match j with
  | 0=>simp at hx hu; subst hx hu; exact .d _ _ (.int _ _)
  | 1=>simp at hx hu; subst hx hu; exact .iface _ _ _ (.junk _)
  | j+2=>simp at hx

set_option maxHeartbeats 1000000 in
theorem p91 (l:List UInt8) (c:UInt8) (hl:l.length≤1000000000) : PD Tryz.prog 121 [.str (bs l),.str ⟨#[c]⟩] (.tup [.d (.str (bs (cut1 c l).1)),.d (.str (bs (cut1 c l).2.1)),.d (.bool (cut1 c l).2.2)]):=by
  have hi:=pd_index (bs l) c
  rw [bs_list] at hi
  rcases cut1_index c l with ⟨h1,h2⟩ | ⟨k,h1,h2,h3⟩
  · rw [h1] at hi
    rw [h2]
    have hd:decide ((-1:Int) ≥ 0)=false:=by decide
    refine pd_of (fn:=Tryz.f121) [.tmp 4,.tmp 5,.tmp 6] (by kernel_rfl) rfl (by kernel_rfl) (Nat.le_of_ble_eq_true rfl) (by kernel_rfl) rfl rfl ?_
    (repeat' (first | refine awp_seq ?_ | refine awp_skip ?_ | refine awp_block ?_ | ((first | (refine awpF_region ?_; intro K hK) | (refine awpF_draw (id:=3) [0,1,2,3,4,5,6,7,8,9,10,11] (by kernel_rfl) (by kernel_rfl) rfl ?_; intro K hK) | refine CallK.pd (hi) ?_ | refine CallK.pg (fun _=>hi) ?_); simp only [push_cast,seval,hd]; refine wObW ?_) | (refine hK _ ?_; clear hK K) | (refine wCd ?_ ?_) | (with_reducible intro hb; exfalso; revert hb; simp [hd]; done) | (with_reducible intro hb; exfalso; replace hb:=wHb hb; omega; done) | (with_reducible intro hb; replace hb:=wHb hb) | (refine wEx ?_) | (refine wRp ?_; refine fin_of (by simp only [push_cast,seval,hd]; first | done | rfl) ob1 ?_) | (refine inblock_norm ?_)))
    rfl
  · rw [h1] at hi
    rw [h3]
    have hd:decide ((k:Int) ≥ 0)=true:=decide_eq_true (by omega)
    have hw:IntKind.i64.wrap ((k:Int)+1)=(k+1:Nat):=by
      rw [wrapI _ (by omega)]
      push_cast
    have h1s:((⟨#[c]⟩ : ByteArray).size:Int)=1:=rfl
    refine pd_of (fn:=Tryz.f121) [.tmp 4,.tmp 5,.tmp 6] (by kernel_rfl) rfl (by kernel_rfl) (Nat.le_of_ble_eq_true rfl) (by kernel_rfl) rfl rfl ?_
    (repeat' (first | refine awp_seq ?_ | refine awp_skip ?_ | refine awp_block ?_ | ((first | (refine awpF_region ?_; intro K hK) | (refine awpF_draw (id:=3) [0,1,2,3,4,5,6,7,8,9,10,11] (by kernel_rfl) (by kernel_rfl) rfl ?_; intro K hK) | refine CallK.pd (hi) ?_ | refine CallK.pg (fun _=>hi) ?_); simp only [push_cast,seval,hd,hw,h1s,bs_size,bs_extract,Int.toNat_natCast]; refine wObW ?_) | (refine hK _ ?_; clear hK K) | (refine wCd ?_ ?_) | (with_reducible intro hb; exfalso; revert hb; simp [hd,hw,h1s,bs_size,bs_extract,Int.toNat_natCast]; done) | (with_reducible intro hb; exfalso; replace hb:=wHb hb; omega; done) | (with_reducible intro hb; replace hb:=wHb hb) | (refine wEx ?_) | (refine wRp ?_; refine fin_of (by simp only [push_cast,seval,hd,hw,h1s,bs_size,bs_extract,Int.toNat_natCast]; first | done | rfl) ob1 ?_) | (refine inblock_norm ?_)))
    rw [List.take_length,show ((k:Int)+1).toNat=k+1 by omega]
theorem p65 (l:List UInt8) (c:UInt8) (hl:l.length≤1000000000) : PD Tryz.prog 104 [.str (bs l),.str ⟨#[c]⟩] (.tup [.d (.str (bs (cut1 c l).1)),.d (.str (bs (cut1 c l).2.1)),.d (.bool (cut1 c l).2.2)]):=by
  have h91:=p91 l c hl
  refine pd_of (fn:=Tryz.f104) [.tmp 4,.tmp 5,.tmp 6] (by kernel_rfl) rfl (by kernel_rfl) (Nat.le_of_ble_eq_true rfl) (by kernel_rfl) rfl rfl ?_
  (repeat' (first | refine awp_seq ?_ | refine awp_skip ?_ | refine awp_block ?_ | ((first | (refine awpF_region ?_; intro K hK) | refine CallK.pd (h91) ?_ | refine CallK.pg (fun _=>h91) ?_); refine wXo ?_) | (refine hK _ ?_; clear hK K) | (refine wCd ?_ ?_) | (with_reducible intro hb; exfalso; revert hb; simp []; done) | (with_reducible intro hb; exfalso; replace hb:=wHb hb; omega; done) | (with_reducible intro hb; replace hb:=wHb hb) | (refine wEx ?_) | (refine wRet ?_) | (refine inblock_norm ?_)))
  rfl
theorem p59:PD Tryz.prog 105 [] (.agg (wordL.map fun l=>.d (.str (bs l)))):=by
  refine pd_of (fn:=Tryz.f105) [.cell 0 139] (by kernel_rfl) rfl (by kernel_rfl) (Nat.le_of_ble_eq_true rfl) (by kernel_rfl) rfl rfl ?_
  (repeat' (first | refine awp_seq ?_ | refine awp_skip ?_ | refine awp_block ?_ | ((first | (refine awpF_region ?_; intro K hK)); refine wXo ?_) | (refine hK _ ?_; clear hK K) | (refine wCd ?_ ?_) | (with_reducible intro hb; exfalso; revert hb; simp []; done) | (with_reducible intro hb; exfalso; replace hb:=wHb hb; omega; done) | (with_reducible intro hb; replace hb:=wHb hb) | (refine wEx ?_) | (refine wRet ?_) | (refine inblock_norm ?_)))
  rfl
theorem p60 (op:Int) : PD Tryz.prog 106 [.int .i64 op] (.d (.int .i64 (if op=2 then 3 else if op=6∨op=7∨op=8 then 2 else 0))):=by
  refine pd_of (fn:=Tryz.f106) [.tmp 2] (by kernel_rfl) rfl (by kernel_rfl) (Nat.le_of_ble_eq_true rfl) (by kernel_rfl) rfl rfl ?_
  (repeat' (first | refine awp_seq ?_ | refine awp_skip ?_ | refine awp_block ?_ | ((first | (refine awpF_region ?_; intro K hK)); refine wXo ?_) | (refine hK _ ?_; clear hK K) | (refine wCd ?_ ?_) | (with_reducible intro hb; exfalso; revert hb; simp []; done) | (with_reducible intro hb; exfalso; replace hb:=wHb hb; omega; done) | (with_reducible intro hb; replace hb:=wHb hb) | (refine wEx ?_) | (refine wRet ?_) | (refine inblock_norm ?_)))
  all_goals simp_all
end Go.Aw

namespace Go.Aw
set_option linter.unusedSimpArgs false
set_option linter.unusedVariables false
open Go.RowKit Go.Proofs
set_option maxRecDepth 100000

set_option maxHeartbeats 1000000 in
theorem p66 (l:List UInt8) (hl:l.length≤1000000000) : PD Tryz.prog 107 [.str (bs l)] (.tup [.d (.int .i64 (numD l).1),.d (.bool (numD l).2)]):=by
  have ht:=pd_trim (bs l) (bs [45])
  rw [bs_list,bs_list] at ht
  by_cases h18:18<(Lib.trimPrefix l [45]).length
  · have hd:decide (((Lib.trimPrefix l [45]).length:Int) > 18)=true:=decide_eq_true (by omega)
    simp only [numD,if_pos h18]
    refine pd_of (fn:=Tryz.f107) [.tmp 2,.tmp 3] (by kernel_rfl) rfl (by kernel_rfl) (Nat.le_of_ble_eq_true rfl) (by kernel_rfl) rfl rfl ?_
    (repeat' (first | refine awp_seq ?_ | refine awp_skip ?_ | refine awp_block ?_ | ((first | (refine awpF_region ?_; intro K hK) | refine CallK.pd (ht) ?_ | refine CallK.pg (fun _=>ht) ?_); simp only [push_cast,seval,bs_size,hd]; refine wObW ?_) | (refine hK _ ?_; clear hK K) | (refine wCd ?_ ?_) | (with_reducible intro hb; exfalso; revert hb; simp [bs_size,hd]; done) | (with_reducible intro hb; exfalso; replace hb:=wHb hb; omega; done) | (with_reducible intro hb; replace hb:=wHb hb) | (refine wEx ?_) | (refine wRp ?_; refine fin_of (by simp only [push_cast,seval,bs_size,hd]; first | done | rfl) ob1 ?_) | (refine inblock_norm ?_)))
    rfl
  · have hd:decide (((Lib.trimPrefix l [45]).length:Int) > 18)=false:=decide_eq_false (by omega)
    by_cases h1:∃ v,Lib.parseIntB 64 l=.ok v
    · obtain ⟨v,hv⟩:=h1
      have hb:=Lib.parseIntB_bounds hv
      have hp:=pd_parse (bs l) (by rw [bs_size]; omega) v hv
      have hf:=pd_format v (by have:=hb.1; simpa using this) (by have:=hb.2; simp at this; omega)
      simp only [numD,if_neg h18,hv]
      refine pd_of (fn:=Tryz.f107) [.tmp 2,.tmp 3] (by kernel_rfl) rfl (by kernel_rfl) (Nat.le_of_ble_eq_true rfl) (by kernel_rfl) rfl rfl ?_
      (repeat' (first | refine awp_seq ?_ | refine awp_skip ?_ | refine awp_block ?_ | ((first | (refine awpF_region ?_; intro K hK) | refine CallK.pd (ht) ?_ | refine CallK.pg (fun _=>ht) ?_ | refine CallK.pd (hp) ?_ | refine CallK.pg (fun _=>hp) ?_ | refine CallK.pd (hf) ?_ | refine CallK.pg (fun _=>hf) ?_); simp only [push_cast,seval,bs_size,hd,bs_inj]; refine wObW ?_) | (refine hK _ ?_; clear hK K) | (refine wCd ?_ ?_) | (with_reducible intro hb; exfalso; revert hb; simp [bs_size,hd,bs_inj]; done) | (with_reducible intro hb; exfalso; replace hb:=wHb hb; omega; done) | (with_reducible intro hb; replace hb:=wHb hb) | (refine wEx ?_) | (refine wRp ?_; refine fin_of (by simp only [push_cast,seval,bs_size,hd,bs_inj]; first | done | rfl) ob1 ?_) | (refine inblock_norm ?_)))
      rfl
    by_cases h2:Lib.parseIntB 64 l=.range
    · have hp:=pd_parse_rng (bs l) (by rw [bs_size]; omega) h2
      rw [bs_list] at hp
      have hf:=pd_format (Lib.intSat 64 l) (by unfold Lib.intSat; split <;> decide) (by unfold Lib.intSat; split <;> decide)
      generalize hs:Lib.intSat 64 l=sv at *
      simp only [numD,if_neg h18,h2,hs]
      refine pd_of (fn:=Tryz.f107) [.tmp 2,.tmp 3] (by kernel_rfl) rfl (by kernel_rfl) (Nat.le_of_ble_eq_true rfl) (by kernel_rfl) rfl rfl ?_
      (repeat' (first | refine awp_seq ?_ | refine awp_skip ?_ | refine awp_block ?_ | ((first | (refine awpF_region ?_; intro K hK) | refine CallK.pd (ht) ?_ | refine CallK.pg (fun _=>ht) ?_ | refine CallK.pd (hp) ?_ | refine CallK.pg (fun _=>hp) ?_ | refine CallK.pd (hf) ?_ | refine CallK.pg (fun _=>hf) ?_); simp only [push_cast,seval,bs_size,hd,bs_inj]; refine wObW ?_) | (refine hK _ ?_; clear hK K) | (refine wCd ?_ ?_) | (with_reducible intro hb; exfalso; revert hb; simp [bs_size,hd,bs_inj]; done) | (with_reducible intro hb; exfalso; replace hb:=wHb hb; omega; done) | (with_reducible intro hb; replace hb:=wHb hb) | (refine wEx ?_) | (refine wRp ?_; refine fin_of (by simp only [push_cast,seval,bs_size,hd,bs_inj]; first | done | rfl) ob1 ?_) | (refine inblock_norm ?_)))
      all_goals rfl
    have hp:=pd_parse_bad (bs l) (by rw [bs_size]; omega) (fun v e=>h1 ⟨v,e⟩) h2
    have hf:=pd_format 0 (by decide) (by decide)
    have e:numD l=(0,false):=by
      simp only [numD,if_neg h18]
      cases hv:Lib.parseIntB 64 l
      · exact absurd ⟨_,hv⟩ h1
      · rfl
      · exact absurd hv h2
    rw [e]
    refine pd_of (fn:=Tryz.f107) [.tmp 2,.tmp 3] (by kernel_rfl) rfl (by kernel_rfl) (Nat.le_of_ble_eq_true rfl) (by kernel_rfl) rfl rfl ?_
    (repeat' (first | refine awp_seq ?_ | refine awp_skip ?_ | refine awp_block ?_ | ((first | (refine awpF_region ?_; intro K hK) | refine CallK.pd (ht) ?_ | refine CallK.pg (fun _=>ht) ?_ | refine CallK.pd (hp) ?_ | refine CallK.pg (fun _=>hp) ?_ | refine CallK.pd (hf) ?_ | refine CallK.pg (fun _=>hf) ?_); simp only [push_cast,seval,bs_size,hd,bs_inj]; refine wObW ?_) | (refine hK _ ?_; clear hK K) | (refine wCd ?_ ?_) | (with_reducible intro hb; exfalso; revert hb; simp [bs_size,hd,bs_inj]; done) | (with_reducible intro hb; exfalso; replace hb:=wHb hb; omega; done) | (with_reducible intro hb; replace hb:=wHb hb) | (refine wEx ?_) | (refine wRp ?_; refine fin_of (by simp only [push_cast,seval,bs_size,hd,bs_inj]; first | done | rfl) ob1 ?_) | (refine inblock_norm ?_)))
    all_goals rfl
end Go.Aw

namespace Go.Aw
set_option linter.unusedSimpArgs false
set_option linter.unusedVariables false
open Go.Lib

theorem parseM_app (M:Nat) (c:List UInt8) : ∀ (l:List UInt8) (a x:Nat),parseUintM M a l=.ok x→parseUintM M a (l++c)=parseUintM M x c
  | [],a,x,h=>by
    simp only [parseUintM,NumEnd.ok.injEq] at h
    rw [h,List.nil_append]
  | b::l,a,x,h=>by
    simp only [parseUintM] at h
    rw [List.cons_append]
    simp only [parseUintM]
    split at h
    · rename_i h1
      rw [if_pos h1]
      split at h
      · cases h
      · rename_i h2
        rw [if_neg h2]
        split at h
        · cases h
        · rename_i h3
          rw [if_neg h3]
          exact parseM_app M c l _ x h
    · cases h
theorem dig_nat {d:Nat} (h:d<10) : (UInt8.ofNat (48+d)).toNat=48+d:=by
  rw [UInt8.toNat_ofNat']
  omega
theorem parseM_dec (M:Nat) (hM:1000000000000000000≤M) : ∀ (k u:Nat),u<10 ^ (k+1)→k≤17→parseUintM M 0 (decDigits u)=.ok u
  | k,u,h,hk=>by
    have h18:u<1000000000000000000:=Nat.lt_of_lt_of_le h (Nat.le_trans (Nat.pow_le_pow_right (by decide) (show k+1≤18 by omega)) (by decide))
    have hd:∀ a d:Nat,d<10→a*10+d<1000000000000000000→parseUintM M a [UInt8.ofNat (48+d)]=.ok (a*10+d):=fun a d hd ha=>by
      simp only [parseUintM,dig_nat hd]
      rw [if_pos (by omega),if_neg (by omega),if_neg (by omega),show 48+d - 48=d by omega]
    rw [decDigits]
    split
    · rename_i h10
      have:=hd 0 u h10 (by omega)
      simpa using this
    · rename_i h10
      match k with
      | 0=>simp at h; omega
      | k+1 =>
        have ih:=parseM_dec M hM k (u / 10) (by rw [Nat.pow_succ] at h; omega) (by omega)
        rw [parseM_app M _ _ _ _ ih,hd (u / 10) (u % 10) (Nat.mod_lt _ (by decide)) (by omega)]
        congr 1
        omega
theorem dec_digit:∀ (k u:Nat),u<10 ^ (k+1)→∀ c,c∈decDigits u→48≤c.toNat∧c.toNat≤57
  | k,u,h,c,hc=>by
    rw [decDigits] at hc
    split at hc
    · rename_i h10
      simp only [List.mem_singleton] at hc
      rw [hc,dig_nat h10]
      omega
    · rename_i h10
      match k with
      | 0=>simp at h; omega
      | k+1 =>
        rcases List.mem_append.1 hc with hc | hc
        · exact dec_digit k (u / 10) (by rw [Nat.pow_succ] at h; omega) c hc
        · simp only [List.mem_singleton] at hc
          rw [hc,dig_nat (Nat.mod_lt _ (by decide))]
          omega
theorem dec_digits (u:Nat) : ∀ c,c∈decDigits u→48≤c.toNat∧c.toNat≤57 :=
  dec_digit u u (Nat.lt_trans (Nat.lt_succ_self u) (Nat.lt_pow_self (by decide)))
theorem dec_ne (u:Nat) : decDigits u≠[]:=fun h=>by
  have:=decDigits_length u
  rw [h,List.length_nil] at this
  have:=nDigits_pos u
  omega
theorem dec_lt {u:Nat} (h:(decDigits u).length≤18) : u<1000000000000000000:=by
  rw [decDigits_length] at h
  exact Nat.lt_of_lt_of_le (lt_pow_nDigits u) (Nat.le_trans (Nat.pow_le_pow_right (by decide) h) (by decide))
theorem dec_len {u:Nat} (h:u<1000000000000000000) : (decDigits u).length≤18:=by
  rw [decDigits_length]
  rcases Nat.lt_or_ge 18 (nDigits u) with h1 | h1
  · exfalso
    have h2:10 ^ (nDigits u - 1)≤u:=by
      rcases Nat.lt_or_ge u (10 ^ (nDigits u - 1)) with h3 | h3
      · exfalso
        rcases Nat.eq_zero_or_pos u with rfl | hu
        · rw [nDigits_small (by decide)] at h1
          omega
        · obtain ⟨k,hk1,hk2⟩ : ∃ k,10 ^ k≤u∧u<10 ^ (k+1):=by
            clear h h1 h3
            induction u using Nat.strongRecOn with
            | _ u ih =>
              by_cases h10:u<10
              · exact ⟨0,by rw [Nat.pow_zero]; exact hu,by rw [Nat.zero_add,Nat.pow_one]; exact h10⟩
              · obtain ⟨k,h1,h2⟩:=ih (u / 10) (by omega) (by omega)
                refine ⟨k+1,?_,?_⟩
                · rw [Nat.pow_succ]; omega
                · rw [Nat.pow_succ]; omega
          have:=nDigits_unique k u hk1 hk2
          rw [this] at h3
          simp at h3
          omega
      · exact h3
    have h4:10 ^ 18≤10 ^ (nDigits u - 1):=Nat.pow_le_pow_right (by decide) (by omega)
    have:(10:Nat) ^ 18=1000000000000000000:=by decide
    omega
  · exact h1
def NumT (l:List UInt8) (v:Int) : Prop:=itoa v=l ∧ -1000000000000000000<v∧v<1000000000000000000
theorem trim_neg (l:List UInt8) : trimPrefix (45::l) [45]=l:=by
  simp [trimPrefix,hasPrefix,List.isPrefixOf]
theorem trim_pos {l:List UInt8} (h:∀ c,l.head? = some c→c≠45) : trimPrefix l [45]=l:=by
  cases l with
  | nil=>rfl
  | cons b l =>
    have hb:=h b rfl
    simp [trimPrefix,hasPrefix,List.isPrefixOf,Ne.symm hb]
theorem itoa_trim (v:Int) : trimPrefix (itoa v) [45]=decDigits v.natAbs:=by
  unfold itoa
  split
  · exact trim_neg _
  · rw [show v.toNat=v.natAbs by omega]
    refine trim_pos fun c hc e => ?_
    have:=dec_digits v.natAbs c (List.mem_of_mem_head? hc)
    rw [e] at this
    revert this
    decide
theorem itoa_parse {v:Int} (h0 : -1000000000000000000<v) (h1:v<1000000000000000000) : parseIntB 64 (itoa v)=.ok v:=by
  have hp:parseUintB 64 (decDigits v.natAbs)=.ok v.natAbs:=by
    rw [parseUintB,if_neg (dec_ne _)]
    exact parseM_dec _ (by decide) 17 _ (by show v.natAbs<1000000000000000000; omega) (by omega)
  unfold itoa
  split
  · rename_i hn
    simp only [parseIntB]
    rw [if_pos (.inr (by decide)),hp]
    dsimp only
    rw [if_neg (by simp),if_neg (by simp; omega),if_pos (by decide)]
    congr 1
    omega
  · rename_i hn
    rw [show v.toNat=v.natAbs by omega]
    cases hc:decDigits v.natAbs with
    | nil=>exact absurd hc (dec_ne _)
    | cons c r =>
      have hd:=dec_digits v.natAbs c (by rw [hc]; simp)
      simp only [parseIntB]
      rw [if_neg (by omega),← hc,hp]
      dsimp only
      rw [if_neg (by simp; omega),if_neg (by omega),if_neg (by omega)]
      congr 1
      omega
theorem numD_iff (l:List UInt8) (v:Int) : numD l=(v,true)↔NumT l v:=by
  constructor
  · intro h
    unfold numD at h
    split at h
    · cases h
    · rename_i h18
      split at h
      · simp only [Prod.mk.injEq,decide_eq_true_eq] at h
        obtain ⟨rfl,h2⟩:=h
        rw [← h2,itoa_trim] at h18
        have:=dec_lt (u:=(_:Int).natAbs) (Nat.le_of_not_lt h18)
        exact ⟨h2,by omega,by omega⟩
      · cases h
      · cases h
  · rintro ⟨rfl,h0,h1⟩
    unfold numD
    rw [itoa_trim,if_neg (Nat.not_lt.2 (dec_len (by omega))),itoa_parse h0 h1]
    simp
def numO (l:List UInt8) : Option Int:=if (numD l).2 then some (numD l).1 else none
theorem numO_iff (l:List UInt8) (v:Int) : numO l=some v↔NumT l v:=by
  rw [← numD_iff]
  unfold numO
  generalize numD l=p
  obtain ⟨a,b⟩:=p
  cases b <;> simp
theorem itoa_no {v:Int} {c:UInt8} (h:c∈itoa v) : c≠32:=by
  unfold itoa at h
  split at h
  · rcases List.mem_cons.1 h with rfl | h
    · decide
    · intro e
      have:=dec_digits _ c h
      rw [e] at this
      revert this
      decide
  · intro e
    have:=dec_digits _ c h
    rw [e] at this
    revert this
    decide
end Go.Aw

namespace Go.Aw
set_option linter.unusedSimpArgs false
set_option linter.unusedVariables false
open Go.Lib

def splitW:List UInt8→List (List UInt8)
  | []=>[[]]
  | b::l=>if b=32 then []::splitW l else match splitW l with
    | []=>[[b]]
    | w::ws=>(b::w)::ws
def wsOf (m:Bool) (t:List UInt8) : List (List UInt8):=if m then splitW t else []
theorem splitW_cut:∀ t:List UInt8,splitW t=(cut1 32 t).1::wsOf (cut1 32 t).2.2 (cut1 32 t).2.1
  | []=>rfl
  | b::l=>by
    by_cases hb:b=32
    · simp [splitW,cut1,hb,wsOf]
    · simp only [splitW,cut1,hb,if_false]
      rw [splitW_cut l]
def rdW:Nat→List (List UInt8)→Option (List Int × List (List UInt8))
  | 0,ws=>some ([],ws)
  | _+1,[]=>none
  | n+1,w::ws=>match numO w with
    | none=>none
    | some v=>(rdW n ws).map fun r=>(v::r.1,r.2)
theorem rdNums_W:∀ (n:Nat) (m:Bool) (t:List UInt8),(rdNums n m t).map (fun r=>(r.1,wsOf r.2.1 r.2.2))=rdW n (wsOf m t)
  | 0,m,t=>rfl
  | n+1,false,t=>rfl
  | n+1,true,t=>by
    have e:wsOf true t=splitW t:=rfl
    rw [e,splitW_cut]
    simp only [rdNums,rdW,numO,if_true]
    split
    · rename_i h
      dsimp only
      rw [← rdNums_W n (cut1 32 t).2.2 (cut1 32 t).2.1,Option.map_map,Option.map_map]
      rfl
    · rfl
def parseW:Nat→List (List UInt8)→Option (List Nd)
  | 0,_=>none
  | _+1,[]=>some []
  | k+1,w::ws=>match wordIx w with
    | none=>none
    | some i=>match rdW (numsN (i+1)) ws with
      | none=>none
      | some r=>(parseW k r.2).map (mkNd (i+1) r.1::·)
theorem parseN_W:∀ (k:Nat) (m:Bool) (t:List UInt8),parseN k m t=parseW k (wsOf m t)
  | 0,m,t=>rfl
  | k+1,false,t=>rfl
  | k+1,true,t=>by
    have e:wsOf true t=splitW t:=rfl
    rw [e,splitW_cut]
    simp only [parseN,parseW]
    cases wordIx (cut1 32 t).1 with
    | none=>rfl
    | some i =>
      dsimp only
      rw [← rdNums_W]
      cases rdNums (numsN (i+1)) (cut1 32 t).2.2 (cut1 32 t).2.1 with
      | none=>rfl
      | some r =>
        obtain ⟨vs,m',t'⟩:=r
        simp only [Option.map_some]
        rw [parseN_W k m' t']
theorem parseL_W (t:List UInt8) : parseL t=parseW (t.length+2) (splitW t):=parseN_W _ true t
def nodeW (n:Nd) : List (List UInt8):=wordL.getD (n.op.toNat - 1) []::(if n.op=2 then [itoa n.l,itoa n.r,itoa n.k] else if n.op=6∨n.op=7∨n.op=8 then [itoa n.lo,itoa n.hi] else [])
def joinW:List (List UInt8)→List UInt8
  | []=>[]
  | [w]=>w
  | w::x::ws=>w++32::joinW (x::ws)
def textL (f:List Nd) : List UInt8:=joinW (f.flatMap nodeW)
theorem splitW_word:∀ {w:List UInt8} (r:List UInt8),(∀ c,c∈w→c≠32)→splitW (w++32::r)=w::splitW r
  | [],r,_=>by simp [splitW]
  | b::w,r,h=>by
    have ih:=splitW_word (w:=w) r fun c hc=>h c (by simp [hc])
    simp only [List.cons_append,splitW,if_neg (h b (by simp)),ih]
theorem splitW_last:∀ {w:List UInt8},(∀ c,c∈w→c≠32)→splitW w=[w]
  | [],_=>rfl
  | b::w,h=>by
    have ih:=splitW_last (w:=w) fun c hc=>h c (by simp [hc])
    simp only [splitW,if_neg (h b (by simp)),ih]
theorem split_join:∀ (ws:List (List UInt8)),ws≠[]→(∀ w,w∈ws→∀ c,c∈w→c≠32)→splitW (joinW ws)=ws
  | [],h,_=>absurd rfl h
  | [w],_,h=>splitW_last (h w (by simp))
  | w::x::ws,_,h=>by
    rw [joinW,splitW_word _ (h w (by simp)),split_join (x::ws) (by simp) fun y hy=>h y (List.mem_cons_of_mem _ hy)]
theorem word_no (i:Nat) : ∀ c,c∈wordL.getD i []→c≠32:=by
  have h:∀ w,w∈wordL→∀ c,c∈w→c≠32:=by decide
  intro c hc
  rw [List.getD_eq_getElem?_getD] at hc
  cases hw:wordL[i]? with
  | none=>rw [hw] at hc; simp at hc
  | some w=>rw [hw] at hc; exact h w (List.mem_of_getElem? hw) c hc
theorem nodeW_no (n:Nd) : ∀ w,w∈nodeW n→∀ c,c∈w→c≠32:=by
  intro w hw c hc
  rcases List.mem_cons.1 hw with rfl | hw
  · exact word_no _ c hc
  · split at hw
    · simp only [List.mem_cons,List.not_mem_nil,or_false] at hw
      rcases hw with rfl | rfl | rfl <;> exact itoa_no hc
    · split at hw
      · simp only [List.mem_cons,List.not_mem_nil,or_false] at hw
        rcases hw with rfl | rfl <;> exact itoa_no hc
      · simp at hw
theorem flatW_ne {f:List Nd} (h:f≠[]) : f.flatMap nodeW≠[]:=by
  cases f with
  | nil=>exact absurd rfl h
  | cons n f=>simp [nodeW]
theorem wordIx_get {i:Nat} (h:i<8) : wordIx (wordL.getD i [])=some i:=by
  have:∀ i:_root_.Fin 8,wordIx (wordL.getD i.val [])=some i.val:=by decide
  exact this ⟨i,h⟩
def smallI (v:Int) : Prop:=-1000000000000000000<v∧v<1000000000000000000
theorem numO_itoa {v:Int} (h:smallI v) : numO (itoa v)=some v:=(numO_iff _ _).2 ⟨rfl,h.1,h.2⟩
def writN (n:Nd) : Prop:=opOk n∧bare n=n∧smallI n.l∧smallI n.r∧smallI n.k∧smallI n.lo∧smallI n.hi
theorem writN_of {n:Nd} (h:nodeE n 12=0) : writN n:=by
  have h0:=okN_of h
  have h1:=h0.1
  obtain ⟨op,l,r,k,lo,hi⟩:=n
  unfold nodeE at h
  split at h
  · cases h
  · split at h
    · cases h
    · split at h
      · rename_i _ h2 h3
        have h2:=Decidable.not_not.1 h2
        refine ⟨h1,h2,?_⟩
        unfold okN opOk at h0
        dsimp only at h0
        simp only [fairN] at h3
        simp only [bare] at h2
        unfold smallI
        dsimp only
        by_cases e2:op=2
        · subst e2
          simp at h2 h3
          omega
        · simp only [e2,if_false] at h2
          split at h2 <;> (simp only [Nd.mk.injEq] at h2; omega)
      · cases h
theorem parse_step {n:Nd} (h:writN n) (k:Nat) (ws:List (List UInt8)) : parseW (k+1) (nodeW n++ws)=(parseW k ws).map (n::·):=by
  obtain ⟨op,l,r,k',lo,hi⟩:=n
  obtain ⟨h1,h2,sl,sr,sk,slo,shi⟩:=h
  unfold opOk at h1
  dsimp only at h1 sl sr sk slo shi
  obtain ⟨i,hi8,rfl⟩ : ∃ i:Nat,i<8∧op=((i+1:Nat) : Int):=⟨op.toNat - 1,by omega,by omega⟩
  simp only [nodeW,List.cons_append,parseW]
  rw [show (((i+1:Nat) : Int)).toNat - 1=i by omega,wordIx_get hi8]
  simp only [bare] at h2
  dsimp only
  rcases show i=0∨i=1∨i=2∨i=3∨i=4∨i=5∨i=6∨i=7 by omega with rfl | rfl | rfl | rfl | rfl | rfl | rfl | rfl
  all_goals (simp at h2; simp [numsN,rdW,mkNd,numO_itoa,sl,sr,sk,slo,shi])
  all_goals first
    | done
    | (obtain ⟨rfl,rfl,rfl,rfl,rfl⟩:=h2; rfl)
    | (obtain ⟨rfl,rfl,rfl⟩:=h2; rfl)
    | (obtain ⟨rfl,rfl⟩:=h2; rfl)
theorem parse_nodes:∀ (f:List Nd) (k:Nat),(∀ n,n∈f→writN n)→f.length<k→parseW k (f.flatMap nodeW)=some f
  | f,0,_,h=>by omega
  | [],k+1,_,_=>rfl
  | n::f,k+1,hw,h=>by
    rw [List.flatMap_cons,parse_step (hw n (by simp)),parse_nodes f k (fun m hm=>hw m (by simp [hm])) (by simp at h; omega)]
    rfl
theorem parse_text {f:List Nd} (hf:f≠[]) (hw:∀ n,n∈f→writN n) : parseL (textL f)=some f:=by
  have hs:splitW (textL f)=f.flatMap nodeW:=split_join _ (flatW_ne hf) fun w hw2=>by
    obtain ⟨n,_,hn⟩:=List.mem_flatMap.1 hw2
    exact nodeW_no n w hn
  rw [parseL_W,hs]
  have hl:(f.flatMap nodeW).length≤(textL f).length+1:=by
    rw [← hs]
    have:∀ t:List UInt8,(splitW t).length≤t.length+1:=by
      intro t
      induction t with
      | nil=>simp [splitW]
      | cons b l ih =>
        simp only [splitW]
        split
        · simp; omega
        · cases hq:splitW l with
          | nil=>simp
          | cons w ws=>rw [hq] at ih; simp at ih ⊢; omega
    exact this _
  have hfl:f.length≤(f.flatMap nodeW).length:=by
    clear hl hs hw hf
    induction f with
    | nil=>simp
    | cons n f ih =>
      rw [List.flatMap_cons,List.length_append,List.length_cons]
      have:1≤(nodeW n).length:=by simp [nodeW]
      omega
  exact parse_nodes f _ hw (by omega)
end Go.Aw

namespace Go.Aw
set_option linter.unusedSimpArgs false
set_option linter.unusedVariables false
open Go.RowKit Go.Proofs
set_option maxRecDepth 100000

def zcells (vs:List Int) : List V:=(vs.map fun v=>V.d (.int .i64 v))++List.replicate (3 - vs.length) (.d (.int .i64 0))
theorem zcells_len {vs:List Int} (h:vs.length≤3) : (zcells vs).length=3:=by simp [zcells]; omega
theorem zcells_set {vs:List Int} (h:vs.length<3) (v:Int) : (if vs.length*1=0∧1=(zcells vs).length then [.d (.int .i64 v)] else (zcells vs).take (vs.length*1)++.d (.int .i64 v)::(zcells vs).drop (vs.length*1+1))=zcells (vs++[v]):=by
  match vs,h with
  | [],_=>rfl
  | [_],_=>rfl
  | [_,_],_=>rfl
def wordsA:List V:=wordL.map fun l=>V.d (.str (bs l))
theorem wordsA_len:wordsA.length=8:=rfl
theorem wordsA_get {i:Nat} (h:i<8) : wordsA.getD i .junk=.d (.str (bs (wordL.getD i []))):=by
  rcases show i=0∨i=1∨i=2∨i=3∨i=4∨i=5∨i=6∨i=7 by omega with rfl | rfl | rfl | rfl | rfl | rfl | rfl | rfl <;> rfl
theorem p59a:PD Tryz.prog 105 [] (.agg wordsA):=p59
theorem wordIx_none {w:List UInt8} (h:∀ j,j<8→wordL.getD j []≠w) : wordIx w=none:=by
  unfold wordIx
  rw [List.findIdx?_eq_none_iff]
  intro x hx
  obtain ⟨j,hj⟩:=List.getElem?_of_mem hx
  have hj8:j<8:=(List.getElem?_eq_some_iff.1 hj).1
  have:=h j hj8
  rw [List.getD_eq_getElem?_getD,hj] at this
  simpa using this
theorem wordIx_some {w:List UInt8} {i:Nat} (hi:i<8) (h:wordL.getD i []=w) : wordIx w=some i:=by rw [← h]; exact wordIx_get hi
def prsV (l:List UInt8) (t:Fm) : List Nd × Int:=match parseL l with
  | none=>([],3)
  | some f=>if chkE f 12 t=0 then (f,0) else ([],chkE f 12 t)
theorem numsN_le (op:Nat) : numsN op≤3:=by unfold numsN; split <;> (try split) <;> omega
theorem p60n {i:Nat} (hi:i<8) : PD Tryz.prog 106 [.int .i64 ((i:Int)+1)] (.d (.int .i64 (numsN (i+1) : Nat))):=by
  have h:=p60 ((i:Int)+1)
  have e:(if (i:Int)+1=2 then 3 else if (i:Int)+1=6∨(i:Int)+1=7∨(i:Int)+1=8 then 2 else 0)=((numsN (i+1) : Nat) : Int):=by
    rcases show i=0∨i=1∨i=2∨i=3∨i=4∨i=5∨i=6∨i=7 by omega with rfl | rfl | rfl | rfl | rfl | rfl | rfl | rfl <;> rfl
  rwa [e] at h
@[push_cast] theorem words_sh (n:Nat) : V.shL n wordsA=wordsA:=rfl
@[push_cast] theorem words_ren (r:List Nat) : V.renL r wordsA=wordsA:=rfl
@[push_cast] theorem words_bel (n:Nat) : V.belL n wordsA=true:=rfl
theorem zc_ren (r:List Nat) (vs:List Int) : V.renL r (zcells vs)=zcells vs:=by
  have h:∀ xs:List V,(∀ x,x∈xs→∃ d,x=.d d)→V.renL r xs=xs:=by
    intro xs
    induction xs with
    | nil=>intro _; rfl
    | cons x xs ih =>
      intro h
      obtain ⟨d,rfl⟩:=h x (by simp)
      simp only [V.renL,V.ren,ih fun y hy=>h y (by simp [hy])]
  refine h _ fun x hx => ?_
  rcases List.mem_append.1 hx with hx | hx
  · obtain ⟨v,_,rfl⟩:=List.mem_map.1 hx
    exact ⟨_,rfl⟩
  · exact ⟨_,(List.mem_replicate.1 hx).2⟩
theorem zc_bel (n:Nat) (vs:List Int) : V.belL n (zcells vs)=true:=by
  have h:∀ xs:List V,(∀ x,x∈xs→∃ d,x=.d d)→V.belL n xs=true:=by
    intro xs
    induction xs with
    | nil=>intro _; rfl
    | cons x xs ih =>
      intro h
      obtain ⟨d,rfl⟩:=h x (by simp)
      simp only [V.belL,V.bel,ih fun y hy=>h y (by simp [hy]),Bool.and_self]
  refine h _ fun x hx => ?_
  rcases List.mem_append.1 hx with hx | hx
  · obtain ⟨v,_,rfl⟩:=List.mem_map.1 hx
    exact ⟨_,rfl⟩
  · exact ⟨_,(List.mem_replicate.1 hx).2⟩
attribute [push_cast] zc_ren zc_bel
theorem prs_none {l:List UInt8} (h:parseL l=none) (t:Fm) (H:List Blk) : DeepV H (.tup [.nil,.d (.int .i64 3)]) (.tup [.d (.sl ((prsV l t).1.map encNd)),.d (.int .i64 (prsV l t).2)]):=by
  simp only [prsV,h]
  exact DeepV.tups (DeepV.cons .nil (DeepV.cons (DeepV.dd _) DeepV.nils))
set_option maxHeartbeats 4000000 in
theorem p37 (l:List UInt8) (t:Fm) (hl:l.length≤100000) (ht:∀ f,parseL l=some f→shE f 12=0→t.wf∧f=t.flat) :
    PD Tryz.prog 76 [.str (bs l)] (.tup [.d (.sl ((prsV l t).1.map encNd)),.d (.int .i64 (prsV l t).2)]):=by
  have h59:=p59a
  refine pdv_of (fn:=Tryz.f76) [.tmp 2,.tmp 3] (by kernel_rfl) rfl (by kernel_rfl) (Nat.le_of_ble_eq_true rfl) (by kernel_rfl) rfl ?_
  refine awp_seq ?_
  refine wRg ?_
  refine awp_scope ?_
  refine awp_seq ?_
  refine wRg ?_
  refine awp_seq ?_
  refine wRg ?_
  refine awp_seq ?_
  refine awp_label ?_
  refine awp_seq ?_
  refine awp_virt 4 6 (by simp only [push_cast,seval]) ?_
  refine awp_block ?_
  refine awp_loopP (α:=Nat × Bool × List UInt8 × List Nd) (st:=fun x=>⟨[(0,.d (.str (bs x.2.2.1))),(4,.ref 0 0 x.2.2.2.length),(5,.d (.bool x.2.1))],[.data 6 (x.2.2.2.map encNd)]⟩)
    (inv:=fun x=>parseL l=(parseN x.1 x.2.1 x.2.2.1).map (x.2.2.2++·)∧(if x.2.1 then x.2.2.1.length+1 else 0)<x.1∧x.2.2.1.length≤1000000∧x.2.2.2.length+x.1=l.length+2) (μ:=fun x=>x.1) (x0:=(l.length+2,true,l,[])) (r0:=[0]) ?_ ?_ ?_
  · exact ⟨by simp [parseL],by simp,by show l.length≤1000000; omega,by simp⟩
  · exact wRen
  rintro ⟨k,m,tx,f⟩ ⟨hp,hk,htl,hfl⟩
  dsimp only at hp hk htl hfl ⊢
  have hq:∀ row,row∈f.map encNd→row.length=6:=fun row hr=>by obtain ⟨_,_,rfl⟩:=List.mem_map.1 hr; rfl
  refine awp_seq ?_
  refine awp_seq ?_
  refine wRg ?_
  refine wCd ?_ ?_
  · intro hm; replace hm:=wHb hm
    subst hm
    obtain ⟨k,rfl⟩ : ∃ k',k=k'+1:=⟨k - 1,by omega⟩
    refine awp_skip ?_
    refine awp_block ?_
    refine awp_seq ?_
    refine wRg ?_
    refine awp_seq ?_
    have h65:=p65 tx 32 (by omega)
    have hcl:=cut1_len 32 tx
    simp only [parseN] at hp
    generalize (cut1 32 tx).1=w at *
    generalize (cut1 32 tx).2.1=tx1 at *
    generalize (cut1 32 tx).2.2=m1 at *
    refine awpF_region ?_; intro K hK; simp only [push_cast,seval]
    refine CallK.pd (h65) ?_; refine wXo ?_
    refine hK _ ?_; clear hK K
    refine awp_seq ?_
    refine awp_seq ?_
    refine awpF_region ?_; intro K hK; simp only [push_cast,seval]
    refine CallK.pd (h59) ?_; refine wXo ?_
    refine hK _ ?_; clear hK K
    refine awp_block ?_
    refine awp_loopP (α:=Nat) (st:=fun i=>⟨[(0,.d (.str (bs tx1))),(4,.ref 0 0 f.length),(5,.d (.bool m1)),(6,.d (.str (bs w))),(21,.agg wordsA),(22,.d (.int .i64 i))],[.data 6 (f.map encNd)]⟩)
      (inv:=fun i=>i≤8∧∀ j,j<i→wordL.getD j []≠w) (μ:=fun i=>8 - i) (x0:=0) (r0:=[0]) ?_ ?_ ?_
    · exact ⟨by omega,fun j hj=>by omega⟩
    · exact wRen
    rintro i ⟨hi,hno⟩
    refine awp_seq ?_
    refine wRg ?_
    refine awp_seq ?_
    refine wCd ?_ ?_
    · intro h1; replace h1:=wHb h1
      have hi8:i<8:=by omega
      have hwl:=wordsA_len
      have hwg:=wordsA_get hi8
      refine awp_skip ?_
      refine awp_seq ?_
      refine awp_block ?_
      refine awp_seq ?_
      refine awpF_region ?_; intro K hK; simp only [push_cast,seval,hwg,Int.toNat_natCast,wordsA_len]; refine wKk hK ?_; clear hK K
      refine awp_seq ?_
      refine awp_seq ?_
      refine awpF_region ?_; intro K hK; simp only [push_cast,seval,bs_inj,bne]; refine wKk hK ?_; clear hK K
      refine wCd ?_ ?_
      · intro h2; replace h2:=wHb h2
        refine wEx ?_
        refine wRg ?_
        refine round_endG (i+1) ([0]) ⟨by omega,⟨by omega,fun j hj => ?_⟩,?_⟩
        · rcases Nat.lt_or_ge j i with h3 | h3
          · exact hno j h3
          · obtain rfl:j=i:=by omega
            simpa using h2
        · push_cast
          exact wRen
      · intro h2; replace h2:=wHb h2
        have h2':wordL.getD i []=w:=by simpa using h2
        have hix:=wordIx_some hi8 h2'
        rw [hix] at hp
        dsimp only at hp
        have h60:=p60n hi8
        have hn3:=numsN_le (i+1)
        generalize hN:numsN (i+1)=N at *
        push_cast at h60
        refine awp_skip ?_
        refine awp_seq ?_
        refine wRg ?_
        refine awp_seq ?_
        refine wRg ?_
        refine awp_seq ?_
        refine awp_seq ?_
        refine awpF_region ?_; intro K hK; simp only [push_cast,seval]
        refine CallK.pd (h60) ?_; refine wXo ?_
        refine hK _ ?_; clear hK K
        refine awp_block ?_
        refine awp_loopP (α:=Nat × Bool × List UInt8 × List Int) (st:=fun x=>⟨[(0,.d (.str (bs x.2.2.1))),(4,.ref 0 0 f.length),(5,.d (.bool x.2.1)),(9,.ptr 1 0 0),(10,.ptr 2 0 0),(34,.d (.int .i64 N)),(35,.d (.int .i64 x.1))],
            [.data 6 (f.map encNd),.cells [.d (.int .i64 ((i:Int)+1)),.d (.int .i64 0),.d (.int .i64 0),.d (.int .i64 0),.d (.int .i64 0),.d (.int .i64 0)],.cells (zcells x.2.2.2)]⟩)
          (inv:=fun x=>x.1≤N∧x.2.2.2.length=x.1∧rdNums N m1 tx1=(rdNums (N - x.1) x.2.1 x.2.2.1).map (fun r=>(x.2.2.2++r.1,r.2))∧x.2.2.1.length≤tx1.length∧(x.2.1=true→m1=true)) (μ:=fun x=>N - x.1) (x0:=(0,m1,tx1,[])) (r0:=[0,1,2]) ?_ ?_ ?_
        · exact ⟨Nat.zero_le _,rfl,by simp,Nat.le_refl _,fun h=>h⟩
        · rw [show zcells []=[.d (.int .i64 0),.d (.int .i64 0),.d (.int .i64 0)] from rfl]
          exact wRen
        rintro ⟨j,m2,tx2,vs⟩ ⟨hj,hvl,hrd,ht2,hm2⟩
        dsimp only at hj hvl hrd ht2 hm2 ⊢
        subst hvl
        refine awp_seq ?_
        refine wRg ?_
        refine awp_seq ?_
        refine wCd ?_ ?_
        · intro h3; replace h3:=wHb h3
          have hlt:vs.length<N:=by omega
          obtain ⟨n',hn'⟩ : ∃ n',N - vs.length=n'+1:=⟨N - vs.length - 1,by omega⟩
          rw [hn'] at hrd
          simp only [rdNums] at hrd
          refine awp_skip ?_
          refine awp_seq ?_
          refine awp_block ?_
          refine awp_seq ?_
          refine wRg ?_
          refine awp_seq ?_
          refine awp_seq ?_
          refine wRg ?_
          refine wCd ?_ ?_
          · intro h4; replace h4:=wHb h4
            refine awp_seq ?_
            refine wRg ?_
            refine wRet ?_
            have hm2f:m2=false:=by simpa using h4
            subst hm2f
            exact prs_none (by rw [hp,hrd]; rfl) t _
          · intro h4; replace h4:=wHb h4
            have hm2t:m2=true:=by simpa using h4
            subst hm2t
            rw [if_pos rfl] at hrd
            refine awp_skip ?_
            refine awp_seq ?_
            refine wRg ?_
            refine awp_seq ?_
            have h65b:=p65 tx2 32 (by omega)
            have hcl2:=cut1_len 32 tx2
            generalize (cut1 32 tx2).1=w2 at *
            generalize (cut1 32 tx2).2.1=tx3 at *
            generalize (cut1 32 tx2).2.2=m3 at *
            have h66:=p66 w2 (by omega)
            refine awpF_region ?_; intro K hK; simp only [push_cast,seval]
            refine CallK.pd (h65b) ?_; refine wXo ?_
            refine hK _ ?_; clear hK K
            refine awp_seq ?_
            have hz3:=zcells_len (vs:=vs) (by omega)
            have hzs:=zcells_set (vs:=vs) (by omega) (numD w2).1
            refine awpF_region ?_; intro K hK; simp only [push_cast,seval]
            refine CallK.pd (h66) ?_; refine wXo ?_
            refine hK _ ?_; clear hK K
            refine awp_seq ?_
            refine awpF_region ?_; intro K hK; simp only [push_cast,seval,hzs]; refine wKk hK ?_; clear hK K
            refine wCd ?_ ?_
            · intro h5; replace h5:=wHb h5
              refine awp_seq ?_
              refine wRg ?_
              refine wRet ?_
              have h5':(numD w2).2=false:=by simpa using h5
              exact prs_none (by rw [hp,hrd,h5']; rfl) t _
            · intro h5; replace h5:=wHb h5
              have h5':(numD w2).2=true:=by simpa using h5
              rw [h5',if_pos rfl] at hrd
              refine awp_skip ?_
              refine inblock_norm ?_
              refine awpF_region ?_; intro K hK; simp only [push_cast,seval,hzs]; refine wKk hK ?_; clear hK K
              refine round_endG (vs.length+1,m3,tx3,vs++[(numD w2).1]) ([0,1,2]) ⟨by show N - (vs.length+1)<N - vs.length; omega,⟨by show vs.length+1≤N; omega,by simp,?_,by show tx3.length≤tx1.length; omega,fun _=>hm2 rfl⟩,?_⟩
              · dsimp only
                rw [hrd,show N - (vs.length+1)=n' by omega,Option.map_map]
                refine congrArg (fun g=>Option.map g _) (funext fun r => ?_)
                simp
              · dsimp only
                push_cast
                exact wRen
        · intro h3; replace h3:=wHb h3
          have hNl:vs.length=N:=by omega
          rw [show N - vs.length=0 by omega] at hrd
          have hrd':rdNums N m1 tx1=some (vs,m2,tx2):=by rw [hrd]; simp [rdNums]
          rw [hrd'] at hp
          dsimp only at hp
          refine wEx ?_
          refine awp_mid (fun u=>u=⟨[(0,.d (.str (bs tx2))),(4,.ref 0 0 f.length),(5,.d (.bool m2)),(9,.ptr 1 0 0)],[.data 6 (f.map encNd),.cells ((encNd (mkNd (i+1) vs)).map .d)]⟩) ?_ ?_
          · refine awp_seq ?_
            refine wRg ?_
            refine wCd ?_ ?_
            · intro h6; replace h6:=wHb h6
              obtain rfl:i=1:=by simp at h6; omega
              obtain rfl:N=3:=hN.symm
              match vs,hNl with
              | [a,b,c],_ =>
                refine awpF_drawM [0,1,2,4,6] [] (DT.or (DT.op 3 (DT.or (DT.op 5 (DT.op 7 (DT.op 8 (DT.op 9 (DT.op 10 (DT.op 11 DT.nil)))))) (DT.op 7 (DT.op 8 (DT.or (DT.op 5 (DT.op 9 (DT.op 10 (DT.op 11 DT.nil)))) (DT.op 9 (DT.op 5 (DT.op 10 (DT.op 11 DT.nil))))))))) (DT.or (DT.op 5 (DT.or (DT.op 3 (DT.op 7 (DT.op 8 (DT.op 9 (DT.op 10 (DT.op 11 DT.nil)))))) (DT.op 7 (DT.op 3 (DT.op 8 (DT.op 9 (DT.op 10 (DT.op 11 DT.nil)))))))) (DT.op 7 (DT.op 3 (DT.op 8 (DT.or (DT.op 5 (DT.op 9 (DT.op 10 (DT.op 11 DT.nil)))) (DT.op 9 (DT.op 5 (DT.op 10 (DT.op 11 DT.nil)))))))))) (by kernel_rfl) (by kernel_rfl) (by kernel_rfl) ?_; intro K hK; simp only [push_cast,seval,zcells]
                refine wOb ?_
                refine hK _ ?_; clear hK K
                refine mid_end ([0,1]) _ rfl ?_
                simp only [mkNd,encNd,List.map_cons,List.map_nil]
                exact wRen
            · intro h6; replace h6:=wHb h6
              have h6':i+1≠2:=fun e=>by
                rw [show (i:Int)+1=2 by omega] at h6
                cases h6
              have hmk:mkNd (i+1) vs=⟨(i+1:Nat),0,0,0,vs.getD 0 0,vs.getD 1 0⟩:=by rw [mkNd,if_neg h6']
              rw [hmk]
              have hN02:N=0∨N=2:=by
                rw [← hN]
                unfold numsN
                rw [if_neg h6']
                split
                · exact .inr rfl
                · exact .inl rfl
              rcases hN02 with rfl | rfl
              · match vs,hNl with
                | [],_ =>
                  refine awpF_drawM [0,1,2,4] [] (DT.or (DT.op 3 (DT.op 5 (DT.op 6 (DT.op 7 DT.nil)))) (DT.op 5 (DT.op 3 (DT.op 6 (DT.op 7 DT.nil))))) (by kernel_rfl) (by kernel_rfl) (by kernel_rfl) ?_; intro K hK; simp only [push_cast,seval,zcells]
                  refine wOb ?_
                  refine hK _ ?_; clear hK K
                  refine mid_end ([0,1]) _ rfl ?_
                  simp only [encNd,List.map_cons,List.map_nil,List.getD_nil]
                  push_cast
                  exact wRen
              · match vs,hNl with
                | [a,b],_ =>
                  refine awpF_drawM [0,1,2,4] [] (DT.or (DT.op 3 (DT.op 5 (DT.op 6 (DT.op 7 DT.nil)))) (DT.op 5 (DT.op 3 (DT.op 6 (DT.op 7 DT.nil))))) (by kernel_rfl) (by kernel_rfl) (by kernel_rfl) ?_; intro K hK; simp only [push_cast,seval,zcells]
                  refine wOb ?_
                  refine hK _ ?_; clear hK K
                  refine mid_end ([0,1]) _ rfl ?_
                  simp only [encNd,List.map_cons,List.map_nil,List.getD_cons_zero,List.getD_cons_succ]
                  push_cast
                  exact wRen
          rintro _ rfl
          have htk:List.take f.length (f.map encNd)=f.map encNd:=List.take_of_length_le (by simp)
          generalize hnd:mkNd (i+1) vs=nd at *
          have hen:encNd nd=[.int .i64 nd.op,.int .i64 nd.l,.int .i64 nd.r,.int .i64 nd.k,.int .i64 nd.lo,.int .i64 nd.hi]:=rfl
          rw [hen]
          simp only [List.map_cons,List.map_nil]
          refine awp_seq ?_
          refine awpF_region ?_; intro K hK; simp only [push_cast,seval,htk]; refine wKk hK ?_; clear hK K
          refine wEx ?_
          refine round_endG (k,m2,tx2,f++[nd]) ([0]) ⟨Nat.lt_succ_self k,⟨?_,?_,by show tx2.length≤1000000; omega,by show (f++[nd]).length+k=l.length+2; rw [List.length_append,List.length_singleton]; omega⟩,?_⟩
          · dsimp only
            rw [hp,Option.map_map]
            refine congrArg (fun g=>Option.map g _) (funext fun r => ?_)
            simp
          · dsimp only
            by_cases hm:m2=true
            · rw [if_pos hm]
              have:=hcl.2.2 (hm2 hm)
              rw [if_pos rfl] at hk
              omega
            · rw [if_neg hm]
              rw [if_pos rfl] at hk
              omega
          · simp only [List.map_append,List.map_cons,List.map_nil,List.length_append,List.length_cons,List.length_nil]
            rw [hen]
            exact wRen
    · intro h1; replace h1:=wHb h1
      obtain rfl:i=8:=by omega
      refine wEx ?_
      refine awp_seq ?_
      refine wRg ?_
      refine wRet ?_
      exact prs_none (by rw [hp,wordIx_none hno]; rfl) t _
  · intro hm; replace hm:=wHb hm
    subst hm
    obtain ⟨k,rfl⟩ : ∃ k',k=k'+1:=⟨k - 1,by simp at hk; omega⟩
    have hpl:parseL l=some f:=by rw [hp]; simp [parseN]
    have h16:=p16 f 12 t (by omega) (ht f hpl)
    refine wEx ?_
    refine awp_seq ?_
    refine awp_seq ?_
    have htk:List.take f.length (f.map encNd)=f.map encNd:=List.take_of_length_le (by simp)
    refine awpF_region ?_; intro K hK; simp only [push_cast,seval,htk]
    refine CallK.pd (h16) ?_; refine wXo ?_
    refine hK _ ?_; clear hK K
    by_cases hc:chkE f 12 t=0
    · have e:prsV l t=(f,0):=by simp only [prsV,hpl,if_pos hc]
      rw [e,hc]
      (repeat' (first | refine awp_seq ?_ | refine awp_skip ?_ | refine awp_block ?_ | ((first | (refine awpF_region ?_; intro K hK) | (refine awpF_drawM (id:=24) [0,1,2,4,6] [] (DT.or (DT.op 3 (DT.or (DT.op 5 (DT.op 7 (DT.op 8 (DT.op 9 (DT.op 10 (DT.op 11 DT.nil)))))) (DT.op 7 (DT.op 8 (DT.or (DT.op 5 (DT.op 9 (DT.op 10 (DT.op 11 DT.nil)))) (DT.op 9 (DT.op 5 (DT.op 10 (DT.op 11 DT.nil))))))))) (DT.or (DT.op 5 (DT.or (DT.op 3 (DT.op 7 (DT.op 8 (DT.op 9 (DT.op 10 (DT.op 11 DT.nil)))))) (DT.op 7 (DT.op 3 (DT.op 8 (DT.op 9 (DT.op 10 (DT.op 11 DT.nil)))))))) (DT.op 7 (DT.op 3 (DT.op 8 (DT.or (DT.op 5 (DT.op 9 (DT.op 10 (DT.op 11 DT.nil)))) (DT.op 9 (DT.op 5 (DT.op 10 (DT.op 11 DT.nil)))))))))) (by kernel_rfl) (by kernel_rfl) (by kernel_rfl) ?_; intro K hK) | (refine awpF_drawM (id:=25) [0,1,2,4] [] (DT.or (DT.op 3 (DT.op 5 (DT.op 6 (DT.op 7 DT.nil)))) (DT.op 5 (DT.op 3 (DT.op 6 (DT.op 7 DT.nil))))) (by kernel_rfl) (by kernel_rfl) (by kernel_rfl) ?_; intro K hK)); simp only [push_cast,seval,bne_self_eq_false]; refine wObW ?_) | (refine hK _ ?_; clear hK K) | (refine wCd ?_ ?_) | (with_reducible intro hb; exfalso; revert hb; simp [bne_self_eq_false]; done) | (with_reducible intro hb; exfalso; replace hb:=wHb hb; omega; done) | (with_reducible intro hb; replace hb:=wHb hb) | (refine wEx ?_) | (refine wRp ?_; refine fin_of (by simp only [push_cast,seval,bne_self_eq_false]; first | done | rfl) ob1 ?_) | (refine inblock_norm ?_)))
      exact DeepV.tups (DeepV.cons (DeepV.dd _) (DeepV.cons (DeepV.dd _) DeepV.nils))
    · have e:prsV l t=([],chkE f 12 t):=by simp only [prsV,hpl,if_neg hc]
      rw [e]
      have hb1:(chkE f 12 t != 0)=true:=by simpa using hc
      generalize chkE f 12 t=e at *
      (repeat' (first | refine awp_seq ?_ | refine awp_skip ?_ | refine awp_block ?_ | ((first | (refine awpF_region ?_; intro K hK) | (refine awpF_drawM (id:=24) [0,1,2,4,6] [] (DT.or (DT.op 3 (DT.or (DT.op 5 (DT.op 7 (DT.op 8 (DT.op 9 (DT.op 10 (DT.op 11 DT.nil)))))) (DT.op 7 (DT.op 8 (DT.or (DT.op 5 (DT.op 9 (DT.op 10 (DT.op 11 DT.nil)))) (DT.op 9 (DT.op 5 (DT.op 10 (DT.op 11 DT.nil))))))))) (DT.or (DT.op 5 (DT.or (DT.op 3 (DT.op 7 (DT.op 8 (DT.op 9 (DT.op 10 (DT.op 11 DT.nil)))))) (DT.op 7 (DT.op 3 (DT.op 8 (DT.op 9 (DT.op 10 (DT.op 11 DT.nil)))))))) (DT.op 7 (DT.op 3 (DT.op 8 (DT.or (DT.op 5 (DT.op 9 (DT.op 10 (DT.op 11 DT.nil)))) (DT.op 9 (DT.op 5 (DT.op 10 (DT.op 11 DT.nil)))))))))) (by kernel_rfl) (by kernel_rfl) (by kernel_rfl) ?_; intro K hK) | (refine awpF_drawM (id:=25) [0,1,2,4] [] (DT.or (DT.op 3 (DT.op 5 (DT.op 6 (DT.op 7 DT.nil)))) (DT.op 5 (DT.op 3 (DT.op 6 (DT.op 7 DT.nil))))) (by kernel_rfl) (by kernel_rfl) (by kernel_rfl) ?_; intro K hK)); simp only [push_cast,seval,hb1]; refine wObW ?_) | (refine hK _ ?_; clear hK K) | (refine wCd ?_ ?_) | (with_reducible intro hb; exfalso; revert hb; simp [hb1]; done) | (with_reducible intro hb; exfalso; replace hb:=wHb hb; omega; done) | (with_reducible intro hb; replace hb:=wHb hb) | (refine wEx ?_) | (refine wRp ?_; refine fin_of (by simp only [push_cast,seval,hb1]; first | done | rfl) ob1 ?_) | (refine inblock_norm ?_)))
      exact DeepV.tups (DeepV.cons .nil (DeepV.cons (DeepV.dd _) DeepV.nils))
end Go.Aw

namespace Go.Aw
set_option linter.unusedSimpArgs false
set_option linter.unusedVariables false
open Go.RowKit Go.Proofs
set_option maxRecDepth 100000

theorem p44 (l:List UInt8) (t:Fm) (hl:l.length≤100000) (ht:∀ f,parseL l=some f→shE f 12=0→t.wf∧f=t.flat) : PD Tryz.prog 37 [.str (bs l)] (.d (.sl ((prsV l t).1.map encNd))):=by
  have h37:=p37 l t hl ht
  by_cases h0:(prsV l t).2=0
  · rw [h0] at h37
    refine pdv_of (fn:=Tryz.f37) [.tmp 2] (by kernel_rfl) rfl (by kernel_rfl) (Nat.le_of_ble_eq_true rfl) (by kernel_rfl) rfl ?_
    (repeat' (first | refine awp_seq ?_ | refine awp_skip ?_ | refine awp_block ?_ | ((first | (refine awpF_region ?_; intro K hK) | refine CallK.pd (h37) ?_ | refine CallK.pg (fun _=>h37) ?_); simp only [push_cast,seval,bne_self_eq_false]; refine wObW ?_) | (refine hK _ ?_; clear hK K) | (refine wCd ?_ ?_) | (with_reducible intro hb; exfalso; revert hb; simp [bne_self_eq_false]; done) | (with_reducible intro hb; exfalso; replace hb:=wHb hb; omega; done) | (with_reducible intro hb; replace hb:=wHb hb) | (refine wEx ?_) | (refine wRp ?_; refine fin_of (by simp only [push_cast,seval,bne_self_eq_false]; first | done | rfl) ob1 ?_) | (refine inblock_norm ?_)))
    exact DeepV.dd _
  · have h1:(prsV l t).1=[]:=by
      unfold prsV at h0 ⊢
      split
      · rfl
      · rename_i f hf
        rw [hf] at h0
        dsimp only at h0
        split at h0
        · exact absurd rfl h0
        · rename_i hc
          rw [if_neg hc]
    have hb1:((prsV l t).2 != 0)=true:=by simpa using h0
    rw [h1]
    generalize (prsV l t).1=f at *
    generalize (prsV l t).2=e at *
    subst h1
    refine pdv_of (fn:=Tryz.f37) [.tmp 2] (by kernel_rfl) rfl (by kernel_rfl) (Nat.le_of_ble_eq_true rfl) (by kernel_rfl) rfl ?_
    (repeat' (first | refine awp_seq ?_ | refine awp_skip ?_ | refine awp_block ?_ | ((first | (refine awpF_region ?_; intro K hK) | refine CallK.pd (h37) ?_ | refine CallK.pg (fun _=>h37) ?_); simp only [push_cast,seval,hb1]; refine wObW ?_) | (refine hK _ ?_; clear hK K) | (refine wCd ?_ ?_) | (with_reducible intro hb; exfalso; revert hb; simp [hb1]; done) | (with_reducible intro hb; exfalso; replace hb:=wHb hb; omega; done) | (with_reducible intro hb; replace hb:=wHb hb) | (refine wEx ?_) | (refine wRp ?_; refine fin_of (by simp only [push_cast,seval,hb1]; first | done | rfl) ob1 ?_) | (refine inblock_norm ?_)))
    exact DeepV.nil
theorem p75 (l:List Int) (hl:l.length≤1000) : PD Tryz.prog 39 [.sl (l.map encI)] (.d (.sl ((l.map fun x=>[x]).map encR))):=by
  have hq:∀ row,row∈l.map encI→row.length=1:=fun row hr=>by obtain ⟨_,_,rfl⟩:=List.mem_map.1 hr; rfl
  refine pdv_of (fn:=Tryz.f39) [.tmp 2] (by kernel_rfl) rfl (by kernel_rfl) (Nat.le_of_ble_eq_true rfl) (by kernel_rfl) rfl ?_
  refine awp_seq ?_
  refine wRg ?_
  refine awp_seq ?_
  refine wRg ?_
  refine awp_seq ?_
  refine awp_seq ?_
  refine wRg ?_
  refine awp_virt 3 1 (by simp only [push_cast,seval]) ?_
  refine awp_block ?_
  refine awp_loopP (α:=Nat) (st:=fun i=>⟨[(0,.d (.sl (l.map encI))),(3,.ref 0 0 i),(4,.d (.int .i64 i))],[.data 1 (((l.take i).map fun x=>[x]).map encR)]⟩)
    (inv:=fun i=>i≤l.length) (μ:=fun i=>l.length - i) (x0:=0) (r0:=[0]) (Nat.zero_le _) ?_ ?_
  · exact wRen
  intro i hi
  have hil:(((l.take i).map fun x=>[x]).map encR).length=i:=by simp; omega
  have htk:List.take i (((l.take i).map fun x=>[x]).map encR)=((l.take i).map fun x=>[x]).map encR:=List.take_of_length_le (by omega)
  have hqR:∀ row,row∈(((l.take i).map fun x=>[x]).map encR)→row.length=1:=fun row hr=>by obtain ⟨_,_,rfl⟩:=List.mem_map.1 hr; rfl
  refine awp_seq ?_
  refine awp_seq ?_
  refine wRg ?_
  refine wCd ?_ ?_
  · intro h1; replace h1:=wHb h1
    have hlt:i<l.length:=by omega
    obtain ⟨v,hv⟩ : ∃ v,l[i]? = some v:=⟨_,List.getElem?_eq_getElem hlt⟩
    refine awp_skip ?_
    refine awp_seq ?_
    refine awp_block ?_
    refine awpF_region ?_; intro K hK; simp only [push_cast,seval,hv,encI,Int.toNat_natCast,htk]
    refine wOb ?_
    refine hK _ ?_; clear hK K
    refine inblock_norm ?_
    refine wRg ?_
    refine round_endG (i+1) ([0]) ⟨by omega,by omega,?_⟩
    have e:((l.take (i+1)).map fun x=>[x]).map encR=((l.take i).map fun x=>[x]).map encR++[[.sl [[.int .i64 v]]]]:=by
      rw [List.take_add_one,hv,List.map_append,List.map_append]
      rfl
    rw [e]
    push_cast
    exact wRen
  · intro h1; replace h1:=wHb h1
    obtain rfl:i=l.length:=by omega
    rw [List.take_length] at *
    refine wEx ?_
    refine awp_seq ?_
    refine wRg ?_
    refine wRet ?_
    exact DeepV.row rfl hil.symm
theorem p43 (l:List UInt8) (t:Fm) (want:Int) (ns:List Int) (hn:ns.length≤1000) (hl:l.length≤100000) (ht:∀ f,parseL l=some f→shE f 12=0→t.wf∧f=t.flat) (ht1:shE (prsV l t).1 1=0→t.wf∧(prsV l t).1=t.flat) (hf:(prsV l t).1.length≤1000000) :
    PD Tryz.prog 38 [.str (bs l),.int .i64 want,.sl (ns.map encI)] (.d (.bool (evE (prsV l t).1 1 t (ns.map fun x=>[x]) 0==0&&evV (prsV l t).1 1 t (ns.map fun x=>[x]) 0==want))):=by
  have h44:=p44 l t hl ht
  have h75:=p75 ns hn
  have h24:=p24 (prsV l t).1 1 t (ns.map fun x=>[x]) 0 hf ht1 (by decide)
  generalize (prsV l t).1=f at *
  generalize evE f 1 t (ns.map fun x=>[x]) 0=e at *
  generalize evV f 1 t (ns.map fun x=>[x]) 0=v at *
  refine pd_of (fn:=Tryz.f38) [.tmp 6] (by kernel_rfl) rfl (by kernel_rfl) (Nat.le_of_ble_eq_true rfl) (by kernel_rfl) rfl rfl ?_
  (repeat' (first | refine awp_seq ?_ | refine awp_skip ?_ | refine awp_block ?_ | ((first | (refine awpF_region ?_; intro K hK) | refine CallK.pd (h44) ?_ | refine CallK.pg (fun _=>h44) ?_ | refine CallK.pd (h75) ?_ | refine CallK.pg (fun _=>h75) ?_ | refine CallK.pd (h24) ?_ | refine CallK.pg (fun _=>h24) ?_); refine wXo ?_) | (refine hK _ ?_; clear hK K) | (refine wCd ?_ ?_) | (with_reducible intro hb; exfalso; revert hb; simp []; done) | (with_reducible intro hb; exfalso; replace hb:=wHb hb; omega; done) | (with_reducible intro hb; replace hb:=wHb hb) | (refine wEx ?_) | (refine wRet ?_) | (refine inblock_norm ?_)))
  congr 2
  cases (e==0) <;> rfl
def exA:Fm:=.u ⟨6,0,0,0,0,2⟩ (.z ⟨2,0,-1,5,0,0⟩)
def exB:Fm:=.b ⟨8,0,0,0,0,4⟩ (.z ⟨1,0,0,0,0,0⟩) (.z ⟨2,0,-1,1,0,0⟩)
def exAt:List UInt8:=[97,108,119,97,121,115,32,48,32,50,32,108,101,32,48,32,45,49,32,53]
def exBt:List UInt8:=[117,110,116,105,108,32,48,32,52,32,116,114,117,101,32,108,101,32,48,32,45,49,32,49]
theorem itoa_one {n:Nat} (h:n<10) : Lib.itoa n=[UInt8.ofNat (48+n)]:=by
  rw [Lib.itoa,if_neg (by omega),Int.toNat_natCast,Lib.decDigits_one h]
theorem itoa_m1:Lib.itoa (-1)=[45,49]:=by
  rw [Lib.itoa,if_pos (by decide),show (-1:Int).natAbs=1 from rfl,Lib.decDigits_one (by decide)]
  rfl
theorem exA_text:textL exA.flat=exAt:=by
  have h0:Lib.itoa 0=[48]:=itoa_one (n:=0) (by decide)
  have h2:Lib.itoa 2=[50]:=itoa_one (n:=2) (by decide)
  have h5:Lib.itoa 5=[53]:=itoa_one (n:=5) (by decide)
  simp [textL,exA,Fm.flat,nodeW,wordL,joinW,h0,h2,h5,itoa_m1,exAt]
theorem exB_text:textL exB.flat=exBt:=by
  have h0:Lib.itoa 0=[48]:=itoa_one (n:=0) (by decide)
  have h1:Lib.itoa 1=[49]:=itoa_one (n:=1) (by decide)
  have h4:Lib.itoa 4=[52]:=itoa_one (n:=4) (by decide)
  simp [textL,exB,Fm.flat,nodeW,wordL,joinW,h0,h1,h4,itoa_m1,exBt]
theorem prs_of {t:Fm} (hw:t.wf) (hc:chkE t.flat 12 t=0) (hn:∀ n,n∈t.flat→nodeE n 12=0) : prsV (textL t.flat) t=(t.flat,0):=by
  have hne:t.flat≠[]:=by cases t <;> simp [Fm.flat]
  simp only [prsV,parse_text hne fun n h=>writN_of (hn n h),if_pos hc]
theorem exA_prs:prsV exAt exA=(exA.flat,0):=by
  rw [← exA_text]
  exact prs_of ⟨.inr (.inl rfl),.inr rfl⟩ (by decide) (by decide)
theorem exB_prs:prsV exBt exB=(exB.flat,0):=by
  rw [← exB_text]
  exact prs_of ⟨.inr (.inr rfl),.inl rfl,.inr rfl⟩ (by decide) (by decide)
theorem exA_par:∀ f,parseL exAt=some f→shE f 12=0→exA.wf∧f=exA.flat:=by
  intro f hf _
  rw [← exA_text,parse_text (by simp [exA,Fm.flat]) fun n h=>writN_of ((by decide:∀ n,n∈exA.flat→nodeE n 12=0) n h)] at hf
  exact ⟨⟨.inr (.inl rfl),.inr rfl⟩,(Option.some.inj hf).symm⟩
theorem exB_par:∀ f,parseL exBt=some f→shE f 12=0→exB.wf∧f=exB.flat:=by
  intro f hf _
  rw [← exB_text,parse_text (by simp [exB,Fm.flat]) fun n h=>writN_of ((by decide:∀ n,n∈exB.flat→nodeE n 12=0) n h)] at hf
  exact ⟨⟨.inr (.inr rfl),.inl rfl,.inr rfl⟩,(Option.some.inj hf).symm⟩
theorem p13:PD Tryz.prog 10 [] (.d (.bool true)):=by
  have h1:=p43 exAt exA 2 [3,4] (by decide) (by decide) exA_par (by rw [exA_prs]; exact fun _=>⟨⟨.inr (.inl rfl),.inr rfl⟩,rfl⟩) (by rw [exA_prs]; decide)
  have h2:=p43 exAt exA 0 [3,9] (by decide) (by decide) exA_par (by rw [exA_prs]; exact fun _=>⟨⟨.inr (.inl rfl),.inr rfl⟩,rfl⟩) (by rw [exA_prs]; decide)
  have h3:=p44 exBt exB (by decide) exB_par
  have h4:=p18 exB.flat exB (by decide) fun _=>⟨⟨.inr (.inr rfl),.inl rfl,.inr rfl⟩,rfl⟩
  rw [exA_prs] at h1 h2
  rw [exB_prs] at h3
  rw [show (evE (exA.flat,0).1 1 exA ([3,4].map fun x=>[x]) 0==0&&evV (exA.flat,0).1 1 exA ([3,4].map fun x=>[x]) 0==2)=true by decide] at h1
  rw [show (evE (exA.flat,0).1 1 exA ([3,9].map fun x=>[x]) 0==0&&evV (exA.flat,0).1 1 exA ([3,9].map fun x=>[x]) 0==0)=true by decide] at h2
  rw [show hzE exB.flat exB=4 by decide] at h4
  dsimp only at h3
  have e1:bs exAt=⟨#[97,108,119,97,121,115,32,48,32,50,32,108,101,32,48,32,45,49,32,53]⟩:=rfl
  have e2:bs exBt=⟨#[117,110,116,105,108,32,48,32,52,32,116,114,117,101,32,108,101,32,48,32,45,49,32,49]⟩:=rfl
  rw [e1] at h1 h2
  rw [e2] at h3
  simp only [encI,List.map_cons,List.map_nil] at h1 h2
  generalize exB.flat.map encNd=fB at *
  refine pd_of (fn:=Tryz.f10) [.tmp 0] (by kernel_rfl) rfl (by kernel_rfl) (Nat.le_of_ble_eq_true rfl) (by kernel_rfl) rfl rfl ?_
  (repeat' (first | refine awp_seq ?_ | refine awp_skip ?_ | refine awp_block ?_ | ((first | (refine awpF_region ?_; intro K hK) | refine CallK.pd (h1) ?_ | refine CallK.pg (fun _=>h1) ?_ | refine CallK.pd (h2) ?_ | refine CallK.pg (fun _=>h2) ?_ | refine CallK.pd (h3) ?_ | refine CallK.pg (fun _=>h3) ?_ | refine CallK.pd (h4) ?_ | refine CallK.pg (fun _=>h4) ?_); refine wXo ?_) | (refine hK _ ?_; clear hK K) | (refine wCd ?_ ?_) | (with_reducible intro hb; exfalso; revert hb; simp []; done) | (with_reducible intro hb; exfalso; replace hb:=wHb hb; omega; done) | (with_reducible intro hb; replace hb:=wHb hb) | (refine wEx ?_) | (refine wRet ?_) | (refine inblock_norm ?_)))
  rfl
end Go.Aw
