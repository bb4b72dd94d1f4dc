/-
  Own work, printed by a program of the same hand. Each function of the code answers what its plain twin reckons.
-/
import Derived.Test.YtfadfecpoimkiaaGreatDoorProg
import Derived.Test.YtfadfecpoimkiaaGreatDoorDefs
import Derived.Test.YtfadfecpoimkiaaGreatDoorComm
import Derived.Test.YtfadfecpoimkiaaGreatDoorLib3
import Derived.Test.YtfadfecpoimkiaaGreatDoorLib2
import Derived.Test.YtfadfecpoimkiaaGreatDoorHandB
import Derived.Test.YtfadfecpoimkiaaGreatDoorHandD
import Derived.Test.YtfadfecpoimkiaaGreatDoorHandP
import Derived.Test.YtfadfecpoimkiaaGreatDoorHandS
import Derived.KernelRfl
namespace Sx
open Go Go.Proofs Go.IntKind
set_option maxRecDepth 10000
set_option maxHeartbeats 1000000
attribute [local irreducible] wpList
@[reducible] def tsl(x:Value):TV:= .one (.raw (.slice none 0 0)) x
theorem o{α:Sort _}{a:α}:a=a:=rfl
@[reducible] def g4{b u c f M V:T}(p:Pth b u):Pth (.pair c (.pair f (.pair M (.pair V b)))) u:= .snd (.snd (.snd (.snd p)))
@[reducible] def g9{b u c f M V R W C H G:T}(p:Pth b u):Pth (.pair c (.pair f (.pair M (.pair V (.pair R (.pair W (.pair C (.pair H (.pair G b))))))))) u:= .snd (.snd (.snd (.snd (.snd (.snd (.snd (.snd (.snd p))))))))
@[reducible] def g10{b u c f M V R W C H G N:T}(p:Pth b u):Pth (.pair c (.pair f (.pair M (.pair V (.pair R (.pair W (.pair C (.pair H (.pair G (.pair N b)))))))))) u:= .snd (.snd (.snd (.snd (.snd (.snd (.snd (.snd (.snd (.snd p)))))))))
@[reducible] def g11{b u c f M V R W C H G N J:T}(p:Pth b u):Pth (.pair c (.pair f (.pair M (.pair V (.pair R (.pair W (.pair C (.pair H (.pair G (.pair N (.pair J b))))))))))) u:= .snd (.snd (.snd (.snd (.snd (.snd (.snd (.snd (.snd (.snd (.snd p))))))))))
@[reducible] def g13{b u c f M V R W C H G N J d m:T}(p:Pth b u):Pth (.pair c (.pair f (.pair M (.pair V (.pair R (.pair W (.pair C (.pair H (.pair G (.pair N (.pair J (.pair d (.pair m b))))))))))))) u:= .snd (.snd (.snd (.snd (.snd (.snd (.snd (.snd (.snd (.snd (.snd (.snd (.snd p))))))))))))
@[reducible] def z32:List Int:=List.replicate 32 0
@[reducible] noncomputable def PP:Program:=Tryz.prog
abbrev Y52:T:=(.pair (.int .i64) (.pair (.int .i64) (.pair (.int .i64) (.pair (.arr 32 (.int .u8)) (.pair .str .unit)))))
abbrev Y24:T:=(.pair (.int .i64) (.pair (.int .i64) .unit))
abbrev Y56:T:=(.pair (.int .i64) (.pair (.arr 32 (.int .u8)) (.pair .bool .unit)))
abbrev Y30:T:=(.pair (.int .i64) (.pair (.int .i64) (.pair (.int .i64) (.pair (.int .i64) (.pair (.sl 52 Y52) (.pair (.sl 52 Y52) (.pair (.int .i64) (.pair (.int .i64) (.pair (.int .i64) (.pair Y24 (.pair Y24 (.pair Y24 (.pair .bool (.pair (.arr 2 (.arr 32 (.int .u8))) (.pair (.arr 32 (.int .u8)) (.pair (.sl 56 Y56) (.pair (.int .i64) (.pair (.int .i64) .unit))))))))))))))))))
abbrev Y40:T:=(.pair (.int .i64) (.pair (.int .i64) (.pair (.int .i64) (.pair (.arr 32 (.int .u8)) (.pair (.arr 32 (.int .u8)) (.pair (.arr 32 (.int .u8)) (.pair (.arr 2 (.arr 32 (.int .u8))) (.pair (.int .i64) .unit))))))))
abbrev Y195:T:=(.pair (.int .i64) (.pair (.int .i64) (.pair (.int .i64) .unit)))
abbrev Y54:T:=(.pair (.int .i64) (.pair Y52 (.pair (.sl 52 Y52) (.pair (.int .i64) (.pair Y24 (.pair (.arr 32 (.int .u8)) (.pair (.arr 32 (.int .u8)) (.pair (.arr 32 (.int .u8)) (.pair (.int .i64) .unit)))))))))
abbrev Y282:T:=(.pair (.int .i64) (.pair (.arr 32 (.int .u8)) (.pair (.arr 32 (.int .u8)) .unit)))
abbrev Y280:T:=(.pair (.int .i64) (.pair (.sl 52 Y52) (.pair (.arr 32 (.int .u8)) .unit)))
abbrev Y212:T:=(.ifc 276 (.pair Y52 .unit) (.ifc 278 (.pair (.int .i64) (.pair Y24 .unit)) (.ifc 280 Y280 (.ifc 282 Y282 (.ifc 284 (.pair (.int .i64) .unit) (.ifc 286 (.pair (.int .i64) .unit) (.raw .nilIface)))))))
abbrev Y205:T:=(.arr 2 (.pair (.int .i64) (.pair .bool .unit)))
abbrev Y152:T:=(.pair .str (.pair (.int .i64) (.pair (.int .i64) (.pair .str .unit))))
abbrev W65:T:= .sl 52 Y52
abbrev W66:T:= .sl 56 Y56
abbrev W67:T:= .sl 9 .str
abbrev W64:T:= .sl 152 Y152
abbrev W63:T:= .raw .nilFunc
abbrev W61:T:= .pair Y52 .unit
abbrev W59:T:= .raw (.map none)
abbrev W58:T:= .sl 3 (.int .i64)
abbrev W55:T:= .arr 32 (.int .u8)
abbrev W56:T:= .arr 8 (.int .u32)
abbrev W53:T:= .arr 16 (.int .u32)
abbrev W54:T:= .arr 64 (.int .u32)
abbrev W52:T:= .raw (.pointer none)
abbrev W51:T:= .raw (.slice none 0 0)
abbrev W50:T:= .pair (.int .i64) .unit
abbrev W49:T:= .arr 2 W55
abbrev W47:T:= .pair (.int .i64) (.pair Y24 .unit)
abbrev W46:T:= .pair .str W50
abbrev W45:T:= .pair (.int .i64) (.pair .bool .unit)
abbrev W44:T:= .pair (.int .i64) W50
abbrev W41:T:= .pair W52 (.pair .bool .unit)
abbrev W38:T:= .pair W51 W50
abbrev W33:T:= .pair W51 (.pair (.int .i64) (.pair .bool (.pair .bool .unit)))
abbrev W31:T:= .pair W52 (.pair .str W44)
abbrev W28:T:= .pair (.int .i64) (.pair (.int .i64) (.pair (.int .i64) (.pair W55 (.pair .str .unit))))
abbrev W26:T:= .pair W52 (.pair W52 (.pair W52 (.pair Y30 .unit)))
abbrev W25:T:= .pair W52 (.pair .str (.pair (.int .i64) (.pair W51 W45)))
abbrev W15:T:= .pair W51 (.pair (.int .i64) (.pair (.int .i64) (.pair (.int .i64) (.pair Y24 (.pair Y24 (.pair Y24 (.pair .bool (.pair W49 (.pair W55 (.pair W51 W44))))))))))
abbrev W3:T:= .pair (.int .i64) (.pair (.int .i64) (.pair (.int .i64) (.pair (.int .i64) (.pair W65 (.pair W65 (.pair (.int .i64) (.pair (.int .i64) (.pair (.int .i64) (.pair Y24 (.pair Y24 (.pair Y24 (.pair .bool (.pair W49 (.pair W55 (.pair W51 W44)))))))))))))))
abbrev W1:T:= .pair (.int .i64) (.pair (.int .i64) (.pair (.int .i64) (.pair (.int .i64) (.pair W51 (.pair W65 (.pair (.int .i64) (.pair (.int .i64) (.pair (.int .i64) (.pair Y24 (.pair Y24 (.pair Y24 (.pair .bool (.pair W49 (.pair W55 (.pair W51 W44)))))))))))))))
abbrev W0:T:= .pair (.int .i64) (.pair (.int .i64) (.pair (.int .i64) (.pair (.int .i64) (.pair W51 W15))))
theorem ty2:aV PP (.int .i64) 2=true:=by kernel_rfl
theorem ty3:aV PP (.int .i64) 3=true:=by kernel_rfl
theorem ty4:aV PP .bool 4=true:=by kernel_rfl
theorem ty5:aV PP (.int .u8) 5=true:=by kernel_rfl
theorem ty9:aV PP .str 9=true:=by kernel_rfl
theorem jI:aV PP W65 22=true:=by kernel_rfl
theorem fj:aV PP Y24 24=true:=by kernel_rfl
theorem bK:aV PP W55 26=true:=by kernel_rfl
theorem xn:aV PP W49 27=true:=by kernel_rfl
theorem ru:aV PP W66 28=true:=by kernel_rfl
theorem bW:aV PP Y30 30=true:=by kernel_rfl
theorem fk:aV PP (.int .i64) 31=true:=by kernel_rfl
theorem BZ:aV PP Y40 40=true:=by kernel_rfl
theorem dE:aV PP W52 42=true:=by kernel_rfl
theorem bI:aV PP Y52 52=true:=by kernel_rfl
theorem fm:aV PP Y54 54=true:=by kernel_rfl
theorem ji:aV PP Y56 56=true:=by kernel_rfl
theorem cA:aV PP (.int .u32) 89=true:=by kernel_rfl
theorem gw:aV PP W52 100=true:=by kernel_rfl
theorem tu:aV PP W52 106=true:=by kernel_rfl
theorem l0:aV PP W59 121=true:=by kernel_rfl
theorem cT:aV PP W52 127=true:=by kernel_rfl
theorem wv:aV PP W67 128=true:=by kernel_rfl
theorem Ej:aV PP W52 132=true:=by kernel_rfl
theorem mR:aV PP Y152 152=true:=by kernel_rfl
theorem de:aV PP Y195 195=true:=by kernel_rfl
theorem l3:aV PP W45 204=true:=by kernel_rfl
theorem pA:aV PP W59 235=true:=by kernel_rfl
theorem ww:aV PP W53 287=true:=by kernel_rfl
theorem kG:aV PP W56 353=true:=by kernel_rfl
theorem l4:aV PP W54 354=true:=by kernel_rfl
theorem tx0:aV PP (.raw (fnv 85)) 68=true:=by kernel_rfl
theorem tx1:aV PP W51 91=true:=by kernel_rfl
theorem tx2:aV PP W51 22=true:=by kernel_rfl
theorem tx3:aV PP W51 28=true:=by kernel_rfl
theorem tx4:aV PP W51 128=true:=by kernel_rfl
theorem tx5:aV PP W51 184=true:=by kernel_rfl
theorem zf3:(PP.info? 3).bind (·.zero)=some (mk (.int .i64) (zc (.int .i64))):=by kernel_rfl
theorem zf4:(PP.info? 4).bind (·.zero)=some (mk .bool (zc .bool)):=by kernel_rfl
theorem zf5:(PP.info? 5).bind (·.zero)=some (mk (.int .u8) (zc (.int .u8))):=by kernel_rfl
theorem E4:(PP.info? 24).bind (·.zero)=some (mk Y24 (zc Y24)):=by kernel_rfl
theorem ns:(PP.info? 26).bind (·.zero)=some (mk W55 (zc W55)):=by kernel_rfl
theorem E5:(PP.info? 27).bind (·.zero)=some (mk W49 (zc W49)):=by kernel_rfl
theorem gk:(PP.info? 30).bind (·.zero)=some (mk Y30 (zc Y30)):=by kernel_rfl
theorem E6:(PP.info? 31).bind (·.zero)=some (mk (.int .i64) (zc (.int .i64))):=by kernel_rfl
theorem DJ:(PP.info? 40).bind (·.zero)=some (mk Y40 (zc Y40)):=by kernel_rfl
theorem jJ:(PP.info? 52).bind (·.zero)=some (mk Y52 (zc Y52)):=by kernel_rfl
theorem jL:(PP.info? 54).bind (·.zero)=some (mk Y54 (zc Y54)):=by kernel_rfl
theorem xo:(PP.info? 56).bind (·.zero)=some (mk Y56 (zc Y56)):=by kernel_rfl
theorem E7:(PP.info? 68).bind (·.zero)=some (mk W63 (zc W63)):=by kernel_rfl
theorem Ek:(PP.info? 103).bind (·.zero)=some (mk W41 (zc W41)):=by kernel_rfl
theorem El:(PP.info? 123).bind (·.zero)=some (mk DT (zc DT)):=by kernel_rfl
theorem Cw:(PP.info? 127).bind (·.zero)=some (mk W52 (zc W52)):=by kernel_rfl
theorem Em:(PP.info? 128).bind (·.zero)=some (mk W67 (zc W67)):=by kernel_rfl
theorem En:(PP.info? 136).bind (·.zero)=some (mk W26 (zc W26)):=by kernel_rfl
theorem Eo:(PP.info? 139).bind (·.zero)=some (mk BT (zc BT)):=by kernel_rfl
theorem tw:(PP.info? 152).bind (·.zero)=some (mk Y152 (zc Y152)):=by kernel_rfl
theorem Ep:(PP.info? 161).bind (·.zero)=some (mk W38 (zc W38)):=by kernel_rfl
theorem Eq:(PP.info? 171).bind (·.zero)=some (mk W46 (zc W46)):=by kernel_rfl
theorem Er:(PP.info? 186).bind (·.zero)=some (mk W25 (zc W25)):=by kernel_rfl
theorem Es:(PP.info? 191).bind (·.zero)=some (mk W33 (zc W33)):=by kernel_rfl
theorem oF:(PP.info? 195).bind (·.zero)=some (mk Y195 (zc Y195)):=by kernel_rfl
theorem Cx:(PP.info? 204).bind (·.zero)=some (mk W45 (zc W45)):=by kernel_rfl
theorem Et:(PP.info? 205).bind (·.zero)=some (mk Y205 (zc Y205)):=by kernel_rfl
theorem Cy:(PP.info? 208).bind (·.zero)=some (mk W31 (zc W31)):=by kernel_rfl
theorem zF:(PP.info? 237).bind (·.zero)=some (mk FT (zc FT)):=by kernel_rfl
theorem Eu:(PP.info? 276).bind (·.zero)=some (mk W61 (zc W61)):=by kernel_rfl
theorem Ev:(PP.info? 278).bind (·.zero)=some (mk W47 (zc W47)):=by kernel_rfl
theorem Ew:(PP.info? 280).bind (·.zero)=some (mk Y280 (zc Y280)):=by kernel_rfl
theorem Ex:(PP.info? 282).bind (·.zero)=some (mk Y282 (zc Y282)):=by kernel_rfl
theorem Ey:(PP.info? 284).bind (·.zero)=some (mk W50 (zc W50)):=by kernel_rfl
theorem Ez:(PP.info? 286).bind (·.zero)=some (mk W50 (zc W50)):=by kernel_rfl
theorem zG:(PP.info? 287).bind (·.zero)=some (mk W53 (zc W53)):=by kernel_rfl
theorem oG:(PP.info? 353).bind (·.zero)=some (mk W56 (zc W56)):=by kernel_rfl
theorem nR:(PP.info? 354).bind (·.zero)=some (mk W54 (zc W54)):=by kernel_rfl
theorem el2:fG PP (.int .i64) 2 8=true:=by kernel_rfl
theorem el3:fG PP (.int .i64) 3 8=true:=by kernel_rfl
theorem el5:fG PP (.int .u8) 5 1=true:=by kernel_rfl
theorem el9:fG PP .str 9 16=true:=by kernel_rfl
theorem E8:fG PP W55 26 32=true:=by kernel_rfl
theorem jM:fG PP Y52 52 72=true:=by kernel_rfl
theorem zH:fG PP Y54 54 232=true:=by kernel_rfl
theorem xp:fG PP Y56 56 48=true:=by kernel_rfl
theorem EA:fG PP W52 106 8=true:=by kernel_rfl
theorem gb:fG PP Y195 195 24=true:=by kernel_rfl
theorem uh:PP.underlying 26=some (.array 32 5):=Tryz.underlying26
theorem xq:PP.underlying 27=some (.array 2 26):=Tryz.underlying27
abbrev zI:=Tryz.underlying30
theorem oH:PP.underlying 205=some (.array 2 204):=Tryz.underlying205
abbrev wx:=Tryz.underlying212
theorem zJ:PP.underlying 287=some (.array 16 89):=Tryz.underlying287
theorem EB:PP.underlying 332=some (.array 64 5):=Tryz.underlying332
theorem iS:PP.underlying 353=some (.array 8 89):=Tryz.underlying353
theorem oI:PP.underlying 354=some (.array 64 89):=Tryz.underlying354
theorem zK:PP.keyTypeAt 20 24=true:=by kernel_rfl
theorem zL:PP.eqGuardType PP.depth 24=false:=by kernel_rfl
theorem ui:PP.keyTypeAt 20 26=true:=by kernel_rfl
theorem uj:PP.eqGuardType PP.depth 26=false:=by kernel_rfl
theorem E9:PP.keyTypeAt 20 27=true:=by kernel_rfl
theorem Fa:PP.eqGuardType PP.depth 27=false:=by kernel_rfl
theorem B1:PP.keyTypeAt 20 52=true:=by kernel_rfl
theorem B3:PP.eqGuardType PP.depth 52=false:=by kernel_rfl
theorem Fb:PP.keyTypeAt 20 56=true:=by kernel_rfl
theorem Fd:PP.eqGuardType PP.depth 56=false:=by kernel_rfl
def aT:Kind:=⟨bm,Value,λb s x=>[Res.var b 161 W38 (s,x.2.1,x.2.2),Res.own s 5 (.int .u8) x.1]⟩
theorem cC{F:Fr}{n:Nat}{E:Env}{L:List Res}{X:Act→World→Prop}{p:Value}{x:List (Int)×Int×Unit}(g:∀b c,p= .pointer (some ⟨b,0,none⟩)→Go F n E (Res.var b 161 W38 (c,x.2.1,x.2.2)::Res.own c 5 (.int .u8) x.1::L) X):Go F n E (Res.cls aT p x::L) X:=jB (K:=aT) λb c h=>g b c h
theorem iN{F:Fr}{n:Nat}{E:Env}{L:List Res}{X:Act→World→Prop}{b:Nat}{x:List (Int)×Int×Unit}(g:∀c,Go F n E (Res.var b 161 W38 (c,x.2.1,x.2.2)::Res.own c 5 (.int .u8) x.1::L) X):Go F n E (Res.cls aT (.pointer (some ⟨b,0,none⟩)) x::L) X:=l8 (K:=aT) λc=>g c
theorem bH{F:Fr}{n:Nat}{E:Env}{L:List Res}{X:Act→World→Prop}{b:Nat}{c:Value}{x:List (Int)×Int×Unit}(g:Go F n E (Res.cls aT (.pointer (some ⟨b,0,none⟩)) x::L) X):Go F n E (Res.var b 161 W38 (c,x.2.1,x.2.2)::Res.own c 5 (.int .u8) x.1::L) X:=mD (K:=aT) (s:=c) g
def cg(q:Value):Kind:=⟨Unit×List Int×Int×(List ck)×cq,Value,λb s x=>[Res.var b 186 W25 (q,x.2.1,x.2.2.1,s,x.2.2.2.2.1,x.2.2.2.2.2.1,x.2.2.2.2.2.2),Res.own s 195 Y195 x.2.2.2.1]⟩
theorem mc{F:Fr}{n:Nat}{E:Env}{L:List Res}{X:Act→World→Prop}{q:Value}{p:Value}{x:Unit×List Int×Int×(List ck)×Int×Bool×Unit}(g:∀b c,p= .pointer (some ⟨b,0,none⟩)→Go F n E (Res.var b 186 W25 (q,x.2.1,x.2.2.1,c,x.2.2.2.2.1,x.2.2.2.2.2.1,x.2.2.2.2.2.2)::Res.own c 195 Y195 x.2.2.2.1::L) X):Go F n E (Res.cls (cg q) p x::L) X:=jB (K:=(cg q)) λb c h=>g b c h
theorem fo{F:Fr}{n:Nat}{E:Env}{L:List Res}{X:Act→World→Prop}{q:Value}{b:Nat}{x:Unit×List Int×Int×(List ck)×Int×Bool×Unit}(g:∀c,Go F n E (Res.var b 186 W25 (q,x.2.1,x.2.2.1,c,x.2.2.2.2.1,x.2.2.2.2.2.1,x.2.2.2.2.2.2)::Res.own c 195 Y195 x.2.2.2.1::L) X):Go F n E (Res.cls (cg q) (.pointer (some ⟨b,0,none⟩)) x::L) X:=l8 (K:=(cg q)) λc=>g c
theorem bS{F:Fr}{n:Nat}{E:Env}{L:List Res}{X:Act→World→Prop}{q:Value}{b:Nat}{c:Value}{x:Unit×List Int×Int×(List ck)×Int×Bool×Unit}(g:Go F n E (Res.cls (cg q) (.pointer (some ⟨b,0,none⟩)) x::L) X):Go F n E (Res.var b 186 W25 (q,x.2.1,x.2.2.1,c,x.2.2.2.2.1,x.2.2.2.2.2.1,x.2.2.2.2.2.2)::Res.own c 195 Y195 x.2.2.2.1::L) X:=mD (K:=(cg q)) (s:=c) g
def eD(q:Value):Kind:=⟨Unit×List Int×Z23,Unit,λb _ x=>[Res.var b 208 W31 (q,x.2.1,x.2.2.1,x.2.2.2.1,x.2.2.2.2)]⟩
theorem A0{F:Fr}{n:Nat}{E:Env}{L:List Res}{X:Act→World→Prop}{q:Value}{p:Value}{x:Unit×List Int×Int×Int×Unit}(g:∀b,p= .pointer (some ⟨b,0,none⟩)→Go F n E (Res.var b 208 W31 (q,x.2.1,x.2.2.1,x.2.2.2.1,x.2.2.2.2)::L) X):Go F n E (Res.cls (eD q) p x::L) X:=jB (K:=(eD q)) λb _ h=>g b h
theorem zM{F:Fr}{n:Nat}{E:Env}{L:List Res}{X:Act→World→Prop}{q:Value}{b:Nat}{x:Unit×List Int×Int×Int×Unit}(g:Go F n E (Res.var b 208 W31 (q,x.2.1,x.2.2.1,x.2.2.2.1,x.2.2.2.2)::L) X):Go F n E (Res.cls (eD q) (.pointer (some ⟨b,0,none⟩)) x::L) X:=l8 (K:=(eD q)) λ_=>g
theorem tx{F:Fr}{n:Nat}{E:Env}{L:List Res}{X:Act→World→Prop}{q:Value}{b:Nat}{x:Unit×List Int×Int×Int×Unit}(g:Go F n E (Res.cls (eD q) (.pointer (some ⟨b,0,none⟩)) x::L) X):Go F n E (Res.var b 208 W31 (q,x.2.1,x.2.2.1,x.2.2.2.1,x.2.2.2.2)::L) X:=mD (K:=(eD q)) (s:=()) g
def bP(q:Value):Kind:=⟨Unit×(Int×Unit×List Int×Int×(List ck)×cq)×(Int×Unit×List Int×Z23)×Z29×Unit,Value×Value,λb s x=>[Res.var b 136 W26 (q,s.1,s.2,x.2.2.2.1,x.2.2.2.2),Res.clsif (cg q) s.1 x.2.1.2 x.2.1.1,Res.clsif (eD q) s.2 x.2.2.1.2 x.2.2.1.1]⟩
theorem oJ{F:Fr}{n:Nat}{E:Env}{L:List Res}{X:Act→World→Prop}{q:Value}{p:Value}{x:Unit×(Int×Unit×List Int×Int×(List ck)×cq)×(Int×Unit×List Int×Z23)×Z29×Unit}(g:∀b c f,p= .pointer (some ⟨b,0,none⟩)→Go F n E (Res.var b 136 W26 (q,c,f,x.2.2.2.1,x.2.2.2.2)::Res.clsif (cg q) c x.2.1.2 x.2.1.1::Res.clsif (eD q) f x.2.2.1.2 x.2.2.1.1::L) X):Go F n E (Res.cls (bP q) p x::L) X:=jB (K:=(bP q)) λb ⟨c,f⟩ h=>g b c f h
theorem nS{F:Fr}{n:Nat}{E:Env}{L:List Res}{X:Act→World→Prop}{q:Value}{b:Nat}{x:Unit×(Int×Unit×List Int×Int×(List ck)×cq)×(Int×Unit×List Int×Z23)×Z29×Unit}(g:∀c f,Go F n E (Res.var b 136 W26 (q,c,f,x.2.2.2.1,x.2.2.2.2)::Res.clsif (cg q) c x.2.1.2 x.2.1.1::Res.clsif (eD q) f x.2.2.1.2 x.2.2.1.1::L) X):Go F n E (Res.cls (bP q) (.pointer (some ⟨b,0,none⟩)) x::L) X:=l8 (K:=(bP q)) λ⟨c,f⟩=>g c f
theorem fS{F:Fr}{n:Nat}{E:Env}{L:List Res}{X:Act→World→Prop}{q:Value}{b:Nat}{c f:Value}{x:Unit×(Int×Unit×List Int×Int×(List ck)×cq)×(Int×Unit×List Int×Z23)×Z29×Unit}(g:Go F n E (Res.cls (bP q) (.pointer (some ⟨b,0,none⟩)) x::L) X):Go F n E (Res.var b 136 W26 (q,c,f,x.2.2.2.1,x.2.2.2.2)::Res.clsif (cg q) c x.2.1.2 x.2.1.1::Res.clsif (eD q) f x.2.2.1.2 x.2.2.1.1::L) X:=mD (K:=(bP q)) (s:=(c,f)) g
def dz:Kind:=⟨Z13,Unit,λb _ x=>[Res.var b 171 W46 (x.1,x.2.1,x.2.2)]⟩
theorem eL{F:Fr}{n:Nat}{E:Env}{L:List Res}{X:Act→World→Prop}{p:Value}{x:List Int×Int×Unit}(g:∀b,p= .pointer (some ⟨b,0,none⟩)→Go F n E (Res.var b 171 W46 (x.1,x.2.1,x.2.2)::L) X):Go F n E (Res.cls dz p x::L) X:=jB (K:=dz) λb _ h=>g b h
theorem eT{F:Fr}{n:Nat}{E:Env}{L:List Res}{X:Act→World→Prop}{b:Nat}{x:List Int×Int×Unit}(g:Go F n E (Res.cls dz (.pointer (some ⟨b,0,none⟩)) x::L) X):Go F n E (Res.var b 171 W46 (x.1,x.2.1,x.2.2)::L) X:=mD (K:=dz) (s:=()) g
def fI:Kind:=⟨(Int×Z13)×Bool×Unit,Value,λb s x=>[Res.var b 103 W41 (s,x.2.1,x.2.2),Res.clsif dz s x.1.2 x.1.1]⟩
theorem pV{F:Fr}{n:Nat}{E:Env}{L:List Res}{X:Act→World→Prop}{p:Value}{x:(Int×Z13)×Bool×Unit}(g:∀b c,p= .pointer (some ⟨b,0,none⟩)→Go F n E (Res.var b 103 W41 (c,x.2.1,x.2.2)::Res.clsif dz c x.1.2 x.1.1::L) X):Go F n E (Res.cls fI p x::L) X:=jB (K:=fI) λb c h=>g b c h
theorem gV{F:Fr}{n:Nat}{E:Env}{L:List Res}{X:Act→World→Prop}{b:Nat}{x:(Int×Z13)×Bool×Unit}(g:∀c,Go F n E (Res.var b 103 W41 (c,x.2.1,x.2.2)::Res.clsif dz c x.1.2 x.1.1::L) X):Go F n E (Res.cls fI (.pointer (some ⟨b,0,none⟩)) x::L) X:=l8 (K:=fI) λc=>g c
theorem fY{F:Fr}{n:Nat}{E:Env}{L:List Res}{X:Act→World→Prop}{b:Nat}{c:Value}{x:(Int×Z13)×Bool×Unit}(g:Go F n E (Res.cls fI (.pointer (some ⟨b,0,none⟩)) x::L) X):Go F n E (Res.var b 103 W41 (c,x.2.1,x.2.2)::Res.clsif dz c x.1.2 x.1.1::L) X:=mD (K:=fI) (s:=c) g
def ik:Kind:=⟨nj,Value,λb s x=>[Res.var b 191 W33 (s,x.2.1,x.2.2.1,x.2.2.2.1,x.2.2.2.2),Res.own s 9 .str x.1]⟩
theorem zN{F:Fr}{n:Nat}{E:Env}{L:List Res}{X:Act→World→Prop}{p:Value}{x:List (List Int)×Int×Bool×Bool×Unit}(g:∀b c,p= .pointer (some ⟨b,0,none⟩)→Go F n E (Res.var b 191 W33 (c,x.2.1,x.2.2.1,x.2.2.2.1,x.2.2.2.2)::Res.own c 9 .str x.1::L) X):Go F n E (Res.cls ik p x::L) X:=jB (K:=ik) λb c h=>g b c h
theorem lO{F:Fr}{n:Nat}{E:Env}{L:List Res}{X:Act→World→Prop}{b:Nat}{x:List (List Int)×Int×Bool×Bool×Unit}(g:∀c,Go F n E (Res.var b 191 W33 (c,x.2.1,x.2.2.1,x.2.2.2.1,x.2.2.2.2)::Res.own c 9 .str x.1::L) X):Go F n E (Res.cls ik (.pointer (some ⟨b,0,none⟩)) x::L) X:=l8 (K:=ik) λc=>g c
theorem iO{F:Fr}{n:Nat}{E:Env}{L:List Res}{X:Act→World→Prop}{b:Nat}{c:Value}{x:List (List Int)×Int×Bool×Bool×Unit}(g:Go F n E (Res.cls ik (.pointer (some ⟨b,0,none⟩)) x::L) X):Go F n E (Res.var b 191 W33 (c,x.2.1,x.2.2.1,x.2.2.2.1,x.2.2.2.2)::Res.own c 9 .str x.1::L) X:=mD (K:=ik) (s:=c) g
def cP:Kind:=⟨Z29,Value×Value×Value,λb s x=>[Res.var b 30 W0 (x.1,x.2.1,x.2.2.1,x.2.2.2.1,s.1,s.2.1,x.2.2.2.2.2.2.1,x.2.2.2.2.2.2.2.1,x.2.2.2.2.2.2.2.2.1,x.2.2.2.2.2.2.2.2.2.1,x.2.2.2.2.2.2.2.2.2.2.1,x.2.2.2.2.2.2.2.2.2.2.2.1,x.2.2.2.2.2.2.2.2.2.2.2.2.1,x.2.2.2.2.2.2.2.2.2.2.2.2.2.1,x.2.2.2.2.2.2.2.2.2.2.2.2.2.2.1,s.2.2,x.2.2.2.2.2.2.2.2.2.2.2.2.2.2.2.2.1,x.2.2.2.2.2.2.2.2.2.2.2.2.2.2.2.2.2.1,x.2.2.2.2.2.2.2.2.2.2.2.2.2.2.2.2.2.2),Res.own s.1 52 Y52 x.2.2.2.2.1,Res.own s.2.1 52 Y52 x.2.2.2.2.2.1,Res.own s.2.2 56 Y56 x.2.2.2.2.2.2.2.2.2.2.2.2.2.2.2.1]⟩
theorem ll{F:Fr}{n:Nat}{E:Env}{L:List Res}{X:Act→World→Prop}{p:Value}{x:Int×Int×Int×Int×(List Z51)×(List Z51)×Int×Int×Int×Z23×Z23×Z23×Bool×List (List (Int))×List (Int)×(List Z55)×Int×Int×Unit}(g:∀b c f u,p= .pointer (some ⟨b,0,none⟩)→Go F n E (Res.var b 30 W0 (x.1,x.2.1,x.2.2.1,x.2.2.2.1,c,f,x.2.2.2.2.2.2.1,x.2.2.2.2.2.2.2.1,x.2.2.2.2.2.2.2.2.1,x.2.2.2.2.2.2.2.2.2.1,x.2.2.2.2.2.2.2.2.2.2.1,x.2.2.2.2.2.2.2.2.2.2.2.1,x.2.2.2.2.2.2.2.2.2.2.2.2.1,x.2.2.2.2.2.2.2.2.2.2.2.2.2.1,x.2.2.2.2.2.2.2.2.2.2.2.2.2.2.1,u,x.2.2.2.2.2.2.2.2.2.2.2.2.2.2.2.2.1,x.2.2.2.2.2.2.2.2.2.2.2.2.2.2.2.2.2.1,x.2.2.2.2.2.2.2.2.2.2.2.2.2.2.2.2.2.2)::Res.own c 52 Y52 x.2.2.2.2.1::Res.own f 52 Y52 x.2.2.2.2.2.1::Res.own u 56 Y56 x.2.2.2.2.2.2.2.2.2.2.2.2.2.2.2.1::L) X):Go F n E (Res.cls cP p x::L) X:=jB (K:=cP) λb ⟨c,f,u⟩ h=>g b c f u h
theorem jj{F:Fr}{n:Nat}{E:Env}{L:List Res}{X:Act→World→Prop}{b:Nat}{x:Int×Int×Int×Int×(List Z51)×(List Z51)×Int×Int×Int×Z23×Z23×Z23×Bool×List (List (Int))×List (Int)×(List Z55)×Int×Int×Unit}(g:∀c f u,Go F n E (Res.var b 30 W0 (x.1,x.2.1,x.2.2.1,x.2.2.2.1,c,f,x.2.2.2.2.2.2.1,x.2.2.2.2.2.2.2.1,x.2.2.2.2.2.2.2.2.1,x.2.2.2.2.2.2.2.2.2.1,x.2.2.2.2.2.2.2.2.2.2.1,x.2.2.2.2.2.2.2.2.2.2.2.1,x.2.2.2.2.2.2.2.2.2.2.2.2.1,x.2.2.2.2.2.2.2.2.2.2.2.2.2.1,x.2.2.2.2.2.2.2.2.2.2.2.2.2.2.1,u,x.2.2.2.2.2.2.2.2.2.2.2.2.2.2.2.2.1,x.2.2.2.2.2.2.2.2.2.2.2.2.2.2.2.2.2.1,x.2.2.2.2.2.2.2.2.2.2.2.2.2.2.2.2.2.2)::Res.own c 52 Y52 x.2.2.2.2.1::Res.own f 52 Y52 x.2.2.2.2.2.1::Res.own u 56 Y56 x.2.2.2.2.2.2.2.2.2.2.2.2.2.2.2.1::L) X):Go F n E (Res.cls cP (.pointer (some ⟨b,0,none⟩)) x::L) X:=l8 (K:=cP) λ⟨c,f,u⟩=>g c f u
theorem gl{F:Fr}{n:Nat}{E:Env}{L:List Res}{X:Act→World→Prop}{b:Nat}{c f u:Value}{x:Int×Int×Int×Int×(List Z51)×(List Z51)×Int×Int×Int×Z23×Z23×Z23×Bool×List (List (Int))×List (Int)×(List Z55)×Int×Int×Unit}(g:Go F n E (Res.cls cP (.pointer (some ⟨b,0,none⟩)) x::L) X):Go F n E (Res.var b 30 W0 (x.1,x.2.1,x.2.2.1,x.2.2.2.1,c,f,x.2.2.2.2.2.2.1,x.2.2.2.2.2.2.2.1,x.2.2.2.2.2.2.2.2.1,x.2.2.2.2.2.2.2.2.2.1,x.2.2.2.2.2.2.2.2.2.2.1,x.2.2.2.2.2.2.2.2.2.2.2.1,x.2.2.2.2.2.2.2.2.2.2.2.2.1,x.2.2.2.2.2.2.2.2.2.2.2.2.2.1,x.2.2.2.2.2.2.2.2.2.2.2.2.2.2.1,u,x.2.2.2.2.2.2.2.2.2.2.2.2.2.2.2.2.1,x.2.2.2.2.2.2.2.2.2.2.2.2.2.2.2.2.2.1,x.2.2.2.2.2.2.2.2.2.2.2.2.2.2.2.2.2.2)::Res.own c 52 Y52 x.2.2.2.2.1::Res.own f 52 Y52 x.2.2.2.2.2.1::Res.own u 56 Y56 x.2.2.2.2.2.2.2.2.2.2.2.2.2.2.2.1::L) X:=mD (K:=cP) (s:=(c,f,u)) g
def bF:List (String×IntKind×List Int):=[Ce,Cf]
@[reducible] def dI:DI:=⟨123,237,9,3,5⟩
theorem dK:dG PP .str dI.str=true:=by kernel_rfl
theorem sP:dG PP (.int .i64) dI.int=true:=by kernel_rfl
theorem zNV:(PP.info? 180).bind (·.zero)=some NV:=by kernel_rfl
theorem DK:dG PP (.int .i64) 3=true:=by kernel_rfl
def tab:Tab:={ints:=[(2,.i64),(3,.i64),(5,.u8),(84,.u16),(89,.u32),(163,.u64),(179,.u64)],strs:=[(9,())],slices:=[(22,52),(28,56),(41,54),(61,2),(64,152),(81,3),(86,26),(91,5),(107,106),(128,9),(184,195)],arrs:=[],offs:=[(24,[0,1]),(30,[0,1,2,3,4,5,6,7,8,9,11,13,15,16,80,112,113,114]),(40,[0,1,2,3,35,67,99,163]),(52,[0,1,2,3,35]),(54,[0,1,37,38,39,41,73,105,137]),(56,[0,1,33]),(103,[0,1]),(123,[0,1,2,3,4,5,6]),(136,[0,1,2,3]),(139,[0,1]),(152,[0,1,2,3]),(161,[0,1]),(171,[0,1]),(186,[0,1,2,3,4,5]),(191,[0,1,2,3]),(195,[0,1,2]),(204,[0,1]),(208,[0,1,2,3]),(237,[0,1,2]),(276,[0]),(278,[0,1]),(280,[0,1,2]),(282,[0,1,33]),(284,[0]),(286,[0])]}
def cas:List Nat:=[4,7,9,11,12,13,14,15,17,18,19,22,24,27,28,29,30,31,32,33,34,35,36,37,44,45,46,47,48,49,50,51,52,58,59,60,61,62,63,64,65,66,67,68,69,70,71,72,73,74,75,78,79,80,83,84,85,86,87,88,89,90,91,92,93,94,95,96,99,100,101,102,103,104,105,106,109,110,111,112,113,114,115,116,117,118,119,120,121,122,123,124,125,126,128,129,130,131,133,134,135,136,137,138,139,140,141,142,145,146,147,148,152,153,155,156,157,159,160,161,164,165,166,167,168,169,170,171,173,174,175,176,177,178,179,181,184,187,189,190,192,208,240,258,259,260,261,262,263,264,265,266,267,268,269,270,271,272,273,274,275,276,277,278,279,280,281,282,283,284,285,286,287,288,289,290,291,292,293,294,295,296,297,298,299,300,301,302,303]
theorem EC:cas.all (dg PP)=true:=by kernel_rfl
theorem ca{k:Nat}(h:cas.contains k=true):dg PP k=true:=List.all_eq_true.1 EC k (List.contains_iff_mem.1 h)
theorem ai:tab.chk PP=true:=by kernel_rfl
theorem p{F:Fr}{n:Nat}{E E0:Env}{L:List Res}{ops:Array Oper}{Q:Exit→Act→World→Prop}{l:List Oper}(k:Nat)(keys:List Nat)(h:seg tab n ops (l.take k) E keys=some E0)(g:Go F n E0 L (wpList PP ops Q (l.drop k))):Go F n E L (wpList PP ops Q l):=fU ai k keys h g
theorem q{F:Fr}{n:Nat}{E E0:Env}{L:List Res}{ops:Array Oper}{Q:Exit→Act→World→Prop}{l:List Oper}(k:Nat)(new:Env)(keys:List Nat)(h:Bm tab n ops (l.take k) E (new.map (·.1)) keys=some (new,E0))(g:Go F n (new++E0) L (wpList PP ops Q (l.drop k))):Go F n E L (wpList PP ops Q l):=CN ai k h g
theorem ae{F:Fr}{n:Nat}{E:Env}{L:List Res}{ops:Array Oper}{Q:Exit→Act→World→Prop}{fuel:Nat}{op:Op}{d:Nat}{ty:TypeId}{pos:String}{after:Array Edge}{listed:Array Bool}[b:BlindC Q](i:Nat)(t:TV)(hi:ops[i]? =some ⟨some d,op,ty,pos,after,none⟩)(hc:flt n ops listed i d=true)(h:pv tab E op=some t)(g:Go F n ((d,t)::E) L (wpAny PP .any ops Q fuel (listed.setIfInBounds i true))):Go F n E L (wpAny PP .any ops Q (fuel+1) listed):=afp ai i t hi hc h g
theorem au{F:Fr}{n:Nat}{E:Env}{L:List Res}{ops:Array Oper}{Q:Exit→Act→World→Prop}{S:World→Prop}{fuel:Nat}{op:Op}{d:Nat}{ty:TypeId}{pos:String}{after:Array Edge}{listed:Array Bool}[b:BlindC Q](i:Nat)(t:TV)(hS:∀M w,St F M w L→S w)(hi:ops[i]? =some ⟨some d,op,ty,pos,after,none⟩)(hc:flt n ops listed i d=true)(h:pv tab E op=some t)(g:(∀M w,St F M w L→S w)→Go F n ((d,t)::E) L (wpAnyH PP .any ops Q S fuel (listed.setIfInBounds i true))):Go F n E L (wpAnyH PP .any ops Q S (fuel+1) listed):=hkp ai i t hS hi hc h g
theorem fT(c u f r)(h:fq c u f=some r):bn PP 84 [ti c,ti u,ti f] (tb r):=by
 unfold fq at h
 refine enter Tryz.func84 o 15 o o λF=>?_
 refine zu<|q 1 [(0,ti c),(1,ti u),(2,ti f)] [] o<|zz<|p 4 [0,2,10] o ?_
 obtain⟨M,e,h⟩:=ak h;rw[e]
 refine aJ 4 [(14,tb (M&&(decide (c≤f))))] [] (?_) ?_
 ·clear h
  cases M
  ·exact q 4 [(14,tb false)] [] o<|aa [14] o<|za<|ao () o o
  exact q 4 [(14,tb (decide (c≤f)))] [] o<|aa [14] o<|za<|ao () o o
 refine q 1 [(6,tb (M&&(decide (c≤f))))] [] o<|zf ?_
 cases h
 exact aB o (.tmp o)
theorem kz(c r)(h:gG c=some r):bn PP 83 [ti c] (tb r):=by
 unfold gG at h
 refine enter Tryz.func83 o 5 o o λF=>?_
 refine zu<|q 1 [(0,ti c)] [] o<|zz<|q 1 [(3,ti c)] [] o<|cB h λf u h=>av (fT _ _ _ _ u) (ca o) o o<|q 1 [(2,tb f)] [] o<|zf ?_
 cases h
 exact aB o (.tmp o)
theorem hJ(c r)(h:fM c=some r):bn PP 139 [.one Y52 c] (tb r):=by
 unfold fM at h
 refine enter Tryz.func139 o 55 o o λF=>?_
 refine zu<|bD o o λf=>q 1 [(1,ptr f 0)] [] o<|za<|zs<|zu<|p 1 [1,3] o<|yl 0 f1 ty2 o o o tr o<|q 2 [(6,tb (decide (c.2.1<0)))] [1] o ?_
 obtain⟨C,e,h⟩:=ak h;rw[e]
 refine aJ 4 [(1,ptr f 0),(10,tb (C||(decide (c.2.1≥2048))))] [Res.var f 52 Y52 c] (?_) ?_
 ·clear h
  cases C
  ·refine p 1 [1,6,7] o<|ap (by rfl) o ?_
   exact yl 0 f1 ty2 o o o tr o<|q 2 [(10,tb (decide (c.2.1≥2048)))] [1] o<|aa [1,10] o<|za<|ao () o o
  exact p 4 [1,10] o<|za<|ao () o o
 refine za<|rI h o (λhc h=>zu<|q 1 [(2,tb false)] [] o<|zf<|zT<|by cases h;exact aB o (.tmp o)) λhc h=>zk<|zt<|zs<|zu<|q 1 [(1,ptr f 0),(11,ptr f 0)] [] o<|yl 0 f0 ty3 o o o tr o<|za<|zb<|zu<|q 2 [(12,ti c.1),(13,tb (c.1==1))] [1] o<|za<|rI h o (λhc h=>?_) λhc h=>?_
 ·refine zu<|p 1 [1,15] o<|yl 0 f2 ty2 o o o tr o<|q 2 [(18,tb (decide (c.2.2.1≥1)))] [1] o ?_
  obtain⟨u,e,h⟩:=ak h;rw[e]
  refine aJ 4 [(1,ptr f 0),(22,tb (u&&(decide (c.2.2.1≤1152921504606846976))))] [Res.var f 52 Y52 c] (?_) ?_
  ·clear h
   cases u
   ·exact p 4 [1,22] o<|za<|ao () o o
   refine p 1 [1,18,19] o<|ap (by rfl) o ?_
   exact yl 0 f2 ty2 o o o tr o<|q 2 [(22,tb (decide (c.2.2.1≤1152921504606846976)))] [1] o<|aa [1,22] o<|za<|ao () o o
  refine q 1 [(1,ptr f 0),(23,tb (u&&(decide (c.2.2.1≤1152921504606846976))))] [] o ?_
  obtain⟨M,e,h⟩:=ak h;rw[e]
  refine aJ 4 [(27,tb (M&&(c.2.2.2.2.1==[])))] [Res.var f 52 Y52 c] (?_) ?_
  ·clear h
   cases M
   ·exact q 4 [(27,tb false)] [] o<|aa [27] o<|za<|ao () o o
   refine q 1 [(23,tb true),(24,ptr f 35)] [] o<|ap (by rfl) o ?_
   exact yl 0 f4 ty9 o o o tr o<|q 2 [(27,tb (c.2.2.2.2.1==[]))] [] o<|aa [27] o<|za<|ao () o o
  refine q 1 [(2,tb (M&&(c.2.2.2.2.1==[])))] [] o<|zf<|zB<|zT ?_
  cases h
  exact aB o (.tmp o)
 refine zu<|q 2 [(28,tb (c.1==2))] [1,12] o<|za<|rI h o (λhc h=>?_) λhc h=>?_
 ·refine zu<|p 1 [1,30] o<|yl 0 f2 ty2 o o o tr o<|q 2 [(33,tb (c.2.2.1==0))] [1] o ?_
  obtain⟨V,e,h⟩:=ak h;rw[e]
  refine aJ 4 [(37,tb (V&&(c.2.2.2.2.1==[])))] [Res.var f 52 Y52 c] (?_) ?_
  ·clear h
   cases V
   ·exact q 4 [(37,tb false)] [] o<|aa [37] o<|za<|ao () o o
   refine q 1 [(33,tb true),(34,ptr f 35)] [] o<|ap (by rfl) o ?_
   exact yl 0 f4 ty9 o o o tr o<|q 2 [(37,tb (c.2.2.2.2.1==[]))] [] o<|aa [37] o<|za<|ao () o o
  refine q 1 [(2,tb (V&&(c.2.2.2.2.1==[])))] [] o<|zf<|zB<|zT ?_
  cases h
  exact aB o (.tmp o)
 refine zu<|q 2 [(38,tb (c.1==3))] [1] o<|za<|rI h o (λhc h=>?_) λhc h=>?_
 ·refine zu<|p 1 [1,40] o<|yl 0 f2 ty2 o o o tr o<|q 2 [(43,tb (c.2.2.1==0))] [1] o ?_
  obtain⟨R,e,h⟩:=ak h;rw[e]
  refine aJ 5 [(1,ptr f 0),(48,tb (R&&(eqD W55 c.2.2.2.1 z32)))] [Res.var f 52 Y52 c] (?_) ?_
  ·clear h
   cases R
   ·exact p 5 [1,48] o<|za<|ao () o o
   refine p 1 [1,43,44] o<|ap (by rfl) o ?_
   refine yl 0 f3 bK o o o tr o<|ap (by rfl) o ?_
   refine y (bc o ns o o .nil) o ?_
   refine ap (by rfl) o ?_
   refine y (s3 20 o o o o bK o ui uj) o ?_
   exact q 1 [(48,tb (eqD W55 c.2.2.2.1 z32))] [1] o<|aa [1,48] o<|za<|ao () o o
  refine q 1 [(1,ptr f 0),(49,tb (R&&(eqD W55 c.2.2.2.1 z32)))] [] o ?_
  obtain⟨W,e,h⟩:=ak h;rw[e]
  refine aJ 5 [(54,tb (W&&(decide ((List.length c.2.2.2.2.1:Int)≤64))))] [Res.var f 52 Y52 c] (?_) ?_
  ·clear h
   cases W
   ·exact q 5 [(54,tb false)] [] o<|aa [54] o<|za<|ao () o o
   refine q 1 [(49,tb true),(50,ptr f 35)] [] o<|ap (by rfl) o ?_
   exact yl 0 f4 ty9 o o o tr o<|q 3 [(54,tb (decide ((List.length c.2.2.2.2.1:Int)≤64)))] [] o<|aa [54] o<|za<|ao () o o
  refine q 1 [(2,tb (W&&(decide ((List.length c.2.2.2.2.1:Int)≤64))))] [] o<|zf<|zB<|zT ?_
  cases h
  exact aB o (.tmp o)
 refine zk<|zi<|zt<|zu<|q 1 [(2,tb false)] [] o<|zf ?_
 cases h
 exact aB o (.tmp o)
theorem sQ(c r)(h:kC c=some r):bn PP 138 [.one Y52 c] (tb r):=by
 unfold kC at h
 refine enter Tryz.func138 o 6 o o λF=>?_
 refine zu<|bD o o λf=>q 1 [(1,ptr f 0)] [] o<|zz<|yl 0 .here bI o o o tr o<|cB h λu M h=>av (hJ _ _ M) (ca o) o o<|q 2 [(2,tb (!u))] [] o<|zf ?_
 cases h
 exact aB o (.tmp o)
theorem il(c r)(h:cE c=some r):bn PP 179 [.one W65 c,.one (.raw (fnv 138)) (fnv 138)] (ti r):=by
 unfold cE at h
 refine enter Tryz.func179 o 19 o o λF=>?_
 refine zu<|q 1 [(0,.one W65 c),(1,.one (.raw (fnv 138)) (fnv 138))] [] o<|za<|bv h (λu=>[]) (λu=>[]) (λV h=>?_) λu h=>?_
 ·refine zu<|q 3 [(7,ti (List.length c:Int)),(8,ti 0)] [0,1] o<|za<|zb<|aa [0,1,7,8] o<|aY (γ:=Unit) (λ(f:Int) _=>[(0,.one W65 c),(1,.one (.raw (fnv 138)) (fnv 138)),(7,ti (List.length c:Int)),(8,ti f)]) (λ(f:Int) _=>[]) (aW c V) 0 () h o o ?_
  clear h
  intro M f gg h
  cases M with
  |zero=>cases h
  |succ M=>
  simp only[aW]at h
  refine zu<|q 1 [(8,ti f),(9,tb (decide (f<(List.length c:Int))))] [0,1,7] o<|za<|zs<|rI h o (λhc h=>?_) λhc h=>?_
  ·refine zk<|zt<|zs<|zb<|zu<|p 2 [0,1,5,7,8] o<|zz<|p 3 [0,1,5,7,8,11,12,13] o<|iE h λhc h=>y (ff ai o o hc.1 hc.2 o bI) o ?_
   refine y (ga o bI) o ?_
   refine lL o ?_
   exact cB h λW R h=>av (sQ _ _ R) (ca o) o o<|za<|rI h o (λhc h=>zu<|q 2 [(4,ti f)] [] o<|zf<|zB<|zT<|zT<|zB<|zT<|by cases h;exact aB o (.tmp o)) λhc h=>zk<|zi<|zt<|zr<|p 2 [0,1,7,8] o<|za<|aa [0,1,7,8] o<|aR (wrap .i64 (f+1)) () (Nat.lt_succ_self _) h o o
  exact zx<|ze<|ze<|zq<|zt<|aa [] o<|ah () () h o o
 refine zu<|q 1 [(4,ti (-1))] [] o<|zf ?_
 cases h
 exact aB o (.tmp o)
theorem gW(c r)(h:cu c=some r):bn PP 137 [.one W65 c,.one (.raw (fnv 138)) (fnv 138)] (tb r):=by
 unfold cu at h
 refine enter Tryz.func137 o 9 o o λF=>?_
 refine zu<|q 1 [(0,.one W65 c),(1,.one (.raw (fnv 138)) (fnv 138))] [] o<|zz<|q 2 [(5,.one W65 c),(6,.one (.raw (fnv 138)) (fnv 138))] [] o<|cB h λf u h=>av (il _ _ u) (ca o) o o<|q 2 [(4,tb (decide (f≥0)))] [] o<|zf ?_
 cases h
 exact aB o (.tmp o)
theorem pa(c r)(h:iV c=some r):bn PP 86 [.one W65 c] (tb r):=by
 unfold iV at h
 refine enter Tryz.func86 o 11 o o λF=>?_
 refine zu<|q 1 [(0,.one W65 c)] [] o<|zz<|q 4 [(6,tb (decide ((List.length c:Int)≤2048)))] [0] o ?_
 obtain⟨M,e,h⟩:=ak h;rw[e]
 refine bL h 4 (λf=>[(10,tb f)]) (λ_=>[]) (λR h=>?_) λf h=>?_
 ·cases M
  ·replace h:=ifF h
   exact q 4 [(10,tb false)] [] o<|zn<|aa [10] o<|zt<|ah false () h o o
  replace h:=ifT h
  refine q 1 [(6,tb true),(7,.one W65 c)] [] o<|ap (by rfl) o ?_
  exact cB h λu V h=>av (gW _ _ V) (ca o) o o<|q 2 [(10,tb (!u))] [] o<|zn<|aa [10] o<|zt<|ah (!u) () h o o
 refine q 1 [(2,tb f)] [] o<|zf ?_
 cases h
 exact aB o (.tmp o)
theorem iT(c r)(h:fQ c=some r):bn PP 85 [ti c] (tb r):=by
 unfold fQ at h
 refine enter Tryz.func85 o 5 o o λF=>?_
 refine zu<|q 1 [(0,ti c)] [] o<|zz<|q 1 [(3,ti c)] [] o<|cB h λf u h=>av (fT _ _ _ _ u) (ca o) o o<|q 1 [(2,tb f)] [] o<|zf ?_
 cases h
 exact aB o (.tmp o)
theorem pB(c r)(h:jC c=some r):Fn PP 32 [.one Y30 c] [] (λv=> .one W51 v) (λv=>[Res.own v 3 (.int .i64) r]):=by
 unfold jC at h
 refine enter Tryz.func32 o 22 o o λF=>?_
 refine zu<|bD o o λf=>q 1 [(1,ptr f 0)] [] o<|zz<|p 2 [1,4] o<|yl 0 ((g9 (.fst f0))) ty3 o o o tr o<|q 2 [(5,ti c.2.2.2.2.2.2.2.2.2.1.1),(7,ptr f 10)] [1] o<|yl 0 ((g9 (.fst f1))) ty3 o o o tr o<|q 2 [(8,ti c.2.2.2.2.2.2.2.2.2.1.2.1),(10,ptr f 11)] [1,5] o<|yl 0 ((g10 (.fst f0))) ty3 o o o tr o<|q 2 [(11,ti c.2.2.2.2.2.2.2.2.2.2.1.1),(13,ptr f 12)] [1,5,8] o<|yl 0 ((g10 (.fst f1))) ty3 o o o tr o<|q 2 [(14,ti c.2.2.2.2.2.2.2.2.2.2.1.2.1),(16,ptr f 13)] [1,5,8,11] o<|yl 0 ((g11 (.fst f0))) ty3 o o o tr o ?_
 refine q 2 [(17,ti c.2.2.2.2.2.2.2.2.2.2.2.1.1),(19,ptr f 14)] [5,8,11,14] o<|yl 0 ((g11 (.fst f1))) ty3 o o o tr o<|bE (B:=8) ai o el3 o o o (.cons o (.cons o (.cons o (.cons o (.cons o (.cons o .nil)))))) o λu=>?_
 refine q 1 [(2,.one W51 u)] [] o<|zf ?_
 cases h
 exact aU o (.tmp o) (λ_ _ g=>holds_raw.2 ⟨rfl,by rw[(holds_raw.1 g).1];exact(holds_raw.1 g).2⟩) (λ_ _ g=>by obtain⟨rfl,_⟩:=holds_raw.1 g;exact(.cons_cons _ (.cons _ .slnil)))
theorem rV(c r)(h:jS c=some r):bn PP 88 [ti c] (tb r):=by
 unfold jS at h
 refine enter Tryz.func88 o 6 o o λF=>?_
 refine zu<|q 1 [(0,ti c)] [] o<|zz<|q 1 [(3,ti c)] [] o<|cB h λf u h=>av (fT _ _ _ _ u) (ca o) o o<|q 2 [(2,tb (!f))] [] o<|zf ?_
 cases h
 exact aB o (.tmp o)
theorem kA(c r)(h:dH c=some r):bn PP 140 [.one W58 c,.one (.raw (fnv 88)) (fnv 88)] (ti r):=by
 unfold dH at h
 refine enter Tryz.func140 o 19 o o λF=>?_
 refine zu<|q 1 [(0,.one W58 c),(1,.one (.raw (fnv 88)) (fnv 88))] [] o<|za<|bv h (λu=>[]) (λu=>[]) (λV h=>?_) λu h=>?_
 ·refine zu<|q 3 [(7,ti (List.length c:Int)),(8,ti 0)] [0,1] o<|za<|zb<|aa [0,1,7,8] o<|aY (γ:=Unit) (λ(f:Int) _=>[(0,.one W58 c),(1,.one (.raw (fnv 88)) (fnv 88)),(7,ti (List.length c:Int)),(8,ti f)]) (λ(f:Int) _=>[]) (bG c V) 0 () h o o ?_
  clear h
  intro M f gg h
  cases M with
  |zero=>cases h
  |succ M=>
  simp only[bG]at h
  refine zu<|q 1 [(8,ti f),(9,tb (decide (f<(List.length c:Int))))] [0,1,7] o<|za<|zs<|rI h o (λhc h=>?_) λhc h=>?_
  ·refine zk<|zt<|zs<|zb<|zu<|p 2 [0,1,5,7,8] o<|zz<|p 3 [0,1,5,7,8,11,12,13] o<|iE h λhc h=>y (ff ai o o hc.1 hc.2 o ty3) o ?_
   refine y (ga o ty3) o ?_
   refine lL o ?_
   exact cB h λW R h=>av (rV _ _ R) (ca o) o o<|za<|rI h o (λhc h=>zu<|q 2 [(4,ti f)] [] o<|zf<|zB<|zT<|zT<|zB<|zT<|by cases h;exact aB o (.tmp o)) λhc h=>zk<|zi<|zt<|zr<|p 2 [0,1,7,8] o<|za<|aa [0,1,7,8] o<|aR (wrap .i64 (f+1)) () (Nat.lt_succ_self _) h o o
  exact zx<|ze<|ze<|zq<|zt<|aa [] o<|ah () () h o o
 refine zu<|q 1 [(4,ti (-1))] [] o<|zf ?_
 cases h
 exact aB o (.tmp o)
theorem jN(c r)(h:cK c=some r):bn PP 87 [.one W58 c,.one (.raw (fnv 88)) (fnv 88)] (tb r):=by
 unfold cK at h
 refine enter Tryz.func87 o 9 o o λF=>?_
 refine zu<|q 1 [(0,.one W58 c),(1,.one (.raw (fnv 88)) (fnv 88))] [] o<|zz<|q 2 [(5,.one W58 c),(6,.one (.raw (fnv 88)) (fnv 88))] [] o<|cB h λf u h=>av (kA _ _ u) (ca o) o o<|q 2 [(4,tb (decide (f≥0)))] [] o<|zf ?_
 cases h
 exact aB o (.tmp o)
theorem pb(c:Nat)(f r)(h:gY f=some r):Fn PP 90 [.one Y56 f,ptr c 0] [Res.var c 68 (.raw (fnv 85)) (fnv 85)] (λ_=>tb r) (λ_=>[Res.var c 68 (.raw (fnv 85)) (fnv 85)]):=by
 unfold gY at h
 refine enter Tryz.func90 o 9 o o λF=>?_
 refine zu<|bD o o λu=>q 1 [(1,ptr c 0),(2,ptr u 0)] [] o<|zz<|yl 1 .here tx0 o o o tr o<|q 1 [(4,.one (.raw (fnv 85)) (fnv 85)),(5,ptr u 0)] [] o<|yl 0 f0 ty2 o o o tr o<|lL o ?_
 refine cB h λM V h=>av (iT _ _ V) (ca o) o o<|q 2 [(3,tb (!M))] [] o<|zf ?_
 cases h
 exact bd o (.tmp o) (.cons _ (.cons_cons _ .slnil))
theorem iP(f:Nat)(c r)(h:cL c=some r):Fn PP 141 [.one W66 c,.one W63 (.func (.func 90) #[] #[adr f])] [Res.var f 68 (.raw (fnv 85)) (fnv 85)] (λ_=>ti r) (λ_=>[Res.var f 68 (.raw (fnv 85)) (fnv 85)]):=by
 unfold cL at h
 refine enter Tryz.func141 o 19 o o λF=>?_
 refine zu<|q 1 [(0,.one W66 c),(1,.one W63 (.func (.func 90) #[] #[adr f]))] [] o<|za<|bv h (λM=>[]) (λM=>[Res.var f 68 (.raw (fnv 85)) (fnv 85)]) (λR h=>?_) λM h=>?_
 ·refine zu<|q 3 [(7,ti (List.length c:Int)),(8,ti 0)] [0,1] o<|za<|zb<|aa [0,1,7,8] o<|aY (γ:=Unit) (λ(u:Int) _=>[(0,.one W66 c),(1,.one W63 (.func (.func 90) #[] #[adr f])),(7,ti (List.length c:Int)),(8,ti u)]) (λ(u:Int) _=>[Res.var f 68 (.raw (fnv 85)) (fnv 85)]) (aZ c R) 0 () h o o ?_
  clear h
  intro V u gg h
  cases V with
  |zero=>cases h
  |succ V=>
  simp only[aZ]at h
  refine zu<|q 1 [(8,ti u),(9,tb (decide (u<(List.length c:Int))))] [0,1,7] o<|za<|zs<|rI h o (λhc h=>?_) λhc h=>?_
  ·refine zk<|zt<|zs<|zb<|zu<|p 2 [0,1,5,7,8] o<|zz<|q 3 [(11,.one W63 (.func (.func 90) #[] #[adr f])),(12,.one W66 c),(13,ti u)] [0,1,5,7,8] o<|iE h λhc h=>y (ff ai o o hc.1 hc.2 o ji) o ?_
   refine y (ga o ji) o ?_
   refine Dv o ?_
   exact cB h λC W h=>rc [0] (pb _ _ _ W) (ca o) o o o λ_=>za<|rI h o (λhc h=>zu<|q 2 [(4,ti u)] [] o<|zf<|zB<|zT<|zT<|zB<|zT<|by cases h;exact aU o (.tmp o) (λ_ _ g=>g) (λ_ _ _=>(.cons_cons _ .slnil))) λhc h=>zk<|zi<|zt<|zr<|p 2 [0,1,7,8] o<|za<|aa [0,1,7,8] o<|aR (wrap .i64 (u+1)) () (Nat.lt_succ_self _) h o o
  exact zx<|ze<|ze<|zq<|zt<|aa [] o<|ah () () h o o
 refine zu<|q 1 [(4,ti (-1))] [] o<|zf ?_
 cases h
 exact bd o (.tmp o) (.cons_cons _ .slnil)
theorem im(c:Nat)(f r)(h:cb f=some r):Fn PP 89 [.one W66 f,.one W63 (.func (.func 90) #[] #[adr c])] [Res.var c 68 (.raw (fnv 85)) (fnv 85)] (λ_=>tb r) (λ_=>[Res.var c 68 (.raw (fnv 85)) (fnv 85)]):=by
 unfold cb at h
 refine enter Tryz.func89 o 9 o o λF=>?_
 refine zu<|q 1 [(0,.one W66 f),(1,.one W63 (.func (.func 90) #[] #[adr c]))] [] o<|zz<|q 2 [(5,.one W66 f),(6,.one W63 (.func (.func 90) #[] #[adr c]))] [] o<|cB h λu M h=>rc [0] (iP _ _ _ M) (ca o) o o o λ_=>q 2 [(4,tb (decide (u≥0)))] [] o<|zf ?_
 cases h
 exact bd o (.tmp o) (.cons_cons _ .slnil)
theorem tB(R u r)(h:jD R u=some r):bn PP 27 [ti R,.one Y30 u] (tb r):=by
 unfold jD at h
 refine enter Tryz.func27 o 91 o o λF=>?_
 refine zu<|bD o o λc=>q 1 [(0,ti R),(3,ptr c 0)] [] o<|zz<|p 1 [0,3,5] o<|zz<|aD (t:=W63) o E7 o λf=>kU (v:=(.raw (fnv 85))) 0 .here o o o o o o tx0 ?_
 refine za<|zs<|zb<|zu<|p 1 [3,5,6,8] o<|cB h λr5 m h=>av (fT _ _ _ _ m) (ca o) o o<|p 2 [3,5,6,11] o ?_
 obtain⟨O,e,h⟩:=ak h;rw[e]
 refine bL h 5 (λW=>[(3,ptr c 0),(5,.one (.raw (fnv 83)) (fnv 83)),(6,ptr f 0),(16,tb W)]) (λ_=>[Res.var f 68 (.raw (fnv 85)) (fnv 85),Res.var c 30 Y30 u]) (λk7 h=>?_) λW h=>?_
 ·cases O
  ·replace h:=ifF h
   refine p 1 [3,5,6,11,12] o<|ap (by rfl) o ?_
   refine yl 1 f0 ty3 o o o tr o<|ap (by rfl) o ?_
   exact cB h λw Z h=>av (fT _ _ _ _ Z) (ca o) o o<|p 2 [3,5,6,16] o<|zn<|aa [3,5,6,16] o<|zt<|ah (!w) () h o o
  replace h:=ifT h
  exact p 5 [3,5,6,16] o<|zn<|aa [3,5,6,16] o<|zt<|ah true () h o o
 refine q 1 [(3,ptr c 0),(5,.one (.raw (fnv 83)) (fnv 83)),(6,ptr f 0),(7,tb W)] [] o<|za<|rI h o (λhc h=>zu<|q 1 [(4,tb false)] [] o<|zf<|zB<|zT<|by cases h;exact aB o (.tmp o)) λhc h=>zu<|p 2 [3,5,6,18,19] o<|yl 1 f1 ty2 o o o tr o<|lL o ?_
 refine cB h λc9 a2 h=>av (kz _ _ a2) (ca o) o o<|p 2 [3,5,6,23] o ?_
 obtain⟨a3,e,h⟩:=ak h;rw[e]
 refine bL h 6 (λM=>[(3,ptr c 0),(5,.one (.raw (fnv 83)) (fnv 83)),(6,ptr f 0),(29,tb M)]) (λ_=>[Res.var f 68 (.raw (fnv 85)) (fnv 85),Res.var c 30 Y30 u]) (λd0 h=>?_) λM h=>?_
 ·cases a3
  ·replace h:=ifF h
   refine p 2 [3,5,6,23,24,25] o<|ap (by rfl) o ?_
   refine yl 1 f2 ty2 o o o tr o<|ap (by rfl) o ?_
   refine lL o ?_
   exact cB h λa4 a5 h=>av (kz _ _ a5) (ca o) o o<|p 2 [3,5,6,29] o<|zn<|aa [3,5,6,29] o<|zt<|ah (!a4) () h o o
  replace h:=ifT h
  exact p 6 [3,5,6,29] o<|zn<|aa [3,5,6,29] o<|zt<|ah true () h o o
 refine q 1 [(3,ptr c 0),(5,.one (.raw (fnv 83)) (fnv 83)),(6,ptr f 0),(30,tb M)] [] o<|bL h 6 (λC=>[(3,ptr c 0),(6,ptr f 0),(36,tb C)]) (λ_=>[Res.var f 68 (.raw (fnv 85)) (fnv 85),Res.var c 30 Y30 u]) (λd1 h=>?_) λC h=>?_
 ·cases M
  ·replace h:=ifF h
   refine p 2 [3,6,30,31,32] o<|ap (by rfl) o ?_
   refine yl 1 f3 ty2 o o o tr o<|ap (by rfl) o ?_
   refine lL o ?_
   exact cB h λa6 a7 h=>av (kz _ _ a7) (ca o) o o<|p 2 [3,6,36] o<|zn<|aa [3,6,36] o<|zt<|ah (!a6) () h o o
  replace h:=ifT h
  exact p 6 [3,6,36] o<|zn<|aa [3,6,36] o<|zt<|ah true () h o o
 refine q 1 [(3,ptr c 0),(6,ptr f 0),(17,tb C)] [] o<|za<|rI h o (λhc h=>zu<|q 1 [(4,tb false)] [] o<|zf<|zB<|zT<|by cases h;exact aB o (.tmp o)) λhc h=>zu<|p 1 [3,6,38] o<|yl 1 f4 jI o o o tr o<|cB h λd2 a8 h=>av (pa _ _ a8) (ca o) o o<|p 2 [3,6,42] o ?_
 obtain⟨a9,e,h⟩:=ak h;rw[e]
 refine bL h 5 (λH=>[(3,ptr c 0),(6,ptr f 0),(47,tb H)]) (λ_=>[Res.var f 68 (.raw (fnv 85)) (fnv 85),Res.var c 30 Y30 u]) (λd3 h=>?_) λH h=>?_
 ·cases a9
  ·replace h:=ifF h
   refine p 1 [3,6,42,43] o<|ap (by rfl) o ?_
   refine yl 1 f5 jI o o o tr o<|ap (by rfl) o ?_
   exact cB h λb0 b1 h=>av (pa _ _ b1) (ca o) o o<|p 2 [3,6,47] o<|zn<|aa [3,6,47] o<|zt<|ah (!b0) () h o o
  replace h:=ifT h
  exact p 5 [3,6,47] o<|zn<|aa [3,6,47] o<|zt<|ah true () h o o
 refine q 1 [(3,ptr c 0),(6,ptr f 0),(37,tb H)] [] o<|za<|rI h o (λhc h=>zu<|q 1 [(4,tb false)] [] o<|zf<|zB<|zT<|by cases h;exact aB o (.tmp o)) λhc h=>zu<|yl 0 .here tx0 o o o tr o<|p 1 [3,6,49,50] o<|yl 1 f6 ty2 o o o tr o<|lL o ?_
 refine cB h λd4 b2 h=>av (iT _ _ b2) (ca o) o o<|p 2 [3,6,54] o ?_
 obtain⟨b5,e,h⟩:=ak h;rw[e]
 refine bL h 6 (λV=>[(3,ptr c 0),(6,ptr f 0),(60,tb V)]) (λ_=>[Res.var f 68 (.raw (fnv 85)) (fnv 85),Res.var c 30 Y30 u]) (λd5 h=>?_) λV h=>?_
 ·cases b5
  ·replace h:=ifF h
   refine ap (by rfl) o ?_
   refine yl 0 .here tx0 o o o tr o<|p 1 [3,6,54,55,56] o<|ap (by rfl) o ?_
   refine yl 1 f7 ty2 o o o tr o<|ap (by rfl) o ?_
   refine lL o ?_
   exact cB h λb7 b8 h=>av (iT _ _ b8) (ca o) o o<|p 2 [3,6,60] o<|zn<|aa [3,6,60] o<|zt<|ah (!b7) () h o o
  replace h:=ifT h
  exact p 6 [3,6,60] o<|zn<|aa [3,6,60] o<|zt<|ah true () h o o
 refine q 1 [(3,ptr c 0),(6,ptr f 0),(61,tb V)] [] o<|bL h 6 (λG=>[(3,ptr c 0),(6,ptr f 0),(67,tb G)]) (λ_=>[Res.var f 68 (.raw (fnv 85)) (fnv 85),Res.var c 30 Y30 u]) (λd6 h=>?_) λG h=>?_
 ·cases V
  ·replace h:=ifF h
   refine ap (by rfl) o ?_
   refine yl 0 .here tx0 o o o tr o<|p 1 [3,6,61,62,63] o<|ap (by rfl) o ?_
   refine yl 1 f8 ty2 o o o tr o<|ap (by rfl) o ?_
   refine lL o ?_
   exact cB h λb9 c0 h=>av (iT _ _ c0) (ca o) o o<|p 2 [3,6,67] o<|zn<|aa [3,6,67] o<|zt<|ah (!b9) () h o o
  replace h:=ifT h
  exact p 6 [3,6,67] o<|zn<|aa [3,6,67] o<|zt<|ah true () h o o
 refine q 1 [(3,ptr c 0),(6,ptr f 0),(48,tb G)] [] o<|za<|rI h o (λhc h=>zu<|q 1 [(4,tb false)] [] o<|zf<|zB<|zT<|by cases h;exact aB o (.tmp o)) λhc h=>zu<|yl 1 .here bW o o o tr o<|cB h λd7 c1 h=>rc [] (pB _ _ c1) (ca o) o o o λd8=>kK (i:=0) (k:=70) o o ?_
 refine cB h λd9 c2 h=>av (jN _ _ c2) (ca o) o o<|p 1 [3,6,68] o<|za<|rI h o (λhc h=>zu<|q 1 [(4,tb false)] [] o<|zf<|zB<|zT<|by cases h;exact aB o (.tmp o)) λhc h=>zu<|p 1 [3,6,73] o<|yl 1 f15 ru o o o tr o<|q 3 [(77,tb (decide ((List.length u.2.2.2.2.2.2.2.2.2.2.2.2.2.2.2.1:Int)>49)))] [3,6] o ?_
 obtain⟨c3,e,h⟩:=ak h;rw[e]
 refine bL h 5 (λN=>[(3,ptr c 0),(82,tb N)]) (λ_=>[Res.var f 68 (.raw (fnv 85)) (fnv 85),Res.var c 30 Y30 u]) (λe0 h=>?_) λN h=>?_
 ·cases c3
  ·replace h:=ifF h
   refine p 1 [3,6,77,78] o<|ap (by rfl) o ?_
   refine yl 1 f15 ru o o o tr o<|ap (by rfl) o ?_
   refine y (yI o) o ?_
   refine ap (by rfl) o ?_
   exact cB h λc4 c5 h=>rc [0] (im _ _ _ c5) (ca o) o o o λ_=>p 1 [3,82] o<|zn<|aa [3,82] o<|zt<|ah c4 () h o o
  replace h:=ifT h
  exact p 5 [3,82] o<|zn<|aa [3,82] o<|zt<|ah true () h o o
 refine q 1 [(3,ptr c 0),(72,tb N)] [] o<|za<|rI h o (λhc h=>zu<|q 1 [(4,tb false)] [] o<|zf<|zB<|zT<|by cases h;exact aB o (.tmp o)) λhc h=>zk<|zi<|zt<|zu<|p 1 [3,83] o<|yl 1 f16 ty3 o o o tr o<|cB h λc6 c7 h=>av (fT _ _ _ _ c7) (ca o) o o<|p 1 [3,86] o<|bL h 4 (λJ=>[(90,tb J)]) (λ_=>[Res.var f 68 (.raw (fnv 85)) (fnv 85),Res.var c 30 Y30 u]) (λe1 h=>?_) λJ h=>?_
 ·cases c6
  ·replace h:=ifF h
   exact q 4 [(90,tb false)] [] o<|zn<|aa [90] o<|zt<|ah false () h o o
  replace h:=ifT h
  refine q 1 [(86,tb true),(87,ptr c 114)] [] o<|ap (by rfl) o ?_
  refine yl 1 f17 ty2 o o o tr o<|ap (by rfl) o ?_
  exact cB h λd c8 h=>av (fT _ _ _ _ c8) (ca o) o o<|q 1 [(90,tb d)] [] o<|zn<|aa [90] o<|zt<|ah d () h o o
 refine q 1 [(4,tb J)] [] o<|zf ?_
 cases h
 exact aB o (.tmp o)
theorem l5(r)(h:jb=some r):Fn PP 28 [] [] (λv=>tp v) (λv=>[Res.cls aT v r]):=by
 unfold jb at h
 refine enter Tryz.func28 o 3 o o λF=>?_
 refine zu<|q 1 [] [] o<|zz<|y (bc o Ep o o .nil) o ?_
 refine bD o o λc=>cj (.slice none 0 0) o 5 (.int .u8) ?_
 refine q 1 [(0,ptr c 0)] [] o<|zf<|pk [1,0] o<|bH (x:=([],0,())) ?_
 cases h
 exact aU o (.tmp o) (λ_ _ g=>holds_raw.2 ⟨rfl,by rw[(holds_raw.1 g).1];exact(holds_raw.1 g).2⟩) (λ_ _ g=>by obtain⟨rfl,_⟩:=holds_raw.1 g;exact(.cons_cons _ .slnil))
theorem rv(C:Value)(u M H r)(h:ie u M H=some r):Fn PP 91 [tp C,.one (.int .u64) M,ti H] [Res.cls aT C u] (λ_=> .tup []) (λ_=>[Res.cls aT C r]):=by
 unfold ie at h
 refine enter Tryz.func91 o 32 o o λF=>?_
 refine cC λf w hp=>?_
 subst hp
 refine bH (x:=u) ?_
 refine zs<|zs<|iN λd=>?_
 refine zr<|q 3 [(0,ptr f 0),(1,.one (.int .u64) M),(2,ti H),(9,ptr f 1)] [] o<|yl 0 f1 fk o o o tr o<|q 1 [(11,tb (u.2.1 !=0))] [0,1,2] o<|za<|rI h o (λhc h=>?_) λhc h=>?_
 ·refine zR<|zT<|bH (x:=u) ?_
  cases h
  exact qn o (λ_=>aH [] .nil) ((.cons_cons _ .slnil))
 refine zy<|p 3 [0,1,6] o ?_
 obtain⟨m,e,h⟩:=ak h;rw[e]
 refine za<|bX h λG O h=>?_
 refine qo (γ:=Value) (λ(W:List (Int)) g7=>[]) (λ(W:List (Int)) g7=>[Res.var f 161 W38 (g7,u.2.1,u.2.2),Res.own g7 5 (.int .u8) W]) G r ?_ ?_
 ·refine zb<|aa [0,1,6] o<|aY (γ:=Value) (λ(c:Int×List (Int)) g12=>[(0,ptr f 0),(1,.one (.int .u64) M),(6,ti c.1)]) (λ(c:Int×List (Int)) g12=>[Res.var f 161 W38 (g12,u.2.1,u.2.2),Res.own g12 5 (.int .u8) c.2]) (eh M G) (m,u.1) d h o o ?_
  clear h
  intro N c g12 h
  cases N with
  |zero=>cases h
  |succ N=>
  simp only[eh]at h
  refine zs<|zu<|q 2 [(6,ti c.1),(15,tb (decide (c.1≥0)))] [0,1] o<|za<|rI h o (λhc h=>?_) λhc h=>?_
  ·refine zk<|zt<|zs<|zb<|dF (by kernel_rfl)<|ae 0 (ptr f 0) o (by kernel_rfl) o<|ae 1 (ptr f 0) o (by kernel_rfl) o<|ae 5 (.one (.int .u64) M) o (by kernel_rfl) o<|ae 6 (ti c.1) o (by kernel_rfl) o<|ae 7 (ti (wrap .i64 (8*c.1))) o (by kernel_rfl) o<|iE h λhc h=>fH 8 (.one (.int .u64) (bQ .u64 M (wrap .i64 (8*c.1)))) o (by kernel_rfl) (ny o o hc)<|ae 9 (.one (.int .u8) (wrap .u8 (bQ .u64 M (wrap .i64 (8*c.1))))) o (by kernel_rfl) o ?_
   refine br (i:=2) (j:=10) (by kernel_rfl) o o ?_ ?_
   ·refine q 1 [(18,ptr f 0),(20,ptr f 0),(27,.one (.int .u8) (wrap .u8 (bQ .u64 M (wrap .i64 (8*c.1)))))] [0,1,6] o<|za<|aa [0,1,6,18,20,27] o<|ae 3 (ptr f 0) o (by kernel_rfl) o ?_
    refine br (i:=4) (j:=10) (by kernel_rfl) o o ?_ ?_
    ·refine yl 0 f0 tx1 o o o tr o<|za<|aa [0,1,6,18,22,27] o<|af 10 (by kernel_rfl) o<|bE (B:=1) ai o el5 o o o (.cons o .nil) o λJ=>?_
     refine za<|aa [0,1,6,18,22,28] o<|af 11 (by kernel_rfl) o<|iE h λhc h=>bq (B:=1) ai 2 o o (bZ 0 o o) o el5 o o hc o λV=>?_
     refine pk [1,1] o<|za<|aa [0,1,6,18,29] o<|af 12 (by kernel_rfl) o<|p 1 [0,1,6,29,30] o<|za<|aa [0,1,6,29,30] o<|ae 13 (ptr f 0) o (by kernel_rfl) o<|af 14 (by kernel_rfl) o<|st 0 f0 tx1 o o o o tr<|nL o<|za<|aa [0,1,6] o<|aN (by kernel_rfl) ?_
     refine zi<|zt<|zr<|q 3 [(6,ti (wrap .i64 (c.1 - 1)))] [0,1] o ?_
     obtain⟨R,e,h⟩:=ak h;rw[e]
     exact za<|aa [0,1,6] o<|aR (R,(c.2++[(wrap .u8 (bQ .u64 M (wrap .i64 (8*c.1))))])) V (Nat.lt_succ_self _) h o o
    refine bE (B:=1) ai o el5 o o o (.cons o .nil) o λJ=>?_
    refine za<|aa [0,1,6,18,21,28] o<|af 4 (by kernel_rfl) o<|yl 1 f0 tx1 o o o tr o<|za<|aa [0,1,6,18,22,28] o<|af 11 (by kernel_rfl) o<|iE h λhc h=>bq (B:=1) ai 2 o o (bZ 0 o o) o el5 o o hc o λV=>?_
    refine pk [1,1] o<|za<|aa [0,1,6,18,29] o<|af 12 (by kernel_rfl) o<|p 1 [0,1,6,29,30] o<|za<|aa [0,1,6,29,30] o<|ae 13 (ptr f 0) o (by kernel_rfl) o<|af 14 (by kernel_rfl) o<|st 0 f0 tx1 o o o o tr<|nL o<|za<|aa [0,1,6] o<|aN (by kernel_rfl) ?_
    refine zi<|zt<|zr<|q 3 [(6,ti (wrap .i64 (c.1 - 1)))] [0,1] o ?_
    obtain⟨R,e,h⟩:=ak h;rw[e]
    exact za<|aa [0,1,6] o<|aR (R,(c.2++[(wrap .u8 (bQ .u64 M (wrap .i64 (8*c.1))))])) V (Nat.lt_succ_self _) h o o
   refine bE (B:=1) ai o el5 o o o (.cons o .nil) o λJ=>?_
   refine za<|aa [0,1,6,18,19,28] o<|af 2 (by kernel_rfl) o<|p 1 [0,1,6,18,20,28] o<|za<|aa [0,1,6,18,20,28] o<|ae 3 (ptr f 0) o (by kernel_rfl) o<|af 4 (by kernel_rfl) o<|yl 1 f0 tx1 o o o tr o<|za<|aa [0,1,6,18,22,28] o<|af 11 (by kernel_rfl) o<|iE h λhc h=>bq (B:=1) ai 2 o o (bZ 0 o o) o el5 o o hc o λV=>?_
   refine pk [1,1] o<|za<|aa [0,1,6,18,29] o<|af 12 (by kernel_rfl) o<|p 1 [0,1,6,29,30] o<|za<|aa [0,1,6,29,30] o<|ae 13 (ptr f 0) o (by kernel_rfl) o<|af 14 (by kernel_rfl) o<|st 0 f0 tx1 o o o o tr<|nL o<|za<|aa [0,1,6] o<|aN (by kernel_rfl) ?_
   refine zi<|zt<|zr<|q 3 [(6,ti (wrap .i64 (c.1 - 1)))] [0,1] o ?_
   obtain⟨R,e,h⟩:=ak h;rw[e]
   exact za<|aa [0,1,6] o<|aR (R,(c.2++[(wrap .u8 (bQ .u64 M (wrap .i64 (8*c.1))))])) V (Nat.lt_succ_self _) h o o
  exact zx<|ze<|ze<|zq<|zt<|aa [] o<|ah c.2 g12 h o o
 intro W g7 h
 rw[←O]at h
 try dsimp only at h
 refine bH (x:=(W,u.2.1,u.2.2)) ?_
 cases h
 exact dV o (λ_=>aH [] .nil) ((.cons_cons _ .slnil))
theorem cF(c:Value)(f u r)(h:bM f u=some r):Fn PP 29 [tp c,ti u] [Res.cls aT c f] (λ_=> .tup []) (λ_=>[Res.cls aT c r]):=by
 unfold bM at h
 refine enter Tryz.func29 o 8 o o λF=>?_
 refine cC λM R hp=>?_
 subst hp
 refine bH (x:=f) ?_
 refine zr<|q 3 [(4,ptr M 0),(6,.one (.int .u64) (wrap .u64 u))] [] o<|cB h λW V h=>rc [0] (rv _ _ _ _ _ V) (ca o) o o o λ_=>zn ?_
 cases h
 exact dV o (λ_=>aH [] .nil) ((.cons_cons _ .slnil))
theorem rW(C:Value)(M u H r)(h:iM M u H=some r):Fn PP 92 [tp C,.one (.int .u8) u,ti H] [Res.cls aT C M] (λ_=> .tup []) (λ_=>[Res.cls aT C r]):=by
 unfold iM at h
 refine enter Tryz.func92 o 33 o o λF=>?_
 refine cC λf w hp=>?_
 subst hp
 refine bH (x:=M) ?_
 refine zs<|zs<|iN λd=>?_
 refine zr<|q 3 [(0,ptr f 0),(1,.one (.int .u8) u),(2,ti H),(9,ptr f 1)] [] o<|yl 0 f1 fk o o o tr o<|q 1 [(11,tb (M.2.1 !=0))] [0,1,2] o<|za<|rI h o (λhc h=>?_) λhc h=>?_
 ·refine zR<|zT<|bH (x:=M) ?_
  cases h
  exact qn o (λ_=>aH [] .nil) ((.cons_cons _ .slnil))
 refine zy<|p 3 [0,1,6] o ?_
 obtain⟨m,e,h⟩:=ak h;rw[e]
 refine za<|bX h λG O h=>?_
 refine qo (γ:=Value) (λ(W:List (Int)) g7=>[]) (λ(W:List (Int)) g7=>[Res.var f 161 W38 (g7,M.2.1,M.2.2),Res.own g7 5 (.int .u8) W]) G r ?_ ?_
 ·refine zb<|aa [0,1,6] o<|aY (γ:=Value) (λ(c:Int×List (Int)) g12=>[(0,ptr f 0),(1,.one (.int .u8) u),(6,ti c.1)]) (λ(c:Int×List (Int)) g12=>[Res.var f 161 W38 (g12,M.2.1,M.2.2),Res.own g12 5 (.int .u8) c.2]) (eU u G) (m,M.1) d h o o ?_
  clear h
  intro N c g12 h
  cases N with
  |zero=>cases h
  |succ N=>
  simp only[eU]at h
  refine zs<|zu<|q 2 [(6,ti c.1),(15,tb (decide (c.1≥0)))] [0,1] o<|za<|rI h o (λhc h=>?_) λhc h=>?_
  ·refine zk<|zt<|zs<|zb<|dF (by kernel_rfl)<|ae 0 (ptr f 0) o (by kernel_rfl) o<|ae 1 (ptr f 0) o (by kernel_rfl) o<|ae 5 (.one (.int .u8) u) o (by kernel_rfl) o<|ae 6 (.one (.int .u64) (wrap .u64 u)) o (by kernel_rfl) o<|ae 7 (ti c.1) o (by kernel_rfl) o<|ae 8 (ti (wrap .i64 (8*c.1))) o (by kernel_rfl) o<|iE h λhc h=>fH 9 (.one (.int .u64) (bQ .u64 (wrap .u64 u) (wrap .i64 (8*c.1)))) o (by kernel_rfl) (ny o o hc)<|ae 10 (.one (.int .u8) (wrap .u8 (bQ .u64 (wrap .u64 u) (wrap .i64 (8*c.1))))) o (by kernel_rfl) o ?_
   refine br (i:=2) (j:=11) (by kernel_rfl) o o ?_ ?_
   ·refine q 1 [(18,ptr f 0),(20,ptr f 0),(28,.one (.int .u8) (wrap .u8 (bQ .u64 (wrap .u64 u) (wrap .i64 (8*c.1)))))] [0,1,6] o<|za<|aa [0,1,6,18,20,28] o<|ae 3 (ptr f 0) o (by kernel_rfl) o ?_
    refine br (i:=4) (j:=11) (by kernel_rfl) o o ?_ ?_
    ·refine yl 0 f0 tx1 o o o tr o<|za<|aa [0,1,6,18,22,28] o<|af 11 (by kernel_rfl) o<|bE (B:=1) ai o el5 o o o (.cons o .nil) o λJ=>?_
     refine za<|aa [0,1,6,18,22,29] o<|af 12 (by kernel_rfl) o<|iE h λhc h=>bq (B:=1) ai 2 o o (bZ 0 o o) o el5 o o hc o λV=>?_
     refine pk [1,1] o<|za<|aa [0,1,6,18,30] o<|af 13 (by kernel_rfl) o<|p 1 [0,1,6,30,31] o<|za<|aa [0,1,6,30,31] o<|ae 14 (ptr f 0) o (by kernel_rfl) o<|af 15 (by kernel_rfl) o<|st 0 f0 tx1 o o o o tr<|nL o<|za<|aa [0,1,6] o<|aN (by kernel_rfl) ?_
     refine zi<|zt<|zr<|q 3 [(6,ti (wrap .i64 (c.1 - 1)))] [0,1] o ?_
     obtain⟨R,e,h⟩:=ak h;rw[e]
     exact za<|aa [0,1,6] o<|aR (R,(c.2++[(wrap .u8 (bQ .u64 (wrap .u64 u) (wrap .i64 (8*c.1))))])) V (Nat.lt_succ_self _) h o o
    refine bE (B:=1) ai o el5 o o o (.cons o .nil) o λJ=>?_
    refine za<|aa [0,1,6,18,21,29] o<|af 4 (by kernel_rfl) o<|yl 1 f0 tx1 o o o tr o<|za<|aa [0,1,6,18,22,29] o<|af 12 (by kernel_rfl) o<|iE h λhc h=>bq (B:=1) ai 2 o o (bZ 0 o o) o el5 o o hc o λV=>?_
    refine pk [1,1] o<|za<|aa [0,1,6,18,30] o<|af 13 (by kernel_rfl) o<|p 1 [0,1,6,30,31] o<|za<|aa [0,1,6,30,31] o<|ae 14 (ptr f 0) o (by kernel_rfl) o<|af 15 (by kernel_rfl) o<|st 0 f0 tx1 o o o o tr<|nL o<|za<|aa [0,1,6] o<|aN (by kernel_rfl) ?_
    refine zi<|zt<|zr<|q 3 [(6,ti (wrap .i64 (c.1 - 1)))] [0,1] o ?_
    obtain⟨R,e,h⟩:=ak h;rw[e]
    exact za<|aa [0,1,6] o<|aR (R,(c.2++[(wrap .u8 (bQ .u64 (wrap .u64 u) (wrap .i64 (8*c.1))))])) V (Nat.lt_succ_self _) h o o
   refine bE (B:=1) ai o el5 o o o (.cons o .nil) o λJ=>?_
   refine za<|aa [0,1,6,18,19,29] o<|af 2 (by kernel_rfl) o<|p 1 [0,1,6,18,20,29] o<|za<|aa [0,1,6,18,20,29] o<|ae 3 (ptr f 0) o (by kernel_rfl) o<|af 4 (by kernel_rfl) o<|yl 1 f0 tx1 o o o tr o<|za<|aa [0,1,6,18,22,29] o<|af 12 (by kernel_rfl) o<|iE h λhc h=>bq (B:=1) ai 2 o o (bZ 0 o o) o el5 o o hc o λV=>?_
   refine pk [1,1] o<|za<|aa [0,1,6,18,30] o<|af 13 (by kernel_rfl) o<|p 1 [0,1,6,30,31] o<|za<|aa [0,1,6,30,31] o<|ae 14 (ptr f 0) o (by kernel_rfl) o<|af 15 (by kernel_rfl) o<|st 0 f0 tx1 o o o o tr<|nL o<|za<|aa [0,1,6] o<|aN (by kernel_rfl) ?_
   refine zi<|zt<|zr<|q 3 [(6,ti (wrap .i64 (c.1 - 1)))] [0,1] o ?_
   obtain⟨R,e,h⟩:=ak h;rw[e]
   exact za<|aa [0,1,6] o<|aR (R,(c.2++[(wrap .u8 (bQ .u64 (wrap .u64 u) (wrap .i64 (8*c.1))))])) V (Nat.lt_succ_self _) h o o
  exact zx<|ze<|ze<|zq<|zt<|aa [] o<|ah c.2 g12 h o o
 intro W g7 h
 rw[←O]at h
 try dsimp only at h
 refine bH (x:=(W,M.2.1,M.2.2)) ?_
 cases h
 exact dV o (λ_=>aH [] .nil) ((.cons_cons _ .slnil))
theorem fJ(c:Value)(f u r)(h:cS f u=some r):Fn PP 30 [tp c,.one (.int .u8) u] [Res.cls aT c f] (λ_=> .tup []) (λ_=>[Res.cls aT c r]):=by
 unfold cS at h
 refine enter Tryz.func30 o 7 o o λF=>?_
 refine cC λM R hp=>?_
 subst hp
 refine bH (x:=f) ?_
 refine zr<|q 2 [(4,ptr M 0),(5,.one (.int .u8) u)] [] o<|cB h λW V h=>rc [0] (rW _ _ _ _ _ V) (ca o) o o o λ_=>zn ?_
 cases h
 exact dV o (λ_=>aH [] .nil) ((.cons_cons _ .slnil))
theorem mS(C:Value)(M u H r)(h:gp M u H=some r):Fn PP 95 [tp C,.one (.int .u16) u,ti H] [Res.cls aT C M] (λ_=> .tup []) (λ_=>[Res.cls aT C r]):=by
 unfold gp at h
 refine enter Tryz.func95 o 33 o o λF=>?_
 refine cC λf w hp=>?_
 subst hp
 refine bH (x:=M) ?_
 refine zs<|zs<|iN λd=>?_
 refine zr<|q 3 [(0,ptr f 0),(1,.one (.int .u16) u),(2,ti H),(9,ptr f 1)] [] o<|yl 0 f1 fk o o o tr o<|q 1 [(11,tb (M.2.1 !=0))] [0,1,2] o<|za<|rI h o (λhc h=>?_) λhc h=>?_
 ·refine zR<|zT<|bH (x:=M) ?_
  cases h
  exact qn o (λ_=>aH [] .nil) ((.cons_cons _ .slnil))
 refine zy<|p 3 [0,1,6] o ?_
 obtain⟨m,e,h⟩:=ak h;rw[e]
 refine za<|bX h λG O h=>?_
 refine qo (γ:=Value) (λ(W:List (Int)) g7=>[]) (λ(W:List (Int)) g7=>[Res.var f 161 W38 (g7,M.2.1,M.2.2),Res.own g7 5 (.int .u8) W]) G r ?_ ?_
 ·refine zb<|aa [0,1,6] o<|aY (γ:=Value) (λ(c:Int×List (Int)) g12=>[(0,ptr f 0),(1,.one (.int .u16) u),(6,ti c.1)]) (λ(c:Int×List (Int)) g12=>[Res.var f 161 W38 (g12,M.2.1,M.2.2),Res.own g12 5 (.int .u8) c.2]) (ej u G) (m,M.1) d h o o ?_
  clear h
  intro N c g12 h
  cases N with
  |zero=>cases h
  |succ N=>
  simp only[ej]at h
  refine zs<|zu<|q 2 [(6,ti c.1),(15,tb (decide (c.1≥0)))] [0,1] o<|za<|rI h o (λhc h=>?_) λhc h=>?_
  ·refine zk<|zt<|zs<|zb<|dF (by kernel_rfl)<|ae 0 (ptr f 0) o (by kernel_rfl) o<|ae 1 (ptr f 0) o (by kernel_rfl) o<|ae 5 (.one (.int .u16) u) o (by kernel_rfl) o<|ae 6 (.one (.int .u64) (wrap .u64 u)) o (by kernel_rfl) o<|ae 7 (ti c.1) o (by kernel_rfl) o<|ae 8 (ti (wrap .i64 (8*c.1))) o (by kernel_rfl) o<|iE h λhc h=>fH 9 (.one (.int .u64) (bQ .u64 (wrap .u64 u) (wrap .i64 (8*c.1)))) o (by kernel_rfl) (ny o o hc)<|ae 10 (.one (.int .u8) (wrap .u8 (bQ .u64 (wrap .u64 u) (wrap .i64 (8*c.1))))) o (by kernel_rfl) o ?_
   refine br (i:=2) (j:=11) (by kernel_rfl) o o ?_ ?_
   ·refine q 1 [(18,ptr f 0),(20,ptr f 0),(28,.one (.int .u8) (wrap .u8 (bQ .u64 (wrap .u64 u) (wrap .i64 (8*c.1)))))] [0,1,6] o<|za<|aa [0,1,6,18,20,28] o<|ae 3 (ptr f 0) o (by kernel_rfl) o ?_
    refine br (i:=4) (j:=11) (by kernel_rfl) o o ?_ ?_
    ·refine yl 0 f0 tx1 o o o tr o<|za<|aa [0,1,6,18,22,28] o<|af 11 (by kernel_rfl) o<|bE (B:=1) ai o el5 o o o (.cons o .nil) o λJ=>?_
     refine za<|aa [0,1,6,18,22,29] o<|af 12 (by kernel_rfl) o<|iE h λhc h=>bq (B:=1) ai 2 o o (bZ 0 o o) o el5 o o hc o λV=>?_
     refine pk [1,1] o<|za<|aa [0,1,6,18,30] o<|af 13 (by kernel_rfl) o<|p 1 [0,1,6,30,31] o<|za<|aa [0,1,6,30,31] o<|ae 14 (ptr f 0) o (by kernel_rfl) o<|af 15 (by kernel_rfl) o<|st 0 f0 tx1 o o o o tr<|nL o<|za<|aa [0,1,6] o<|aN (by kernel_rfl) ?_
     refine zi<|zt<|zr<|q 3 [(6,ti (wrap .i64 (c.1 - 1)))] [0,1] o ?_
     obtain⟨R,e,h⟩:=ak h;rw[e]
     exact za<|aa [0,1,6] o<|aR (R,(c.2++[(wrap .u8 (bQ .u64 (wrap .u64 u) (wrap .i64 (8*c.1))))])) V (Nat.lt_succ_self _) h o o
    refine bE (B:=1) ai o el5 o o o (.cons o .nil) o λJ=>?_
    refine za<|aa [0,1,6,18,21,29] o<|af 4 (by kernel_rfl) o<|yl 1 f0 tx1 o o o tr o<|za<|aa [0,1,6,18,22,29] o<|af 12 (by kernel_rfl) o<|iE h λhc h=>bq (B:=1) ai 2 o o (bZ 0 o o) o el5 o o hc o λV=>?_
    refine pk [1,1] o<|za<|aa [0,1,6,18,30] o<|af 13 (by kernel_rfl) o<|p 1 [0,1,6,30,31] o<|za<|aa [0,1,6,30,31] o<|ae 14 (ptr f 0) o (by kernel_rfl) o<|af 15 (by kernel_rfl) o<|st 0 f0 tx1 o o o o tr<|nL o<|za<|aa [0,1,6] o<|aN (by kernel_rfl) ?_
    refine zi<|zt<|zr<|q 3 [(6,ti (wrap .i64 (c.1 - 1)))] [0,1] o ?_
    obtain⟨R,e,h⟩:=ak h;rw[e]
    exact za<|aa [0,1,6] o<|aR (R,(c.2++[(wrap .u8 (bQ .u64 (wrap .u64 u) (wrap .i64 (8*c.1))))])) V (Nat.lt_succ_self _) h o o
   refine bE (B:=1) ai o el5 o o o (.cons o .nil) o λJ=>?_
   refine za<|aa [0,1,6,18,19,29] o<|af 2 (by kernel_rfl) o<|p 1 [0,1,6,18,20,29] o<|za<|aa [0,1,6,18,20,29] o<|ae 3 (ptr f 0) o (by kernel_rfl) o<|af 4 (by kernel_rfl) o<|yl 1 f0 tx1 o o o tr o<|za<|aa [0,1,6,18,22,29] o<|af 12 (by kernel_rfl) o<|iE h λhc h=>bq (B:=1) ai 2 o o (bZ 0 o o) o el5 o o hc o λV=>?_
   refine pk [1,1] o<|za<|aa [0,1,6,18,30] o<|af 13 (by kernel_rfl) o<|p 1 [0,1,6,30,31] o<|za<|aa [0,1,6,30,31] o<|ae 14 (ptr f 0) o (by kernel_rfl) o<|af 15 (by kernel_rfl) o<|st 0 f0 tx1 o o o o tr<|nL o<|za<|aa [0,1,6] o<|aN (by kernel_rfl) ?_
   refine zi<|zt<|zr<|q 3 [(6,ti (wrap .i64 (c.1 - 1)))] [0,1] o ?_
   obtain⟨R,e,h⟩:=ak h;rw[e]
   exact za<|aa [0,1,6] o<|aR (R,(c.2++[(wrap .u8 (bQ .u64 (wrap .u64 u) (wrap .i64 (8*c.1))))])) V (Nat.lt_succ_self _) h o o
  exact zx<|ze<|ze<|zq<|zt<|aa [] o<|ah c.2 g12 h o o
 intro W g7 h
 rw[←O]at h
 try dsimp only at h
 refine bH (x:=(W,M.2.1,M.2.2)) ?_
 cases h
 exact dV o (λ_=>aH [] .nil) ((.cons_cons _ .slnil))
theorem ep(c:Value)(f u r)(h:cV f u=some r):Fn PP 33 [tp c,.one (.int .u16) u] [Res.cls aT c f] (λ_=> .tup []) (λ_=>[Res.cls aT c r]):=by
 unfold cV at h
 refine enter Tryz.func33 o 7 o o λF=>?_
 refine cC λM R hp=>?_
 subst hp
 refine bH (x:=f) ?_
 refine zr<|q 2 [(4,ptr M 0),(5,.one (.int .u16) u)] [] o<|cB h λW V h=>rc [0] (mS _ _ _ _ _ V) (ca o) o o o λ_=>zn ?_
 cases h
 exact dV o (λ_=>aH [] .nil) ((.cons_cons _ .slnil))
theorem iw(u:Value)(c f r)(h:eN c f=some r):Fn PP 94 [tp u,ts f] [Res.cls aT u c] (λ_=> .tup []) (λ_=>[Res.cls aT u r]):=by
 unfold eN at h
 refine enter Tryz.func94 o 18 o o λF=>?_
 refine cC λM R hp=>?_
 subst hp
 refine bH (x:=c) ?_
 refine zs<|iN λW=>?_
 refine zr<|q 3 [(0,ptr M 0),(1,ts f),(6,ptr M 1)] [] o<|yl 0 f1 fk o o o tr o<|q 1 [(8,tb (c.2.1==0))] [0,1] o<|za<|rI h o (λhc h=>?_) λhc h=>?_
 ·refine zr<|p 4 [1,9,12] o<|yl 0 f0 tx1 o o o tr o<|p 1 [9,13,14] o<|iE h λhc h=>bq (B:=1) ai 1 o o (yb o) o el5 o o hc o λV=>?_
  refine q 2 [(15,.one W51 V),(17,ptr M 0)] [] o<|st 0 f0 tx1 o o o o tr<|nL o<|zn<|bH (x:=((c.1++f),c.2.1,c.2.2)) ?_
  cases h
  exact dV o (λ_=>aH [] .nil) ((.cons_cons _ .slnil))
 refine zk<|bH (x:=c) ?_
 cases h
 exact dV o (λ_=>aH [] .nil) ((.cons_cons _ .slnil))
theorem dP(c:Value)(f u r)(h:cw f u=some r):Fn PP 35 [tp c,.one W55 u] [Res.cls aT c f] (λ_=> .tup []) (λ_=>[Res.cls aT c r]):=by
 unfold cw at h
 refine enter Tryz.func35 o 8 o o λF=>?_
 refine cC λM W hp=>?_
 subst hp
 refine bH (x:=f) ?_
 refine zu<|bD o o λV=>za<|zr<|q 1 [(3,ptr V 0),(4,ptr M 0)] [] o<|y (ta o uh o ty5) o ?_
 refine y (vW ai 0 .here o o o ab o o o o) o ?_
 refine cB h λC R h=>rc [1] (iw _ _ _ _ R) (ca o) o o o λ_=>zn ?_
 cases h
 exact dV o (λ_=>aH [] .nil) ((.cons_cons _ (.cons _ .slnil)))
theorem qw(M:Value)(c f r)(h:gR c f=some r):Fn PP 142 [tp M,ts f] [Res.cls aT M c] (λ_=> .tup []) (λ_=>[Res.cls aT M r]):=by
 unfold gR at h
 refine enter Tryz.func142 o 25 o o λF=>?_
 refine cC λu G hp=>?_
 subst hp
 refine bH (x:=c) ?_
 refine bv h (λV=>[(0,ptr u 0),(1,ts f)]) (λV=>[Res.cls aT (.pointer (some ⟨u,0,none⟩)) V]) (λN h=>?_) λV h=>?_
 ·refine zs<|iN λR=>?_
  refine zr<|q 3 [(0,ptr u 0),(1,ts f),(6,ptr u 1)] [] o<|yl 0 f1 fk o o o tr o<|q 2 [(9,tb (c.2.1==0))] [0,1] o ?_
  obtain⟨W,e,h⟩:=ak h;rw[e]
  refine aJ 4 [(0,ptr u 0),(1,ts f),(13,tb (W&&(decide ((List.length f:Int)>65535))))] [Res.var u 161 W38 (R,c.2.1,c.2.2),Res.own R 5 (.int .u8) c.1] (?_) ?_
  ·clear h
   cases W
   ·exact p 4 [0,1,13] o<|za<|ao () o o
   exact q 4 [(13,tb (decide ((List.length f:Int)>65535)))] [0,1] o<|aa [0,1,13] o<|za<|ao () o o
  refine za<|rI h o (λhc h=>?_) λhc h=>?_
  ·refine zr<|q 3 [(0,ptr u 0),(1,ts f),(16,ptr u 1)] [] o<|st 0 f1 fk o o o o tr<|za<|bH (x:=(c.1,3,c.2.2)) ?_
   exact aa [0,1] o<|ah (c.1,3,c.2.2) () h o o
  refine zk<|zt<|bH (x:=c) ?_
  exact aa [0,1] o<|ah c () h o o
 refine zu<|q 4 [(0,ptr u 0),(1,ts f),(17,ptr u 0),(20,.one (.int .u16) (wrap .u16 (List.length f:Int)))] [] o<|cB h λJ C h=>rc [0] (mS _ _ _ _ _ C) (ca o) o o o λ_=>za<|zr<|q 2 [(22,ptr u 0),(23,ts f)] [] o<|cB h λd H h=>rc [0] (iw _ _ _ _ H) (ca o) o o o λ_=>zn ?_
 cases h
 exact dV o (λ_=>aH [] .nil) ((.cons_cons _ .slnil))
theorem gm(f:Value)(c r)(h:cW c=some r):Fn PP 37 [tp f] [Res.cls aT f c] (λ_=> .tup [⟨.str,r.1⟩,⟨(.int .i64),r.2⟩]) (λ_=>[Res.cls aT f c]):=by
 unfold cW at h
 refine enter Tryz.func37 o 18 o o λF=>?_
 refine cC λu M hp=>?_
 subst hp
 refine bH (x:=c) ?_
 refine zu<|q 2 [(0,ptr u 0)] [] o<|za<|zs<|zs<|iN λV=>?_
 refine zr<|p 3 [0,6] o<|yl 0 f1 fk o o o tr o<|q 1 [(8,tb (c.2.1 !=0))] [0] o<|za<|rI h o (λhc h=>?_) λhc h=>?_
 ·refine zs<|eE (by kernel_rfl) (by kernel_rfl) ?_
  refine aA ai 3 [11] (E':=[(11,ptr u 1)]) o ?_
  refine q_y (aM 0 f1 o o o (ag (ay ab)) fk) o ?_
  refine aA ai 2 [2,3] (E':=[(2,ts []),(3,ti c.2.1)]) o ?_
  refine eX ?_
  refine zt<|zR<|zT<|bH (x:=c) ?_
  cases h
  exact aF (rs:=[.tmp 2,.tmp 3]) o (.cons (.tmp o) (.cons (.tmp o) (.nil))) o (λ_ vs g=>aH vs g) (λ_ _ _=>(.cons_cons _ .slnil))
 refine zy<|q 3 [(15,ptr u 0)] [] o<|yl 0 f0 tx1 o o o tr o<|y (uv ai 1 o o o o o) o ?_
 refine q 2 [(2,ts c.1),(3,ti 0)] [] o<|zf<|bH (x:=c) ?_
 cases h
 exact aF (rs:=[.tmp 2,.tmp 3]) o (.cons (.tmp o) (.cons (.tmp o) (.nil))) o (λ_ vs g=>aH vs g) (λ_ _ _=>(.cons_cons _ .slnil))
theorem pC(c r)(h:jE c=some r):bn PP 93 [.one Y52 c] (.tup [⟨.str,r.1⟩,⟨(.int .i64),r.2⟩]):=by
 unfold jE at h
 refine enter Tryz.func93 o 47 o o λF=>?_
 refine zu<|bD o o λM=>q 2 [(1,ptr M 0)] [] o<|za<|zs<|zu<|yl 0 .here bI o o o tr o<|cB h λr3 R h=>av (hJ _ _ R) (ca o) o o<|p 1 [1,7] o<|za<|rI h o (λhc h=>zu<|q 2 [(2,ts []),(3,ti 120)] [] o<|zf<|zT<|by cases h;exact aF (rs:=[.tmp 2,.tmp 3]) o (.cons (.tmp o) (.cons (.tmp o) (.nil))) o (λ_ vs g=>aH vs g) (λ_ _ _=>List.nil_sublist _)) λhc h=>?_
 refine zy<|cB h λr4 W h=>rc [] (l5 _ W) (ca o) o o o λf=>p 1 [1,4] o<|zz<|p 2 [1,4,9,10] o<|yl 1 f0 ty3 o o o tr o<|q 1 [(12,.one (.int .u8) (wrap .u8 c.1))] [1,4,9] o<|cB h λr6 C h=>rc [0] (fJ _ _ _ _ C) (ca o) o o o λ_=>zz<|p 2 [1,4,14,15] o<|yl 1 f1 ty2 o o o tr o<|q 1 [(17,.one (.int .u16) (wrap .u16 c.2.1))] [1,4,14] o ?_
 refine cB h λH G h=>rc [0] (ep _ _ _ _ G) (ca o) o o o λ_=>za<|bv h (λu=>[(4,tp f)]) (λu=>[Res.cls aT f u,Res.var M 52 Y52 c]) (λk8 h=>?_) λu h=>?_
 ·refine zu<|p 1 [1,4,19] o<|yl 1 f0 ty3 o o o tr o<|za<|zb<|zu<|q 2 [(20,ti c.1),(21,tb (c.1==1))] [1,4] o<|za<|rI h o (λhc h=>zu<|p 2 [1,4,23,24] o<|yl 1 f2 ty2 o o o tr o<|cB h λa2 N h=>rc [0] (cF _ _ _ _ N) (ca o) o o o λ_=>za<|zr<|p 2 [4,27,28] o<|yl 1 f3 bK o o o tr o<|cB h λJ d h=>rc [0] (dP _ _ _ _ d) (ca o) o o o λ_=>zn<|zi<|zt<|aa [4] o<|ah J () h o o) λhc h=>zu<|q 2 [(31,tb (c.1==2))] [1,4,20] o<|za<|rI h o (λhc h=>zr<|p 2 [4,33,34] o<|yl 1 f3 bK o o o tr o<|cB h λm O h=>rc [0] (dP _ _ _ _ O) (ca o) o o o λ_=>zn<|zi<|zt<|aa [4] o<|ah m () h o o) λhc h=>?_
  exact zu<|q 2 [(37,tb (c.1==3))] [1,4] o<|za<|rI h o (λhc h=>zr<|p 2 [4,39,40] o<|yl 1 f4 ty9 o o o tr o<|cB h λw Z h=>rc [0] (qw _ _ _ _ Z) (ca o) o o o λ_=>zn<|zi<|zt<|aa [4] o<|ah w () h o o) λhc h=>zk<|zi<|zt<|aa [4] o<|ah H () h o o
 refine zu<|q 1 [(43,tp f)] [] o<|cB h λV a1 h=>rc [0] (gm _ _ _ a1) (ca o) o o o λ_=>q 4 [(2,ts V.1),(3,ti V.2)] [] o<|zf ?_
 cases h
 exact aF (rs:=[.tmp 2,.tmp 3]) o (.cons (.tmp o) (.cons (.tmp o) (.nil))) o (λ_ vs g=>aH vs g) (λ_ _ _=>List.nil_sublist _)
theorem rN(M:Value)(V c r)(h:kW V c=some r):Fn PP 31 [tp M,.one W65 c] [Res.cls aT M V] (λ_=> .tup []) (λ_=>[Res.cls aT M r]):=by
 unfold kW at h
 refine enter Tryz.func31 o 28 o o λF=>?_
 refine cC λu w hp=>?_
 subst hp
 refine bH (x:=V) ?_
 refine zu<|q 4 [(0,ptr u 0),(1,.one W65 c),(8,ptr u 0),(11,.one (.int .u16) (wrap .u16 (List.length c:Int)))] [] o<|cB h λG N h=>rc [0] (ep _ _ _ _ N) (ca o) o o o λ_=>zz<|q 3 [(13,.one W65 c),(14,ti (List.length c:Int)),(15,ti 0)] [0] o<|za<|bX h λW J h=>?_
 refine qo (γ:=Unit) (λ(R:bm) _=>[]) (λ(R:bm) _=>[Res.cls aT (.pointer (some ⟨u,0,none⟩)) R]) W r ?_ ?_
 ·refine zb<|aa [0,13,14,15] o<|aY (γ:=Unit) (λ(f:Int×bm) _=>[(0,ptr u 0),(13,.one W65 c),(14,ti (List.length c:Int)),(15,ti f.1)]) (λ(f:Int×bm) _=>[Res.cls aT (.pointer (some ⟨u,0,none⟩)) f.2]) (hZ c W) (0,G) () h o o ?_
  clear h
  intro C f gg h
  cases C with
  |zero=>cases h
  |succ C=>
  simp only[hZ]at h
  refine zu<|q 1 [(15,ti f.1),(16,tb (decide (f.1<(List.length c:Int))))] [0,13,14] o<|za<|zs<|rI h o (λhc h=>?_) λhc h=>?_
  ·refine zk<|zt<|zs<|zb<|zu<|iE h λhc h=>y (ff ai o o hc.1 hc.2 o bI) o ?_
   refine y (ga o bI) o ?_
   refine aD (t:=Y52) o jJ o λZ=>st 0 .here bI o o o o tr<|zz<|yl 0 .here bI o o o tr o<|cB h λH d h=>av (pC _ _ d) (ca o) o o<|q 5 [(6,ts H.1)] [0,13,14,15] o<|za<|zr<|q 2 [(24,ptr u 0),(25,ts H.1)] [0,13,14,15] o<|cB h λm O h=>rc [1] (iw _ _ _ _ O) (ca o) o o o λ_=>zn<|zi ?_
   exact zt<|zr<|q 2 [(15,ti (wrap .i64 (f.1+1)))] [0,13,14] o<|za<|pk [0] o<|aa [0,13,14,15] o<|aR ((wrap .i64 (f.1+1)),m) () (Nat.lt_succ_self _) h o o
  exact zx<|ze<|ze<|zq<|zt<|aa [] o<|ah f.2 () h o o
 intro R gg h
 rw[←J]at h
 try dsimp only at h
 cases h
 exact dV o (λ_=>aH [] .nil) ((.cons_cons _ .slnil))
theorem rO(c:Value)(f u r)(h:jT f u=some r):Fn PP 34 [tp c,tb u] [Res.cls aT c f] (λ_=> .tup []) (λ_=>[Res.cls aT c r]):=by
 unfold jT at h
 refine enter Tryz.func34 o 9 o o λF=>?_
 refine cC λM W hp=>?_
 subst hp
 refine bH (x:=f) ?_
 refine zs<|zu<|q 1 [(0,ptr M 0),(4,tb u)] [] o<|za<|rI h o (λhc h=>zu<|q 1 [(5,ptr M 0)] [] o<|cB h λC V h=>rc [0] (fJ _ _ _ _ V) (ca o) o o o λ_=>zf<|zT<|by cases h;exact qn o (λ_=>aH [] .nil) ((.cons_cons _ .slnil))) λhc h=>zk<|zt<|zr<|q 1 [(7,ptr M 0)] [] o<|cB h λH R h=>rc [0] (fJ _ _ _ _ R) (ca o) o o o λ_=>zn ?_
 cases h
 exact dV o (λ_=>aH [] .nil) ((.cons_cons _ .slnil))
theorem ry(C:Value)(M u H r)(h:ig M u H=some r):Fn PP 96 [tp C,.one (.int .u32) u,ti H] [Res.cls aT C M] (λ_=> .tup []) (λ_=>[Res.cls aT C r]):=by
 unfold ig at h
 refine enter Tryz.func96 o 33 o o λF=>?_
 refine cC λf w hp=>?_
 subst hp
 refine bH (x:=M) ?_
 refine zs<|zs<|iN λd=>?_
 refine zr<|q 3 [(0,ptr f 0),(1,.one (.int .u32) u),(2,ti H),(9,ptr f 1)] [] o<|yl 0 f1 fk o o o tr o<|q 1 [(11,tb (M.2.1 !=0))] [0,1,2] o<|za<|rI h o (λhc h=>?_) λhc h=>?_
 ·refine zR<|zT<|bH (x:=M) ?_
  cases h
  exact qn o (λ_=>aH [] .nil) ((.cons_cons _ .slnil))
 refine zy<|p 3 [0,1,6] o ?_
 obtain⟨m,e,h⟩:=ak h;rw[e]
 refine za<|bX h λG O h=>?_
 refine qo (γ:=Value) (λ(W:List (Int)) g7=>[]) (λ(W:List (Int)) g7=>[Res.var f 161 W38 (g7,M.2.1,M.2.2),Res.own g7 5 (.int .u8) W]) G r ?_ ?_
 ·refine zb<|aa [0,1,6] o<|aY (γ:=Value) (λ(c:Int×List (Int)) g12=>[(0,ptr f 0),(1,.one (.int .u32) u),(6,ti c.1)]) (λ(c:Int×List (Int)) g12=>[Res.var f 161 W38 (g12,M.2.1,M.2.2),Res.own g12 5 (.int .u8) c.2]) (em u G) (m,M.1) d h o o ?_
  clear h
  intro N c g12 h
  cases N with
  |zero=>cases h
  |succ N=>
  simp only[em]at h
  refine zs<|zu<|q 2 [(6,ti c.1),(15,tb (decide (c.1≥0)))] [0,1] o<|za<|rI h o (λhc h=>?_) λhc h=>?_
  ·refine zk<|zt<|zs<|zb<|dF (by kernel_rfl)<|ae 0 (ptr f 0) o (by kernel_rfl) o<|ae 1 (ptr f 0) o (by kernel_rfl) o<|ae 5 (.one (.int .u32) u) o (by kernel_rfl) o<|ae 6 (.one (.int .u64) (wrap .u64 u)) o (by kernel_rfl) o<|ae 7 (ti c.1) o (by kernel_rfl) o<|ae 8 (ti (wrap .i64 (8*c.1))) o (by kernel_rfl) o<|iE h λhc h=>fH 9 (.one (.int .u64) (bQ .u64 (wrap .u64 u) (wrap .i64 (8*c.1)))) o (by kernel_rfl) (ny o o hc)<|ae 10 (.one (.int .u8) (wrap .u8 (bQ .u64 (wrap .u64 u) (wrap .i64 (8*c.1))))) o (by kernel_rfl) o ?_
   refine br (i:=2) (j:=11) (by kernel_rfl) o o ?_ ?_
   ·refine q 1 [(18,ptr f 0),(20,ptr f 0),(28,.one (.int .u8) (wrap .u8 (bQ .u64 (wrap .u64 u) (wrap .i64 (8*c.1)))))] [0,1,6] o<|za<|aa [0,1,6,18,20,28] o<|ae 3 (ptr f 0) o (by kernel_rfl) o ?_
    refine br (i:=4) (j:=11) (by kernel_rfl) o o ?_ ?_
    ·refine yl 0 f0 tx1 o o o tr o<|za<|aa [0,1,6,18,22,28] o<|af 11 (by kernel_rfl) o<|bE (B:=1) ai o el5 o o o (.cons o .nil) o λJ=>?_
     refine za<|aa [0,1,6,18,22,29] o<|af 12 (by kernel_rfl) o<|iE h λhc h=>bq (B:=1) ai 2 o o (bZ 0 o o) o el5 o o hc o λV=>?_
     refine pk [1,1] o<|za<|aa [0,1,6,18,30] o<|af 13 (by kernel_rfl) o<|p 1 [0,1,6,30,31] o<|za<|aa [0,1,6,30,31] o<|ae 14 (ptr f 0) o (by kernel_rfl) o<|af 15 (by kernel_rfl) o<|st 0 f0 tx1 o o o o tr<|nL o<|za<|aa [0,1,6] o<|aN (by kernel_rfl) ?_
     refine zi<|zt<|zr<|q 3 [(6,ti (wrap .i64 (c.1 - 1)))] [0,1] o ?_
     obtain⟨R,e,h⟩:=ak h;rw[e]
     exact za<|aa [0,1,6] o<|aR (R,(c.2++[(wrap .u8 (bQ .u64 (wrap .u64 u) (wrap .i64 (8*c.1))))])) V (Nat.lt_succ_self _) h o o
    refine bE (B:=1) ai o el5 o o o (.cons o .nil) o λJ=>?_
    refine za<|aa [0,1,6,18,21,29] o<|af 4 (by kernel_rfl) o<|yl 1 f0 tx1 o o o tr o<|za<|aa [0,1,6,18,22,29] o<|af 12 (by kernel_rfl) o<|iE h λhc h=>bq (B:=1) ai 2 o o (bZ 0 o o) o el5 o o hc o λV=>?_
    refine pk [1,1] o<|za<|aa [0,1,6,18,30] o<|af 13 (by kernel_rfl) o<|p 1 [0,1,6,30,31] o<|za<|aa [0,1,6,30,31] o<|ae 14 (ptr f 0) o (by kernel_rfl) o<|af 15 (by kernel_rfl) o<|st 0 f0 tx1 o o o o tr<|nL o<|za<|aa [0,1,6] o<|aN (by kernel_rfl) ?_
    refine zi<|zt<|zr<|q 3 [(6,ti (wrap .i64 (c.1 - 1)))] [0,1] o ?_
    obtain⟨R,e,h⟩:=ak h;rw[e]
    exact za<|aa [0,1,6] o<|aR (R,(c.2++[(wrap .u8 (bQ .u64 (wrap .u64 u) (wrap .i64 (8*c.1))))])) V (Nat.lt_succ_self _) h o o
   refine bE (B:=1) ai o el5 o o o (.cons o .nil) o λJ=>?_
   refine za<|aa [0,1,6,18,19,29] o<|af 2 (by kernel_rfl) o<|p 1 [0,1,6,18,20,29] o<|za<|aa [0,1,6,18,20,29] o<|ae 3 (ptr f 0) o (by kernel_rfl) o<|af 4 (by kernel_rfl) o<|yl 1 f0 tx1 o o o tr o<|za<|aa [0,1,6,18,22,29] o<|af 12 (by kernel_rfl) o<|iE h λhc h=>bq (B:=1) ai 2 o o (bZ 0 o o) o el5 o o hc o λV=>?_
   refine pk [1,1] o<|za<|aa [0,1,6,18,30] o<|af 13 (by kernel_rfl) o<|p 1 [0,1,6,30,31] o<|za<|aa [0,1,6,30,31] o<|ae 14 (ptr f 0) o (by kernel_rfl) o<|af 15 (by kernel_rfl) o<|st 0 f0 tx1 o o o o tr<|nL o<|za<|aa [0,1,6] o<|aN (by kernel_rfl) ?_
   refine zi<|zt<|zr<|q 3 [(6,ti (wrap .i64 (c.1 - 1)))] [0,1] o ?_
   obtain⟨R,e,h⟩:=ak h;rw[e]
   exact za<|aa [0,1,6] o<|aR (R,(c.2++[(wrap .u8 (bQ .u64 (wrap .u64 u) (wrap .i64 (8*c.1))))])) V (Nat.lt_succ_self _) h o o
  exact zx<|ze<|ze<|zq<|zt<|aa [] o<|ah c.2 g12 h o o
 intro W g7 h
 rw[←O]at h
 try dsimp only at h
 refine bH (x:=(W,M.2.1,M.2.2)) ?_
 cases h
 exact dV o (λ_=>aH [] .nil) ((.cons_cons _ .slnil))
theorem mT(c:Value)(f u r)(h:gq f u=some r):Fn PP 36 [tp c,.one (.int .u32) u] [Res.cls aT c f] (λ_=> .tup []) (λ_=>[Res.cls aT c r]):=by
 unfold gq at h
 refine enter Tryz.func36 o 7 o o λF=>?_
 refine cC λM R hp=>?_
 subst hp
 refine bH (x:=f) ?_
 refine zr<|q 2 [(4,ptr M 0),(5,.one (.int .u32) u)] [] o<|cB h λW V h=>rc [0] (ry _ _ _ _ _ V) (ca o) o o o λ_=>zn ?_
 cases h
 exact dV o (λ_=>aH [] .nil) ((.cons_cons _ .slnil))
theorem lm(O c r)(h:dU O c=some r):bn PP 7 [ti O,.one Y30 c] (.tup [⟨.str,r.1⟩,⟨(.int .i64),r.2⟩]):=by
 unfold dU at h
 refine enter Tryz.func7 o 143 o o λF=>?_
 refine zu<|bD o o λf=>q 2 [(0,ti O),(3,ptr f 0)] [] o<|za<|zs<|zu<|p 1 [0,3,17] o<|yl 0 .here bW o o o tr o<|cB h λr4 c7 h=>av (tB _ _ _ c7) (ca o) o o<|p 1 [0,3,20] o<|za<|rI h o (λhc h=>zu<|q 2 [(4,ts []),(5,ti 210)] [] o<|zf<|zT<|by cases h;exact aF (rs:=[.tmp 4,.tmp 5]) o (.cons (.tmp o) (.cons (.tmp o) (.nil))) o (λ_ vs g=>aH vs g) (λ_ _ _=>List.nil_sublist _)) λhc h=>?_
 refine zy<|cB h λr5 c8 h=>rc [] (l5 _ c8) (ca o) o o o λu=>p 1 [0,3,6] o<|zz<|p 2 [3,6,22,23] o<|cB h λr7 c9 h=>rc [0] (cF _ _ _ _ c9) (ca o) o o o λ_=>zz<|p 2 [3,6,25,26] o<|yl 1 f0 ty3 o o o tr o<|q 1 [(28,.one (.int .u8) (wrap .u8 c.1))] [3,6,25] o<|cB h λr8 d0 h=>rc [0] (fJ _ _ _ _ d0) (ca o) o o o λ_=>?_
 refine za<|bv h (λw=>[(3,ptr f 0),(6,tp u)]) (λw=>[Res.cls aT u w,Res.var f 30 Y30 c]) (λk9 h=>?_) λw h=>?_
 ·refine zu<|p 1 [3,6,30] o<|yl 1 f1 ty2 o o o tr o<|q 1 [(31,ti c.2.1),(32,ptr f 2)] [3,6] o<|yl 1 f2 ty2 o o o tr o<|q 1 [(33,ti c.2.2.1),(34,ptr f 3)] [3,6,31] o<|yl 1 f3 ty2 o o o tr o<|bE (B:=8) ai o el2 o o o (.cons o (.cons o (.cons o .nil))) o λa7=>?_
  refine y (cn ai 0 o o o) o ?_
  refine q 1 [(36,.one W51 a7),(37,ti (List.length [c.2.1,c.2.2.1,c.2.2.2.1]:Int)),(38,ti 0)] [3,6] o<|za<|zb<|aa [3,6,36,37,38] o<|aY (γ:=Value) (λ(M:Int×bm) G=>[(3,ptr f 0),(6,tp u),(36,.one W51 G),(37,ti (List.length [c.2.1,c.2.2.1,c.2.2.2.1]:Int)),(38,ti M.1)]) (λ(M:Int×bm) G=>[Res.own G 2 (.int .i64) [c.2.1,c.2.2.1,c.2.2.2.1],Res.cls aT u M.2,Res.var f 30 Y30 c]) (eJ c k9) (0,r8) a7 h o o ?_
  clear h
  intro a8 M G h
  cases a8 with
  |zero=>cases h
  |succ a8=>
  simp only[eJ]at h
  refine zu<|q 1 [(36,.one W51 G),(38,ti M.1),(39,tb (decide (M.1<(List.length [c.2.1,c.2.2.1,c.2.2.2.1]:Int))))] [3,6,37] o<|za<|zs<|rI h o (λhc h=>?_) λhc h=>?_
  ·refine zk<|zt<|zs<|zb<|zu<|iE h λhc h=>cJ 0 o (by omega) λZ a2 a3 hv=>?_
   rw[hv]
   try clear hv
   refine y (cU ai o o hc.1 (by first|exact hc.2|simpa using hc.2) o ty2) o ?_
   refine y (dN 0 (Int.toNat M.1) .here o o (by omega) (by first|rfl|(simp only[Pth.off,T.size];omega)) ab ty2) o ?_
   refine q 1 [(8,ti (List.getD [c.2.1,c.2.2.1,c.2.2.2.1] (Int.toNat M.1) 0)),(36,.one W51 (.slice (some ⟨Z,a2,none⟩) (List.length [c.2.1,c.2.2.1,c.2.2.2.1]) a3))] [3,6,37,38] o ?_
   obtain⟨d1,e,h⟩:=ak h;rw[e]
   exact za<|zr<|q 2 [(3,ptr f 0),(6,tp u),(36,.one W51 (.slice (some ⟨Z,a2,none⟩) (List.length [c.2.1,c.2.2.1,c.2.2.2.1]) a3)),(37,ti (List.length [c.2.1,c.2.2.1,c.2.2.2.1]:Int)),(38,ti M.1),(42,tp u),(43,ti d1)] [] o<|cB h λd2 d3 h=>rc [1] (cF _ _ _ _ d3) (ca o) o o o λ_=>zn<|zi<|zt<|zr<|q 2 [(38,ti (wrap .i64 (M.1+1)))] [3,6,36,37] o<|za<|aa [3,6,36,37,38] o<|pk [1,0,0] o<|aR ((wrap .i64 (M.1+1)),d2) (.slice (some ⟨Z,a2,none⟩) (List.length [c.2.1,c.2.2.1,c.2.2.2.1]) a3) (Nat.lt_succ_self _) h o o
  exact zx<|ze<|ze<|zq<|zt<|pk [1,1] o<|aa [3,6] o<|ah M.2 () h o o
 refine zu<|q 2 [(3,ptr f 0),(6,tp u),(46,tp u),(47,ptr f 4)] [] o<|yl 1 f4 jI o o o tr o<|cB h λg9 d4 h=>rc [0] (rN _ _ _ _ d4) (ca o) o o o λ_=>zz<|p 2 [3,6,50,51] o<|yl 1 f5 jI o o o tr o<|cB h λd5 d6 h=>rc [0] (rN _ _ _ _ d6) (ca o) o o o λ_=>za<|bv h (λm=>[(3,ptr f 0),(6,tp u)]) (λm=>[Res.cls aT u m,Res.var f 30 Y30 c]) (λd7 h=>?_) λm h=>?_
 ·refine zu<|p 1 [3,6,54] o<|yl 1 f6 ty2 o o o tr o<|q 1 [(55,ti c.2.2.2.2.2.2.1),(56,ptr f 7)] [3,6] o<|yl 1 f7 ty2 o o o tr o<|q 1 [(57,ti c.2.2.2.2.2.2.2.1),(58,ptr f 8)] [3,6,55] o<|yl 1 f8 ty2 o o o tr o<|bE (B:=8) ai o el2 o o o (.cons o (.cons o (.cons o .nil))) o λa9=>?_
  refine y (cn ai 0 o o o) o ?_
  refine q 1 [(60,.one W51 a9),(61,ti (List.length [c.2.2.2.2.2.2.1,c.2.2.2.2.2.2.2.1,c.2.2.2.2.2.2.2.2.1]:Int)),(62,ti 0)] [3,6] o<|za<|zb<|aa [3,6,60,61,62] o<|aY (γ:=Value) (λ(V:Int×bm) N=>[(3,ptr f 0),(6,tp u),(60,.one W51 N),(61,ti (List.length [c.2.2.2.2.2.2.1,c.2.2.2.2.2.2.2.1,c.2.2.2.2.2.2.2.2.1]:Int)),(62,ti V.1)]) (λ(V:Int×bm) N=>[Res.own N 2 (.int .i64) [c.2.2.2.2.2.2.1,c.2.2.2.2.2.2.2.1,c.2.2.2.2.2.2.2.2.1],Res.cls aT u V.2,Res.var f 30 Y30 c]) (eI c d7) (0,d5) a9 h o o ?_
  clear h
  intro b0 V N h
  cases b0 with
  |zero=>cases h
  |succ b0=>
  simp only[eI]at h
  refine zu<|q 1 [(60,.one W51 N),(62,ti V.1),(63,tb (decide (V.1<(List.length [c.2.2.2.2.2.2.1,c.2.2.2.2.2.2.2.1,c.2.2.2.2.2.2.2.2.1]:Int))))] [3,6,61] o ?_
  obtain⟨h0,e,h⟩:=ak h;rw[e]
  refine za<|zs<|rI h o (λhc h=>?_) λhc h=>?_
  ·refine zk<|zt<|zs<|zb<|zu<|iE h λhc h=>cJ 0 o (by omega) λb1 b2 b4 hv=>?_
   rw[hv]
   try clear hv
   refine y (cU ai o o hc.1 (by first|exact hc.2|simpa using hc.2) o ty2) o ?_
   refine y (dN 0 (Int.toNat V.1) .here o o (by omega) (by first|rfl|(simp only[Pth.off,T.size];omega)) ab ty2) o ?_
   refine q 1 [(10,ti (List.getD [c.2.2.2.2.2.2.1,c.2.2.2.2.2.2.2.1,c.2.2.2.2.2.2.2.2.1] (Int.toNat V.1) 0)),(60,.one W51 (.slice (some ⟨b1,b2,none⟩) (List.length [c.2.2.2.2.2.2.1,c.2.2.2.2.2.2.2.1,c.2.2.2.2.2.2.2.2.1]) b4))] [3,6,61,62] o ?_
   obtain⟨h1,e,h⟩:=ak h;rw[e]
   exact za<|zr<|p 2 [3,6,60,61,62,66,67] o<|cB h λd8 d9 h=>rc [1] (cF _ _ _ _ d9) (ca o) o o o λ_=>zn<|zi<|zt<|zr<|q 2 [(62,ti (wrap .i64 (V.1+1)))] [3,6,60,61] o<|za<|aa [3,6,60,61,62] o<|pk [1,0,0] o<|aR ((wrap .i64 (V.1+1)),d8) (.slice (some ⟨b1,b2,none⟩) (List.length [c.2.2.2.2.2.2.1,c.2.2.2.2.2.2.2.1,c.2.2.2.2.2.2.2.2.1]) b4) (Nat.lt_succ_self _) h o o
  exact zx<|ze<|ze<|zq<|zt<|pk [1,1] o<|aa [3,6] o<|ah V.2 () h o o
 refine bv h (λa4=>[(3,ptr f 0),(6,tp u)]) (λa4=>[Res.cls aT u a4,Res.var f 30 Y30 c]) (λe0 h=>?_) λa4 h=>?_
 ·refine zu<|yl 1 .here bW o o o tr o<|cB h λH e1 h=>rc [] (pB _ _ e1) (ca o) o o o λb5=>y (cn ai 0 o o o) o ?_
  refine q 1 [(3,ptr f 0),(6,tp u),(71,.one W51 b5),(72,ti (List.length H:Int)),(73,ti 0)] [] o<|za<|zb<|aa [3,6,71,72,73] o<|aY (γ:=Value) (λ(R:Int×bm) J=>[(3,ptr f 0),(6,tp u),(71,.one W51 J),(72,ti (List.length H:Int)),(73,ti R.1)]) (λ(R:Int×bm) J=>[Res.own J 3 (.int .i64) H,Res.cls aT u R.2,Res.var f 30 Y30 c]) (gH e0 H) (0,m) b5 h o o ?_
  clear h
  intro b6 R J h
  cases b6 with
  |zero=>cases h
  |succ b6=>
  simp only[gH]at h
  refine zu<|q 1 [(71,.one W51 J),(73,ti R.1),(74,tb (decide (R.1<(List.length H:Int))))] [3,6,72] o<|za<|zs<|rI h o (λhc h=>?_) λhc h=>?_
  ·refine zk<|zt<|zs<|zb<|zu<|iE h λhc h=>cJ 0 o (by omega) λb7 b8 b9 hv=>?_
   rw[hv]
   try clear hv
   refine y (cU ai o o hc.1 (by first|exact hc.2|simpa using hc.2) o ty3) o ?_
   refine y (dN 0 (Int.toNat R.1) .here o o (by omega) (by first|rfl|(simp only[Pth.off,T.size];omega)) ab ty3) o ?_
   refine q 1 [(12,ti (List.getD H (Int.toNat R.1) 0)),(71,.one W51 (.slice (some ⟨b7,b8,none⟩) (List.length H) b9))] [3,6,72,73] o ?_
   obtain⟨h2,e,h⟩:=ak h;rw[e]
   exact za<|zr<|p 3 [3,6,71,72,73,77,79] o<|cB h λe2 e3 h=>rc [1] (ep _ _ _ _ e3) (ca o) o o o λ_=>zn<|zi<|zt<|zr<|q 2 [(73,ti (wrap .i64 (R.1+1)))] [3,6,71,72] o<|za<|aa [3,6,71,72,73] o<|pk [1,0,0] o<|aR ((wrap .i64 (R.1+1)),e2) (.slice (some ⟨b7,b8,none⟩) (List.length H) b9) (Nat.lt_succ_self _) h o o
  exact zx<|ze<|ze<|zq<|zt<|pk [1,1] o<|aa [3,6] o<|ah R.2 () h o o
 refine zu<|q 2 [(3,ptr f 0),(6,tp u),(82,tp u),(83,ptr f 15)] [] o<|yl 1 f12 ty4 o o o tr o<|cB h λe4 e5 h=>rc [0] (rO _ _ _ _ e5) (ca o) o o o λ_=>za<|bv h (λa5=>[(3,ptr f 0),(6,tp u)]) (λa5=>[Res.cls aT u a5,Res.var f 30 Y30 c]) (λe6 h=>?_) λa5 h=>?_
 ·refine zu<|p 1 [3,6,86] o<|iE h λhc h=>y (bY o o hc.1 hc.2 xq bK) o ?_
  refine y (aM 1 ((g13 (.fst (.elem 0 .here)))) o o (by first|rfl|(simp only[Pth.off,T.size];omega)) (ag (ag (ag (ag (ag (ag (ag (ag (ag (ag (ag (ag (ag (ay (ax (by omega) ab))))))))))))))) bK) o ?_
  refine q 1 [(88,.one W55 (List.getD c.2.2.2.2.2.2.2.2.2.2.2.2.2.1 0 (List.replicate 32 (0:Int)))),(89,ptr f 16)] [3,6] o<|iE h λhc h=>y (bY o o hc.1 hc.2 xq bK) o ?_
  refine y (aM 1 ((g13 (.fst (.elem 1 .here)))) o o (by first|rfl|(simp only[Pth.off,T.size];omega)) (ag (ag (ag (ag (ag (ag (ag (ag (ag (ag (ag (ag (ag (ay (ax (by omega) ab))))))))))))))) bK) o ?_
  refine q 1 [(91,.one W55 (List.getD c.2.2.2.2.2.2.2.2.2.2.2.2.2.1 1 (List.replicate 32 (0:Int)))),(92,ptr f 80)] [3,6,88] o<|yl 1 f14 bK o o o tr o<|bE (B:=32) ai o E8 o o o (.cons o (.cons o (.cons o .nil))) o λc0=>?_
  refine y (cn ai 0 o o o) o ?_
  refine q 1 [(94,.one W51 c0),(95,ti (List.length [(List.getD c.2.2.2.2.2.2.2.2.2.2.2.2.2.1 0 (List.replicate 32 (0:Int))),(List.getD c.2.2.2.2.2.2.2.2.2.2.2.2.2.1 1 (List.replicate 32 (0:Int))),c.2.2.2.2.2.2.2.2.2.2.2.2.2.2.1]:Int)),(96,ti 0)] [3,6] o<|za<|zb<|aa [3,6,94,95,96] o<|aY (γ:=Value) (λ(W:Int×bm) d=>[(3,ptr f 0),(6,tp u),(94,.one W51 d),(95,ti (List.length [(List.getD c.2.2.2.2.2.2.2.2.2.2.2.2.2.1 0 (List.replicate 32 (0:Int))),(List.getD c.2.2.2.2.2.2.2.2.2.2.2.2.2.1 1 (List.replicate 32 (0:Int))),c.2.2.2.2.2.2.2.2.2.2.2.2.2.2.1]:Int)),(96,ti W.1)]) (λ(W:Int×bm) d=>[Res.own d 26 W55 [(List.getD c.2.2.2.2.2.2.2.2.2.2.2.2.2.1 0 (List.replicate 32 (0:Int))),(List.getD c.2.2.2.2.2.2.2.2.2.2.2.2.2.1 1 (List.replicate 32 (0:Int))),c.2.2.2.2.2.2.2.2.2.2.2.2.2.2.1],Res.cls aT u W.2,Res.var f 30 Y30 c]) (eH c e6) (0,e4) c0 h o o ?_
  clear h
  intro c1 W d h
  cases c1 with
  |zero=>cases h
  |succ c1=>
  simp only[eH]at h
  refine zu<|q 1 [(94,.one W51 d),(96,ti W.1),(97,tb (decide (W.1<(List.length [(List.getD c.2.2.2.2.2.2.2.2.2.2.2.2.2.1 0 (List.replicate 32 (0:Int))),(List.getD c.2.2.2.2.2.2.2.2.2.2.2.2.2.1 1 (List.replicate 32 (0:Int))),c.2.2.2.2.2.2.2.2.2.2.2.2.2.2.1]:Int))))] [3,6,95] o ?_
  obtain⟨h3,e,h⟩:=ak h;rw[e]
  refine za<|zs<|rI h o (λhc h=>?_) λhc h=>?_
  ·refine zk<|zt<|zs<|zb<|zu<|iE h λhc h=>cJ 0 o (by omega) λc2 c3 c4 hv=>?_
   rw[hv]
   try clear hv
   refine y (cU ai o o hc.1 (by first|exact hc.2|simpa using hc.2) o bK) o ?_
   refine y (dN 0 (Int.toNat W.1) .here o o (by omega) (by first|rfl|(simp only[Pth.off,T.size];omega)) ab bK) o ?_
   refine aD (t:=W55) o ns o λe7=>st 0 .here bK o o o o tr<|za<|zr<|q 1 [(14,ptr e7 0),(94,.one W51 (.slice (some ⟨c2,c3,none⟩) (List.length [(List.getD c.2.2.2.2.2.2.2.2.2.2.2.2.2.1 0 (List.replicate 32 (0:Int))),(List.getD c.2.2.2.2.2.2.2.2.2.2.2.2.2.1 1 (List.replicate 32 (0:Int))),c.2.2.2.2.2.2.2.2.2.2.2.2.2.2.1]) c4)),(100,tp u)] [3,6,95,96] o<|yl 0 .here bK o o o tr o<|cB h λe8 e9 h=>rc [2] (dP _ _ _ _ e9) (ca o) o o o λ_=>zn<|zi<|zt<|zr<|q 2 [(96,ti (wrap .i64 (W.1+1)))] [3,6,94,95] o<|za ?_
   exact pk [0,1,1] o<|aa [3,6,94,95,96] o<|pk [1,0,0] o<|aR ((wrap .i64 (W.1+1)),e8) (.slice (some ⟨c2,c3,none⟩) (List.length [(List.getD c.2.2.2.2.2.2.2.2.2.2.2.2.2.1 0 (List.replicate 32 (0:Int))),(List.getD c.2.2.2.2.2.2.2.2.2.2.2.2.2.1 1 (List.replicate 32 (0:Int))),c.2.2.2.2.2.2.2.2.2.2.2.2.2.2.1]) c4) (Nat.lt_succ_self _) h o o
  exact zx<|ze<|ze<|zq<|zt<|pk [1,1] o<|aa [3,6] o<|ah W.2 () h o o
 refine zu<|q 2 [(3,ptr f 0),(6,tp u),(104,tp u),(105,ptr f 112)] [] o<|yl 1 f15 ru o o o tr o<|q 2 [(108,.one (.int .u8) (wrap .u8 (List.length c.2.2.2.2.2.2.2.2.2.2.2.2.2.2.2.1:Int)))] [3,6,104] o<|cB h λf9 g0 h=>rc [0] (fJ _ _ _ _ g0) (ca o) o o o λ_=>za<|bv h (λa6=>[(3,ptr f 0),(6,tp u)]) (λa6=>[Res.cls aT u a6,Res.var f 30 Y30 c]) (λg1 h=>?_) λa6 h=>?_
 ·refine zu<|p 1 [3,6,110] o<|yl 1 f15 ru o o o tr o<|q 2 [(111,.one W66 c.2.2.2.2.2.2.2.2.2.2.2.2.2.2.2.1),(112,ti (List.length c.2.2.2.2.2.2.2.2.2.2.2.2.2.2.2.1:Int)),(113,ti 0)] [3,6] o<|za<|zb<|aa [3,6,111,112,113] o<|aY (γ:=Unit) (λ(C:Int×bm) _=>[(3,ptr f 0),(6,tp u),(111,.one W66 c.2.2.2.2.2.2.2.2.2.2.2.2.2.2.2.1),(112,ti (List.length c.2.2.2.2.2.2.2.2.2.2.2.2.2.2.2.1:Int)),(113,ti C.1)]) (λ(C:Int×bm) _=>[Res.cls aT u C.2,Res.var f 30 Y30 c]) (fW c g1) (0,f9) () h o o ?_
  clear h
  intro c5 C gg h
  cases c5 with
  |zero=>cases h
  |succ c5=>
  simp only[fW]at h
  refine zu<|q 1 [(113,ti C.1),(114,tb (decide (C.1<(List.length c.2.2.2.2.2.2.2.2.2.2.2.2.2.2.2.1:Int))))] [3,6,111,112] o<|za<|zs<|rI h o (λhc h=>?_) λhc h=>?_
  ·refine zk<|zt<|zs<|zb<|zu<|iE h λhc h=>y (ff ai o o hc.1 hc.2 o ji) o ?_
   refine y (ga o ji) o ?_
   refine aD (t:=Y56) o xo o λh4=>st 0 .here ji o o o o tr<|zz<|p 2 [3,6,16,111,112,113,117,118] o<|yl 0 f2 ty4 o o o tr o<|cB h λh5 g2 h=>rc [1] (rO _ _ _ _ g2) (ca o) o o o λ_=>zz<|p 2 [3,6,16,111,112,113,121,122] o<|yl 1 f0 ty2 o o o tr o<|cB h λh6 g3 h=>rc [0] (cF _ _ _ _ g3) (ca o) o o o λ_=>za<|zr ?_
   exact p 2 [3,6,111,112,113,125,126] o<|yl 1 f1 bK o o o tr o<|cB h λg4 g5 h=>rc [0] (dP _ _ _ _ g5) (ca o) o o o λ_=>zn<|zi<|zt<|zr<|q 2 [(113,ti (wrap .i64 (C.1+1)))] [3,6,111,112] o<|za<|pk [0,1] o<|aa [3,6,111,112,113] o<|aR ((wrap .i64 (C.1+1)),g4) () (Nat.lt_succ_self _) h o o
  exact zx<|ze<|ze<|zq<|zt<|aa [3,6] o<|ah C.2 () h o o
 refine zu<|q 2 [(3,ptr f 0),(6,tp u),(130,tp u),(131,ptr f 113)] [] o<|yl 1 f16 ty3 o o o tr o<|q 1 [(133,.one (.int .u32) (wrap .u32 c.2.2.2.2.2.2.2.2.2.2.2.2.2.2.2.2.1))] [3,6,130] o<|cB h λh7 g6 h=>rc [0] (mT _ _ _ _ g6) (ca o) o o o λ_=>zz<|p 2 [6,135,136] o<|yl 1 f17 ty2 o o o tr o<|cB h λh8 g7 h=>rc [0] (cF _ _ _ _ g7) (ca o) o o o λ_=>zz<|q 1 [(139,tp u)] [] o<|cB h λc6 g8 h=>?_
 refine rc [0] (gm _ _ _ g8) (ca o) o o o λ_=>q 4 [(4,ts c6.1),(5,ti c6.2)] [] o<|zf ?_
 cases h
 exact aF (rs:=[.tmp 4,.tmp 5]) o (.cons (.tmp o) (.cons (.tmp o) (.nil))) o (λ_ vs g=>aH vs g) (λ_ _ _=>List.nil_sublist _)
theorem xS(c r)(h:uf c=some r):Fn PP 13 [ti c] [] (λv=> .tup [⟨.raw NV,aC v 0⟩,⟨(.int .i64),r.1⟩]) (λv=>[Res.diskif PP dI (aC v 0) r.2 r.1]):=by
 unfold uf at h
 refine enter Tryz.func13 o 14 o o λF=>?_
 refine zu<|q 2 [(0,ti c)] [] o<|za<|zs<|zu<|p 3 [0,6] o ?_
 obtain⟨M,e,h⟩:=ak h;rw[e]
 refine aJ 3 [(0,ti c),(9,tb (M||(decide (c>16777216))))] [] (?_) ?_
 ·clear h
  cases M
  ·exact p 3 [0,9] o<|za<|ao () o o
  exact p 3 [0,9] o<|za<|ao () o o
 refine za<|rI h o (λhc h=>zu<|q 2 [(2,tp (.pointer none)),(3,ti 1)] [] o<|zf<|zT<|Bi (P:=PP) (I:=dI) (D:=(0,[],0,0,0,false,false)) (e:=1) (by decide)<|by cases h;exact aF (rs:=[.tmp 2,.tmp 3]) o (.cons (.tmp o) (.cons (.tmp o) .nil)) o (λ_ vs g=>by cases g with|cons f g=>cases g with|cons u g=>cases g;exact⟨_,o,.cons (bf f) (.cons u .nil)⟩) (λ_ vs g=>by cases g with|cons f g=>cases g with|cons u g=>cases g;rw[bT f];exact(.cons_cons _ .slnil))) λhc h=>zy<|q 1 [(10,ti c)] [] o<|nX 9 .str (.raw NV) o λR=>?_
 refine Aq (P:=PP) (I:=dI) ?_
 refine y (bc o El o o (.cons f0 o o (ay ab) (.cons f1 o o (ag (ay ab)) .nil))) o ?_
 refine bD o o λV=>q 2 [(2,ptr V 0),(3,ti 0)] [] o<|zf<|cv (P:=PP) (I:=dI) (D:=(c,[],0,0,0,false,false))<|Bl ?_
 cases h
 exact aF (rs:=[.tmp 2,.tmp 3]) o (.cons (.tmp o) (.cons (.tmp o) .nil)) o (λ_ vs g=>by cases g with|cons f g=>cases g with|cons u g=>cases g;exact⟨_,o,.cons (bf f) (.cons u .nil)⟩) (λ_ vs g=>by cases g with|cons f g=>cases g with|cons u g=>cases g;rw[bT f];exact(.cons_cons _ .slnil))
theorem mp(r)(h:jc=some r):bn PP 59 [] (.one Y40 r):=by
 unfold jc at h
 refine enter Tryz.func59 o 2 o o λF=>?_
 refine zu<|aD (t:=Y40) o DJ o λc=>zz<|y (bc o DJ o o (.cons f1 o o ab (.cons f2 o o ab (.cons f7 o o ab .nil)))) o ?_
 refine st 0 .here BZ o o o o tr<|zf ?_
 cases h
 exact aU o (.cell 0 .here o o o ab BZ) (λ_ _ g=>g) (λ_ _ _=>List.nil_sublist _)
theorem uV(c r)(h:oZ c=some r):bn PP 110 [ti c] (tb r):=by
 unfold oZ at h
 refine enter Tryz.func110 o 9 o o λF=>?_
 refine zu<|q 1 [(0,ti c)] [] o<|zz<|p 3 [0,5] o ?_
 obtain⟨f,e,h⟩:=ak h;rw[e]
 refine aJ 3 [(8,tb (f&&(decide (c≤1152921504606846976))))] [] (?_) ?_
 ·clear h
  cases f
  ·exact q 3 [(8,tb false)] [] o<|aa [8] o<|za<|ao () o o
  exact q 3 [(8,tb (decide (c≤1152921504606846976)))] [] o<|aa [8] o<|za<|ao () o o
 refine q 1 [(2,tb (f&&(decide (c≤1152921504606846976))))] [] o<|zf ?_
 cases h
 exact aB o (.tmp o)
theorem vr(c r)(h:pM c=some r):bn PP 63 [.one Y40 c] (.tup [⟨Y30,r.1⟩,⟨(.int .i64),r.2⟩]):=by
 unfold pM at h
 refine enter Tryz.func63 o 50 o o λF=>?_
 refine zu<|bD o o λf=>aD (t:=Y30) o gk o λu=>q 1 [(1,ptr f 0),(2,ptr u 0)] [] o<|za<|zs<|zu<|p 1 [1,2,4] o<|yl 1 f0 ty3 o o o tr o<|q 2 [(7,tb (decide (c.1<0)))] [1,2] o ?_
 obtain⟨V,e,h⟩:=ak h;rw[e]
 refine aJ 4 [(1,ptr f 0),(2,ptr u 0),(11,tb (V||(decide (c.1>1))))] [Res.var u 30 Y30 (0,0,0,0,[],[],0,0,0,(0,0,()),(0,0,()),(0,0,()),false,(List.replicate 2 (z32:List (Int))),z32,[],0,0,()),Res.var f 40 Y40 c] (?_) ?_
 ·clear h
  cases V
  ·refine p 1 [1,2,7,8] o<|ap (by rfl) o ?_
   exact yl 1 f0 ty3 o o o tr o<|q 2 [(11,tb (decide (c.1>1)))] [1,2] o<|aa [1,2,11] o<|za<|ao () o o
  exact p 4 [1,2,11] o<|za<|ao () o o
 refine q 1 [(1,ptr f 0),(2,ptr u 0),(12,tb (V||(decide (c.1>1))))] [] o ?_
 obtain⟨R,e,h⟩:=ak h;rw[e]
 refine aJ 4 [(1,ptr f 0),(2,ptr u 0),(16,tb (R||(decide (c.2.1<1))))] [Res.var u 30 Y30 (0,0,0,0,[],[],0,0,0,(0,0,()),(0,0,()),(0,0,()),false,(List.replicate 2 (z32:List (Int))),z32,[],0,0,()),Res.var f 40 Y40 c] (?_) ?_
 ·clear h
  cases R
  ·refine p 1 [1,2,12,13] o<|ap (by rfl) o ?_
   exact yl 1 f1 ty2 o o o tr o<|q 2 [(16,tb (decide (c.2.1<1)))] [1,2] o<|aa [1,2,16] o<|za<|ao () o o
  exact p 4 [1,2,16] o<|za<|ao () o o
 refine q 1 [(1,ptr f 0),(2,ptr u 0),(17,tb (R||(decide (c.2.1<1))))] [] o ?_
 obtain⟨C,e,h⟩:=ak h;rw[e]
 refine bL h 5 (λM=>[(1,ptr f 0),(2,ptr u 0),(22,tb M)]) (λ_=>[Res.var u 30 Y30 (0,0,0,0,[],[],0,0,0,(0,0,()),(0,0,()),(0,0,()),false,(List.replicate 2 (z32:List (Int))),z32,[],0,0,()),Res.var f 40 Y40 c]) (λN h=>?_) λM h=>?_
 ·cases C
  ·replace h:=ifF h
   refine p 1 [1,2,17,18] o<|ap (by rfl) o ?_
   refine yl 1 f1 ty2 o o o tr o<|ap (by rfl) o ?_
   exact cB h λH G h=>av (uV _ _ G) (ca o) o o<|p 2 [1,2,22] o<|zn<|aa [1,2,22] o<|zt<|ah (!H) () h o o
  replace h:=ifT h
  exact p 5 [1,2,22] o<|zn<|aa [1,2,22] o<|zt<|ah true () h o o
 refine q 1 [(1,ptr f 0),(2,ptr u 0),(23,tb M)] [] o<|aJ 4 [(1,ptr f 0),(2,ptr u 0),(27,tb (M||(decide (c.2.2.1<0))))] [Res.var u 30 Y30 (0,0,0,0,[],[],0,0,0,(0,0,()),(0,0,()),(0,0,()),false,(List.replicate 2 (z32:List (Int))),z32,[],0,0,()),Res.var f 40 Y40 c] (?_) ?_
 ·clear h
  cases M
  ·refine p 1 [1,2,23,24] o<|ap (by rfl) o ?_
   exact yl 1 f2 ty2 o o o tr o<|q 2 [(27,tb (decide (c.2.2.1<0)))] [1,2] o<|aa [1,2,27] o<|za<|ao () o o
  exact p 4 [1,2,27] o<|za<|ao () o o
 refine q 1 [(1,ptr f 0),(2,ptr u 0),(28,tb (M||(decide (c.2.2.1<0))))] [] o ?_
 obtain⟨W,e,h⟩:=ak h;rw[e]
 refine aJ 6 [(1,ptr f 0),(2,ptr u 0),(34,tb (W||(decide (c.2.2.1>c.2.1))))] [Res.var u 30 Y30 (0,0,0,0,[],[],0,0,0,(0,0,()),(0,0,()),(0,0,()),false,(List.replicate 2 (z32:List (Int))),z32,[],0,0,()),Res.var f 40 Y40 c] (?_) ?_
 ·clear h
  cases W
  ·refine p 1 [1,2,28,29] o<|ap (by rfl) o ?_
   refine yl 1 f2 ty2 o o o tr o<|q 1 [(30,ti c.2.2.1),(31,ptr f 1)] [1,2,28] o<|ap (by rfl) o ?_
   exact yl 1 f1 ty2 o o o tr o<|q 2 [(34,tb (decide (c.2.2.1>c.2.1)))] [1,2] o<|aa [1,2,34] o<|za<|ao () o o
  exact p 6 [1,2,34] o<|za<|ao () o o
 refine za<|rI h o (λhc h=>?_) λhc h=>?_
 ·refine zu<|y (bc o gk o o .nil) o ?_
  refine st 0 .here bW o o o o tr<|q 1 [(2,ptr u 0),(3,ti 1)] [] o<|zf<|zT ?_
  cases h
  exact aF (rs:=[.cell 2 30,.tmp 3]) o (.cons (.cell 0 .here o o o ab bW) (.cons (.tmp o) (.nil))) o (λ_ vs g=>aH vs g) (λ_ _ _=>List.nil_sublist _)
 refine zy<|q 1 [(1,ptr f 0),(2,ptr u 0),(36,ptr f 0)] [] o<|yl 1 f0 ty3 o o o tr o<|q 1 [(37,ti c.1),(38,ptr f 1)] [1,2] o<|yl 1 f1 ty2 o o o tr o<|q 1 [(39,ti c.2.1),(40,ptr f 2)] [1,2,37] o<|yl 1 f2 ty2 o o o tr o<|q 1 [(41,ti c.2.2.1),(42,ptr f 1)] [1,2,37,39] o<|yl 1 f1 ty2 o o o tr o<|q 1 [(43,ti c.2.1),(44,ptr f 2)] [1,2,37,39,41] o<|yl 1 f2 ty2 o o o tr o<|q 2 [(46,ti (wrap .i64 (c.2.1 - c.2.2.1))),(47,ptr f 99)] [2,37,39,41] o<|yl 1 f6 xn o o o tr o<|y (bc o gk o o (.cons f0 o o ab (.cons f1 o o ab (.cons f2 o o ab (.cons f3 o o ab (.cons f13 o o ab (.cons f17 o o ab .nil))))))) o ?_
 refine st 0 .here bW o o o o tr<|p 1 [2,3] o<|zf ?_
 cases h
 exact aF (rs:=[.cell 2 30,.tmp 3]) o (.cons (.cell 0 .here o o o ab bW) (.cons (.tmp o) (.nil))) o (λ_ vs g=>aH vs g) (λ_ _ _=>List.nil_sublist _)
theorem pD(c r)(h:mF c=some r):bn PP 133 [ts c] (tb r):=by
 unfold mF at h
 refine enter Tryz.func133 o 27 o o λF=>?_
 refine zu<|q 1 [(0,ts c)] [] o<|za<|bv h (λM=>[(0,ts c)]) (λM=>[]) (λW h=>?_) λM h=>?_
 ·refine zu<|q 3 [(5,ti (List.length c:Int)),(6,ti 0)] [0] o<|za<|zb<|aa [0,5,6] o<|aY (γ:=Unit) (λ(f:Int) _=>[(0,ts c),(5,ti (List.length c:Int)),(6,ti f)]) (λ(f:Int) _=>[]) (kD c W) 0 () h o o ?_
  clear h
  intro V f gg h
  cases V with
  |zero=>cases h
  |succ V=>
  simp only[kD]at h
  refine zu<|q 1 [(6,ti f),(7,tb (decide (f<(List.length c:Int))))] [0,5] o<|za<|zs<|rI h o (λhc h=>?_) λhc h=>?_
  ·refine zk<|zt<|zs<|zb<|zu<|p 2 [0,3,5,6] o<|zz<|p 2 [0,3,5,6,9,10] o<|iE h λhc h=>y (ge ai o o hc.1 hc.2 o) o ?_
   refine q 2 [(13,tb (decide ((List.getD c (Int.toNat f) 0)<33)))] [0,3,5,6] o ?_
   obtain⟨C,e,h⟩:=ak h;rw[e]
   refine bL h 5 (λR=>[(0,ts c),(5,ti (List.length c:Int)),(6,ti f),(18,tb R)]) (λ_=>[]) (λH h=>?_) λR h=>?_
   ·cases C
    ·replace h:=ifF h
     refine p 2 [0,5,6,13,14,15] o<|ap (by rfl) o ?_
     refine iE h λhc h=>y (ge ai o o hc.1 hc.2 o) o ?_
     exact q 2 [(18,tb (decide ((List.getD c (Int.toNat f) 0)>126)))] [0,5,6] o<|zn<|aa [0,5,6,18] o<|zt<|ah (decide ((List.getD c (Int.toNat f) 0)>126)) () h o o
    replace h:=ifT h
    exact p 5 [0,5,6,18] o<|zn<|aa [0,5,6,18] o<|zt<|ah true () h o o
   exact za<|rI h o (λhc h=>zu<|q 1 [(2,tb false)] [] o<|zf<|zB<|zT<|zT<|zB<|zT<|by cases h;exact aB o (.tmp o)) λhc h=>zk<|zi<|zt<|zr<|q 2 [(0,ts c),(5,ti (List.length c:Int)),(6,ti (wrap .i64 (f+1)))] [] o<|za<|aa [0,5,6] o<|aR (wrap .i64 (f+1)) () (Nat.lt_succ_self _) h o o
  exact zx<|ze<|ze<|zq<|zt<|aa [0] o<|ah () () h o o
 refine zu<|q 3 [(0,ts c),(22,tb (c !=[]))] [] o ?_
 obtain⟨u,e,h⟩:=ak h;rw[e]
 refine aJ 4 [(26,tb (u&&(decide ((List.length c:Int)≤28))))] [] (?_) ?_
 ·clear h
  cases u
  ·exact q 4 [(26,tb false)] [] o<|aa [26] o<|za<|ao () o o
  exact q 4 [(26,tb (decide ((List.length c:Int)≤28)))] [] o<|aa [26] o<|za<|ao () o o
 refine q 1 [(2,tb (u&&(decide ((List.length c:Int)≤28))))] [] o<|zf ?_
 cases h
 exact aB o (.tmp o)
theorem fZ(R:Nat)(V:Value)(c u r)(h:fF c u=some r):Fn PP 161 [ptr R 0,ts u] [Res.var R 123 DT (c.1,V,c.2.2.1,c.2.2.2.1,c.2.2.2.2.1,c.2.2.2.2.2.1,c.2.2.2.2.2.2,()),Res.dfiles PP dI V c.2.1] (λv=> .tup [⟨.raw NV,aC v 0⟩,⟨(.int .i64),r⟩]) (λv=>[Res.var R 123 DT (c.1,V,c.2.2.1,c.2.2.2.1,c.2.2.2.2.1,c.2.2.2.2.2.1,c.2.2.2.2.2.2,()),Res.dfound PP dI V c.2.1 u (aC v 0) r]):=by
 unfold fF at h
 refine enter Tryz.func161 o 24 o o λF=>?_
 refine zu<|q 2 [(0,ptr R 0),(1,ts u)] [] o<|za<|zs<|zu<|p 3 [0,1,10] o<|yl 0 f5 ty4 o o o tr o<|za<|rI h o (λhc h=>zu<|q 2 [(4,tp (.pointer none)),(5,ti 9)] [] o<|zf<|zT<|pk [1,0] o<|uA (name:=u) (q:=NV) (e:=9) (by decide)<|pk [1,0] o<|by cases h;exact aF (rs:=[.tmp 4,.tmp 5]) o (.cons (.tmp o) (.cons (.tmp o) .nil)) o (λ_ vs g=>by cases g with|cons f g=>cases g with|cons M g=>cases g;exact⟨_,o,.cons (bf f) (.cons M .nil)⟩) (λ_ vs g=>by cases g with|cons f g=>cases g with|cons M g=>cases g;rw[bT f];exact(.cons_cons _ (.cons_cons _ .slnil)))) λhc h=>zy<|p 3 [1,15] o<|yl 0 f1 l0 o o o tr o<|q 1 [(16,.one W59 V),(17,ts u)] [] o<|pk [1,0] o ?_
 refine yr dK o o Tryz.underlying121 zNV o λW=>?_
 refine q 5 [(6,tp W),(7,tb (Option.isSome (aQ .str u c.2.1)))] [] o ?_
 obtain⟨C,e,h⟩:=ak h;rw[e]
 refine za<|zs<|zu<|p 2 [6,22] o<|za<|rI h o (λhc h=>zu<|q 2 [(4,tp (.pointer none)),(5,ti 5)] [] o<|zf<|zT<|az (R':=Res.dfiles PP dI V c.2.1) 0 o cp<|uA (name:=u) (q:=NV) (e:=5) (by decide)<|pk [1,0] o<|by cases h;exact aF (rs:=[.tmp 4,.tmp 5]) o (.cons (.tmp o) (.cons (.tmp o) .nil)) o (λ_ vs g=>by cases g with|cons f g=>cases g with|cons M g=>cases g;exact⟨_,o,.cons (bf f) (.cons M .nil)⟩) (λ_ vs g=>by cases g with|cons f g=>cases g with|cons M g=>cases g;rw[bT f];exact(.cons_cons _ (.cons_cons _ .slnil)))) λhc h=>zy<|q 3 [(4,tp W),(5,ti 0)] [] o<|zf<|Ai<|pk [1,0] o ?_
 cases h
 exact aF (rs:=[.tmp 4,.tmp 5]) o (.cons (.tmp o) (.cons (.tmp o) .nil)) o (λ_ vs g=>by cases g with|cons f g=>cases g with|cons M g=>cases g;exact⟨_,o,.cons (bf f) (.cons M .nil)⟩) (λ_ vs g=>by cases g with|cons f g=>cases g with|cons M g=>cases g;rw[bT f];exact(.cons_cons _ (.cons_cons _ .slnil)))
theorem io(C:Value)(c R f M r)(h:jF c R f M=some r):Fn PP 122 [tp C,ts R,ti f,ti M] [Res.disk PP dI C c] (λ_=> .tup [⟨.str,r.1⟩,⟨(.int .i64),r.2⟩]) (λ_=>[Res.disk PP dI C c]):=by
 unfold jF at h
 refine enter Tryz.func122 o 48 o o λF=>?_
 refine gE λH V hp=>?_
 subst hp
 refine zu<|q 2 [(0,ptr H 0),(1,ts R),(2,ti f),(3,ti M)] [] o<|zz<|p 2 [2,3,14,15] o<|cB h λd w h=>gx (Lo:=[]) (fZ H V c R _ w) (by kernel_rfl) (List.Perm.refl _) o o λG=>?_
 refine p 5 [2,3,10,11] o<|za<|zs<|zu<|p 2 [2,3,10,11,20] o<|za<|rI h o (λhc h=>zu<|q 3 [(8,ts []),(9,ti d)] [] o<|zf<|zT<|az (R':=Res.dfiles PP dI V c.2.1) 1 o fp<|cv (P:=PP) (I:=dI) (D:=c)<|by cases h;exact aF (rs:=[.tmp 8,.tmp 9]) o (.cons (.tmp o) (.cons (.tmp o) (.nil))) o (λ_ vs g=>aH vs g) (λ_ _ _=>(.cons_cons _ .slnil))) λhc h=>zk<|zt<|zs<|zu<|p 3 [2,3,10,24] o ?_
 obtain⟨m,e,h⟩:=ak h;rw[e]
 refine aJ 3 [(2,ti f),(3,ti M),(10,tp (aC G 0)),(27,tb (m||(decide (M<0))))] [Res.var H 123 DT (c.1,V,c.2.2.1,c.2.2.2.1,c.2.2.2.2.1,c.2.2.2.2.2.1,c.2.2.2.2.2.2,()),Res.dfound PP dI V c.2.1 R (aC G 0) d] (?_) ?_
 ·clear h
  cases m
  ·exact p 3 [2,3,10,27] o<|za<|ao () o o
  exact p 3 [2,3,10,27] o<|za<|ao () o o
 refine za<|rI h o (λhc h=>zu<|q 2 [(8,ts []),(9,ti 1)] [] o<|zf<|zT<|az (R':=Res.dfiles PP dI V c.2.1) 1 o fp<|cv (P:=PP) (I:=dI) (D:=c)<|by cases h;exact aF (rs:=[.tmp 8,.tmp 9]) o (.cons (.tmp o) (.cons (.tmp o) (.nil))) o (λ_ vs g=>aH vs g) (λ_ _ _=>(.cons_cons _ .slnil))) λhc h=>zk<|zt<|zs<|zs<|iE h λhc h=>az (R':=Res.dat PP dI V c.2.1 R (aC G 0)) 1 o (mA hc)<|cB h λf6 N h=>pk [1,0] o<|hY dK N λO J a4 a5 hq=>?_
 rw[hq]
 clear hq
 refine zr<|q 4 [(2,ti f),(3,ti M),(10,ptr O 0),(28,ti f),(31,ptr O 0)] [] o<|yl 0 f0 tx1 o o o tr o<|y (cn ai 1 o o o) o ?_
 refine q 1 [(34,tb (decide (f≥(List.length f6.1:Int))))] [2,3,10] o<|za<|rI h o (λhc h=>?_) λhc h=>?_
 ·refine zu<|q 2 [(8,ts []),(9,ti 0)] [] o<|zf<|zT<|iZ (P:=PP) (I:=dI) dK N ?_
  refine az (R':=Res.dfiles PP dI V c.2.1) 0 o cp<|pk [1,0] o<|cv (P:=PP) (I:=dI) (D:=c) ?_
  cases h
  exact aF (rs:=[.tmp 8,.tmp 9]) o (.cons (.tmp o) (.cons (.tmp o) (.nil))) o (λ_ vs g=>aH vs g) (λ_ _ _=>(.cons_cons _ .slnil))
 refine zy<|p 3 [2,3,37] o<|yl 0 f0 tx1 o o o tr o<|p 1 [3,38,39] o ?_
 obtain⟨u,h⟩:=cr h
 refine y (jA ai (i:=f) (j:=(List.length f6.1:Int)) o (eF 1 o) o o u.1 u.2.1 u.2.2 o ty5) o ?_
 refine q 1 [(12,.one W51 (fP (T.size (.int .u8)) J (Int.toNat f) (Int.toNat (List.length f6.1:Int))))] [3] o<|zz<|q 3 [(41,.one W51 (fP (T.size (.int .u8)) J (Int.toNat f) (Int.toNat (List.length f6.1:Int)))),(42,ti M),(43,.one W51 (fP (T.size (.int .u8)) J (Int.toNat f) (Int.toNat (List.length f6.1:Int))))] [] o<|y (Be ai o (na (eF 1 o) u.1 u.2.1 u.2.2) o) o ?_
 refine y (uw o o) o ?_
 obtain⟨W,h⟩:=cr h
 refine y (jA ai (i:=(0:Int)) (j:=(min M (List.length (List.drop (Int.toNat f) (List.take (Int.toNat (List.length f6.1:Int)) f6.1)):Int))) o (na (eF 1 o) u.1 u.2.1 u.2.2) o o W.1 W.2.1 W.2.2 o ty5) o ?_
 refine y (Ag ai o (na (na (eF 1 o) u.1 u.2.1 u.2.2) W.1 W.2.1 W.2.2) o o o) o ?_
 refine q 1 [(8,ts (List.take (Int.toNat (min M (List.length (List.drop (Int.toNat f) (List.take (Int.toNat (List.length f6.1:Int)) f6.1)):Int))) (List.drop (Int.toNat f) (List.take (Int.toNat (List.length f6.1:Int)) f6.1))))] [] o ?_
 obtain⟨Z,e,h⟩:=ak h;rw[e]
 refine q 1 [(8,ts Z),(9,ti 0)] [] o<|zf<|iZ (P:=PP) (I:=dI) dK N ?_
 refine az (R':=Res.dfiles PP dI V c.2.1) 0 o cp<|pk [1,0] o<|cv (P:=PP) (I:=dI) (D:=c) ?_
 cases h
 exact aF (rs:=[.tmp 8,.tmp 9]) o (.cons (.tmp o) (.cons (.tmp o) (.nil))) o (λ_ vs g=>aH vs g) (λ_ _ _=>(.cons_cons _ .slnil))
theorem rP(c r)(h:oz c=some r):bn PP 178 [.one (.int .u32) c] (ts r):=by
 unfold oz at h
 refine enter Tryz.func178 o 16 o o λF=>?_
 refine zu<|q 1 [(0,.one (.int .u32) c)] [] o<|zz<|q 11 [(5,.one (.int .u8) (wrap .u8 (bQ .u32 c 24))),(8,.one (.int .u8) (wrap .u8 (bQ .u32 c 16))),(11,.one (.int .u8) (wrap .u8 (bQ .u32 c 8))),(13,.one (.int .u8) (wrap .u8 c))] [] o<|bE (B:=1) ai o el5 o o o (.cons o (.cons o (.cons o (.cons o .nil)))) o λf=>?_
 refine y (uv ai 0 o o o o o) o ?_
 refine q 1 [(2,ts [(wrap .u8 (bQ .u32 c 24)),(wrap .u8 (bQ .u32 c 16)),(wrap .u8 (bQ .u32 c 8)),(wrap .u8 c)])] [] o ?_
 obtain⟨u,e,h⟩:=ak h;rw[e]
 refine zf ?_
 cases h
 exact aB o (.tmp o)
theorem xr(M f r)(h:sF M f=some r):bn PP 208 [.one (.int .u32) M,ti f] (.one (.int .u32) r):=by
 unfold sF at h
 refine enter Tryz.func208 o 19 o o λF=>?_
 refine zu<|q 1 [(0,.one (.int .u32) M),(1,ti f)] [] o<|za<|bv h (λV=>[(0,.one (.int .u32) V)]) (λV=>[]) (λW h=>?_) λV h=>?_
 ·refine zu<|p 2 [0,6,7] o<|za<|zb<|aa [0,6,7] o<|aY (γ:=Unit) (λ(c:Int×Int) _=>[(0,.one (.int .u32) c.1),(6,ti f),(7,ti c.2)]) (λ(c:Int×Int) _=>[]) (mG f W) (M,0) () h o o ?_
  clear h
  intro R c gg h
  cases R with
  |zero=>cases h
  |succ R=>
  simp only[mG]at h
  refine zu<|q 1 [(0,.one (.int .u32) c.1),(7,ti c.2),(8,tb (decide (c.2<f)))] [6] o<|za<|zs<|rI h o (λhc h=>?_) λhc h=>?_
  ·refine zk<|zt<|bv h (λu=>[(0,.one (.int .u32) u),(6,ti f),(7,ti c.2)]) (λu=>[]) (λN h=>?_) λu h=>?_
   ·refine zb<|zu<|q 3 [(5,.one (.int .u32) (fD .u32 c.1 1))] [0,6,7] o ?_
    obtain⟨C,e,h⟩:=ak h;rw[e]
    refine zz<|q 3 [(0,.one (.int .u32) (bQ .u32 c.1 1)),(5,.one (.int .u32) C)] [6,7] o ?_
    obtain⟨H,e,h⟩:=ak h;rw[e]
    refine zz<|p 2 [0,6,7,14] o<|za<|rI h o (λhc h=>?_) λhc h=>?_
    ·refine zr<|p 3 [0,6,7] o ?_
     obtain⟨G,e,h⟩:=ak h;rw[e]
     exact zn<|zi<|zt<|aa [0,6,7] o<|ah G () h o o
    exact zk<|zi<|zt<|aa [0,6,7] o<|ah H () h o o
   exact zr<|q 2 [(0,.one (.int .u32) u),(6,ti f),(7,ti (wrap .i64 (c.2+1)))] [] o<|za<|aa [0,6,7] o<|aR (u,(wrap .i64 (c.2+1))) () (Nat.lt_succ_self _) h o o
  exact zx<|ze<|ze<|zq<|zt<|aa [0] o<|ah c.1 () h o o
 refine zu<|q 2 [(4,.one (.int .u32) V)] [] o<|zf ?_
 cases h
 exact aB o (.tmp o)
theorem wg(r)(h:rj=some r):bn PP 190 [] (.one W53 r):=by
 unfold rj at h
 refine enter Tryz.func190 o 13 o o λF=>?_
 refine zu<|aD (t:=W53) o zG o λf=>zz<|aD (t:=W53) o zG o λu=>za<|bv h (λM=>[(0,ptr f 0),(1,ptr u 0)]) (λM=>[Res.var u 287 W53 M,Res.var f 287 W53 (List.replicate 16 (0:Int))]) (λR h=>?_) λM h=>?_
 ·refine zu<|q 1 [(0,ptr f 0),(1,ptr u 0),(3,ti 0)] [] o<|za<|zb<|aa [0,1,3] o<|aY (γ:=Unit) (λ(c:Int×List (Int)) _=>[(0,ptr f 0),(1,ptr u 0),(3,ti c.1)]) (λ(c:Int×List (Int)) _=>[Res.var u 287 W53 c.2,Res.var f 287 W53 (List.replicate 16 (0:Int))]) (lS R) (0,(List.replicate 16 (0:Int))) () h o o ?_
  clear h
  intro V c gg h
  cases V with
  |zero=>cases h
  |succ V=>
  simp only[lS]at h
  refine zu<|q 1 [(3,ti c.1),(4,tb (decide (c.1<16)))] [0,1] o<|za<|zs<|rI h o (λhc h=>?_) λhc h=>?_
  ·refine zk<|zt<|zs<|zb<|zu<|q 2 [(2,ti c.1)] [0,1,3] o<|za<|zr<|q 3 [(6,ti c.1),(8,.one (.int .u32) (wrap .u32 c.1))] [0,1,3] o<|cB h λW C h=>av (xr _ _ _ C) (ca o) o o<|iE h λhc h=>y (bY o o hc.1 hc.2 zJ cA) o ?_
   exact kd 0 (.elem (Int.toNat c.1) .here) o o o (by first|rfl|(simp only[Pth.off,T.size];omega)) (ax (by first|omega|(simp only[List.length_set]at hc⊢;omega)) ab) cA<|zn<|zi<|zt<|zr<|q 2 [(3,ti (wrap .i64 (c.1+1)))] [0,1] o<|za<|aa [0,1,3] o<|aR ((wrap .i64 (c.1+1)),(List.set c.2 (Int.toNat c.1) W)) () (Nat.lt_succ_self _) h o o
  exact zx<|ze<|ze<|zq<|zt<|aa [0,1] o<|ah c.2 () h o o
 refine zu<|yl 0 .here ww o o o tr o<|st 1 .here ww o o o o tr<|zf ?_
 cases h
 exact aU o (.cell 1 .here o o o ab ww) (λ_ _ g=>g) (λ_ _ _=>List.nil_sublist _)
theorem sR(V f r)(h:sG V f=some r):bn PP 174 [.one (.int .u32) V,ts f] (.one (.int .u32) r):=by
 unfold sG at h
 refine enter Tryz.func174 o 39 o o λF=>?_
 refine zu<|q 1 [(0,.one (.int .u32) V),(1,ts f)] [] o<|zz<|cB h λu J h=>av (wg _ J) (ca o) o o<|aD (t:=W53) o zG o λR=>st 0 .here ww o o o o tr<|zz<|p 3 [1,5,6] o ?_
 obtain⟨H,e,h⟩:=ak h;rw[e]
 refine za<|bv h (λM=>[(6,.one (.int .u32) M)]) (λM=>[Res.var R 287 W53 u]) (λd h=>?_) λM h=>?_
 ·refine zu<|q 3 [(6,.one (.int .u32) H),(12,ti (List.length f:Int)),(13,ti 0)] [1,5] o<|za<|zb<|aa [1,5,6,12,13] o<|aY (γ:=Unit) (λ(c:Int×Int) _=>[(1,ts f),(5,ptr R 0),(6,.one (.int .u32) c.1),(12,ti (List.length f:Int)),(13,ti c.2)]) (λ(c:Int×Int) _=>[Res.var R 287 W53 u]) (py f u d) (H,0) () h o o ?_
  clear h
  intro G c gg h
  cases G with
  |zero=>cases h
  |succ G=>
  simp only[py]at h
  refine zu<|q 1 [(6,.one (.int .u32) c.1),(13,ti c.2),(14,tb (decide (c.2<(List.length f:Int))))] [1,5,12] o<|za<|zs<|rI h o (λhc h=>?_) λhc h=>?_
  ·refine zk<|zt<|zs<|zb<|zu<|q 2 [(7,ti c.2)] [1,5,6,12,13] o<|zz<|q 3 [(16,.one (.int .u32) c.1),(17,ts f),(18,ti c.2)] [1,5,12,13] o<|iE h λhc h=>y (ge ai o o hc.1 hc.2 o) o ?_
   refine q 3 [(6,.one (.int .u32) (dq .u32 c.1 (wrap .u32 (List.getD f (Int.toNat c.2) 0))))] [1,5,12,13] o ?_
   obtain⟨W,e,h⟩:=ak h;rw[e]
   refine zz<|p 4 [1,5,12,13,23,25] o<|iE h λhc h=>y (bY o o hc.1 hc.2 zJ cA) o ?_
   refine y (aM 0 (.elem (Int.toNat (fD .u32 W 15)) .here) o o (by first|rfl|(simp only[Pth.off,T.size];omega)) (ax (by omega) ab) cA) o ?_
   refine q 2 [(6,.one (.int .u32) (dq .u32 (bQ .u32 W 4) (List.getD u (Int.toNat (fD .u32 W 15)) 0)))] [1,5,12,13] o ?_
   obtain⟨C,e,h⟩:=ak h;rw[e]
   refine za<|zr<|p 4 [1,5,12,13,30,32] o<|iE h λhc h=>y (bY o o hc.1 hc.2 zJ cA) o ?_
   refine y (aM 0 (.elem (Int.toNat (fD .u32 C 15)) .here) o o (by first|rfl|(simp only[Pth.off,T.size];omega)) (ax (by omega) ab) cA) o ?_
   refine q 2 [(6,.one (.int .u32) (dq .u32 (bQ .u32 C 4) (List.getD u (Int.toNat (fD .u32 C 15)) 0)))] [1,5,12,13] o ?_
   obtain⟨N,e,h⟩:=ak h;rw[e]
   exact zn<|zi<|zt<|zr<|q 2 [(6,.one (.int .u32) N),(13,ti (wrap .i64 (c.2+1)))] [1,5,12] o<|za<|aa [1,5,6,12,13] o<|aR (N,(wrap .i64 (c.2+1))) () (Nat.lt_succ_self _) h o o
  exact zx<|ze<|ze<|zq<|zt<|aa [6] o<|ah c.1 () h o o
 refine zu<|q 3 [(4,.one (.int .u32) (tQ .u32 M))] [] o<|zf ?_
 cases h
 exact aB o (.tmp o)
theorem rz(c r)(h:qv c=some r):bn PP 175 [ts c] (.one (.int .u32) r):=by
 unfold qv at h
 refine enter Tryz.func175 o 5 o o λF=>?_
 refine zu<|q 1 [(0,ts c)] [] o<|zz<|q 1 [(3,ts c)] [] o<|cB h λf u h=>av (sR _ _ _ u) (ca o) o o<|q 1 [(2,.one (.int .u32) f)] [] o<|zf ?_
 cases h
 exact aB o (.tmp o)
theorem qx(c r)(h:nH c=some r):bn PP 135 [ts c] (ts r):=by
 unfold nH at h
 refine enter Tryz.func135 o 17 o o λF=>?_
 refine zu<|q 1 [(0,ts c)] [] o<|zz<|q 3 [(6,.one (.int .u32) (wrap .u32 (List.length c:Int)))] [0] o<|cB h λf M h=>av (rP _ _ M) (ca o) o o<|p 1 [0,3] o<|zz<|p 2 [0,8,9] o<|cB h λC V h=>av (rz _ _ V) (ca o) o o<|p 1 [0,8,10,11] o<|cB h λH R h=>av (sR _ _ _ R) (ca o) o o ?_
 refine cB h λu W h=>av (rP _ _ W) (ca o) o o<|iE h λhc h=>y (iX o o hc) o ?_
 refine q 1 [(14,ts (f++u)),(15,ts c)] [] o<|iE h λhc h=>y (iX o o hc) o ?_
 refine q 1 [(2,ts ((f++u)++c))] [] o<|zf ?_
 cases h
 exact aB o (.tmp o)
theorem wh(f:Value)(u M r)(h:rk u M=some r):Fn PP 111 [tp f,ts M] [Res.disk PP dI f u] (λ_=> .tup [⟨.str,r.1⟩,⟨(.int .i64),r.2⟩]) (λ_=>[Res.disk PP dI f u]):=by
 unfold rk at h
 refine enter Tryz.func111 o 38 o o λF=>?_
 refine zu<|q 2 [(0,tp f),(1,ts M)] [] o<|za<|zs<|zu<|p 1 [0,1,8] o<|cB h λJ C h=>av (pD _ _ C) (ca o) o o<|p 1 [0,1,10] o<|za<|rI h o (λhc h=>zu<|q 2 [(4,ts []),(5,ti 1)] [] o<|zf<|zT<|by cases h;exact aF (rs:=[.tmp 4,.tmp 5]) o (.cons (.tmp o) (.cons (.tmp o) (.nil))) o (λ_ vs g=>aH vs g) (λ_ _ _=>(.cons_cons _ .slnil))) λhc h=>?_
 refine zy<|q 2 [(12,tp f),(13,ts M)] [] o<|cB h λc H h=>rc [0] (io _ _ _ _ _ _ H) (ca o) o o o λ_=>q 5 [(6,ts c.1),(7,ti c.2)] [] o<|za<|zs<|zu<|q 2 [(18,tb (c.2 !=0))] [6,7] o<|za<|rI h o (λhc h=>zu<|q 3 [(4,ts []),(5,ti c.2)] [] o<|zf<|zT<|by cases h;exact aF (rs:=[.tmp 4,.tmp 5]) o (.cons (.tmp o) (.cons (.tmp o) (.nil))) o (λ_ vs g=>aH vs g) (λ_ _ _=>(.cons_cons _ .slnil))) λhc h=>?_
 refine zk<|zt<|zs<|zu<|q 4 [(23,tb (decide ((List.length c.1:Int)<8)))] [6] o ?_
 obtain⟨V,e,h⟩:=ak h;rw[e]
 refine aJ 5 [(6,ts c.1),(28,tb (V||(decide ((wrap .i64 ((List.length c.1:Int) - 8))>1048448))))] [Res.disk PP dI f u] (?_) ?_
 ·clear h
  cases V
  ·exact q 5 [(28,tb (decide ((wrap .i64 ((List.length c.1:Int) - 8))>1048448)))] [6] o<|aa [6,28] o<|za<|ao () o o
  exact p 5 [6,28] o<|za<|ao () o o
 refine q 1 [(6,ts c.1),(29,tb (V||(decide ((wrap .i64 ((List.length c.1:Int) - 8))>1048448))))] [] o ?_
 obtain⟨G,e,h⟩:=ak h;rw[e]
 refine bL h 6 (λR=>[(6,ts c.1),(35,tb R)]) (λ_=>[Res.disk PP dI f u]) (λd h=>?_) λR h=>?_
 ·cases G
  ·replace h:=ifF h
   refine q 1 [(29,tb false),(30,ts c.1)] [6] o<|ap (by rfl) o ?_
   refine iE h λhc h=>y (iR (i:=8) (j:=(List.length c.1:Int)) ai o o o hc.1 hc.2.1 hc.2.2 o) o ?_
   refine ap (by rfl) o ?_
   exact cB h λW N h=>av (qx _ _ N) (ca o) o o<|q 3 [(35,tb (W !=c.1))] [6] o<|zn<|aa [6,35] o<|zt<|ah (W !=c.1) () h o o
  replace h:=ifT h
  exact p 6 [6,35] o<|zn<|aa [6,35] o<|zt<|ah true () h o o
 refine za<|rI h o (λhc h=>zu<|q 2 [(4,ts []),(5,ti 70)] [] o<|zf<|zT<|by cases h;exact aF (rs:=[.tmp 4,.tmp 5]) o (.cons (.tmp o) (.cons (.tmp o) (.nil))) o (λ_ vs g=>aH vs g) (λ_ _ _=>(.cons_cons _ .slnil))) λhc h=>zy<|q 1 [(36,ts c.1)] [] o<|iE h λhc h=>y (iR (i:=8) (j:=(List.length c.1:Int)) ai o o o hc.1 hc.2.1 hc.2.2 o) o ?_
 refine q 2 [(4,ts (List.drop 8 (List.take (Int.toNat (List.length c.1:Int)) c.1))),(5,ti 0)] [] o<|zf ?_
 cases h
 exact aF (rs:=[.tmp 4,.tmp 5]) o (.cons (.tmp o) (.cons (.tmp o) (.nil))) o (λ_ vs g=>aH vs g) (λ_ _ _=>(.cons_cons _ .slnil))
theorem gL(c r)(h:cZ c=some r):Fn PP 44 [ts c] [] (λv=>tp v) (λv=>[Res.cls dz v r]):=by
 unfold cZ at h
 refine enter Tryz.func44 o 6 o o λF=>?_
 refine zu<|q 1 [(0,ts c)] [] o<|zz<|q 1 [(3,ts c)] [] o<|y (bc o Eq o o (.cons f0 o o ab .nil)) o ?_
 refine bD o o λf=>q 1 [(2,ptr f 0)] [] o<|zf<|eT (x:=(c,0,())) ?_
 cases h
 exact aU o (.tmp o) (λ_ _ g=>holds_raw.2 ⟨rfl,by rw[(holds_raw.1 g).1];exact(holds_raw.1 g).2⟩) (λ_ _ g=>by obtain⟨rfl,_⟩:=holds_raw.1 g;exact(.cons_cons _ .slnil))
theorem lq(c:Nat)(u f r)(h:fy u f=some r):Fn PP 145 [ptr c 0,ti f] [Res.var c 171 W46 u] (λ_=> .tup []) (λ_=>[Res.var c 171 W46 r]):=by
 unfold fy at h
 refine enter Tryz.func145 o 11 o o λF=>?_
 refine zr<|q 5 [(5,ptr c 0),(6,ti f),(8,ptr c 0)] [] o<|st 0 f0 ty9 o o o o tr<|p 2 [6,10] o<|st 0 f1 fk o o o o tr<|nL o<|zn ?_
 cases h
 exact dV o (λ_=>aH [] .nil) ((.cons_cons _ .slnil))
theorem dQ(u:Nat)(c f r)(h:cd c f=some r):Fn PP 100 [ptr u 0,ti f] [Res.var u 171 W46 c] (λ_=>ts r.1) (λ_=>[Res.var u 171 W46 r.2]):=by
 unfold cd at h
 refine enter Tryz.func100 o 36 o o λF=>?_
 refine zu<|q 1 [(0,ptr u 0),(1,ti f)] [] o<|za<|zs<|zu<|p 3 [0,1,8] o<|yl 0 f1 fk o o o tr o<|q 1 [(10,tb (c.2.1 !=0))] [0,1] o<|za<|rI h o (λhc h=>zu<|q 1 [(4,ts [])] [] o<|zf<|zT<|by cases h;exact aU o (.tmp o) (λ_ _ g=>g) (λ_ _ _=>(.cons_cons _ .slnil))) λhc h=>?_
 refine zk<|zt<|zs<|zu<|p 3 [0,1,13] o<|yl 0 f0 ty9 o o o tr o<|q 3 [(17,tb (decide ((List.length c.1:Int)<f)))] [0,1] o<|za<|rI h o (λhc h=>zu<|q 1 [(18,ptr u 0)] [] o<|cB h λR M h=>rc [0] (lq _ _ _ _ M) (ca o) o o o λ_=>zz<|q 1 [(4,ts [])] [] o<|zf<|zT<|by cases h;exact aU o (.tmp o) (λ_ _ g=>g) (λ_ _ _=>(.cons_cons _ .slnil))) λhc h=>zy<|p 3 [0,1,22] o<|yl 0 f0 ty9 o o o tr o<|q 1 [(23,ts c.1),(24,ti f)] [0,1] o<|iE h λhc h=>?_
 refine y (iR (i:=(0:Int)) (j:=f) ai o o o hc.1 hc.2.1 hc.2.2 o) o ?_
 refine q 1 [(5,ts (List.drop 0 (List.take (Int.toNat f) c.1)))] [0,1] o ?_
 obtain⟨V,e,h⟩:=ak h;rw[e]
 refine zz<|p 4 [1,5,26,29] o<|yl 0 f0 ty9 o o o tr o<|q 1 [(30,ts c.1),(31,ti f)] [5,26] o<|iE h λhc h=>y (iR (i:=f) (j:=(List.length c.1:Int)) ai o o o hc.1 hc.2.1 hc.2.2 o) o ?_
 refine q 2 [(32,ts (List.drop (Int.toNat f) (List.take (Int.toNat (List.length c.1:Int)) c.1))),(34,ptr u 0)] [5] o<|st 0 f0 ty9 o o o o tr<|zz<|q 2 [(4,ts V)] [] o<|zf ?_
 cases h
 exact bd o (.tmp o) (.cons_cons _ .slnil)
theorem pW(f r)(h:gy f=some r):bn PP 99 [ts f] (.one (.int .u64) r):=by
 unfold gy at h
 refine enter Tryz.func99 o 19 o o λF=>?_
 refine zu<|q 1 [(0,ts f)] [] o<|zz<|p 1 [0,3] o<|za<|bv h (λu=>[(3,.one (.int .u64) u)]) (λu=>[]) (λR h=>?_) λu h=>?_
 ·refine zu<|q 3 [(6,ti (List.length f:Int)),(7,ti 0)] [0,3] o<|za<|zb<|aa [0,3,6,7] o<|aY (γ:=Unit) (λ(c:Int×Int) _=>[(0,ts f),(3,.one (.int .u64) c.1),(6,ti (List.length f:Int)),(7,ti c.2)]) (λ(c:Int×Int) _=>[]) (dB f R) (0,0) () h o o ?_
  clear h
  intro M c gg h
  cases M with
  |zero=>cases h
  |succ M=>
  simp only[dB]at h
  refine zu<|q 1 [(3,.one (.int .u64) c.1),(7,ti c.2),(8,tb (decide (c.2<(List.length f:Int))))] [0,6] o<|za<|zs<|rI h o (λhc h=>?_) λhc h=>?_
  ·refine zk<|zt<|zs<|zb<|zu<|q 2 [(4,ti c.2)] [0,3,6,7] o<|za<|zr<|q 4 [(11,.one (.int .u64) (fC .u64 c.1 8)),(12,ts f),(13,ti c.2)] [0,6,7] o<|iE h λhc h=>y (ge ai o o hc.1 hc.2 o) o ?_
   refine q 3 [(3,.one (.int .u64) (ior .u64 (fC .u64 c.1 8) (wrap .u64 (List.getD f (Int.toNat c.2) 0))))] [0,6,7] o ?_
   obtain⟨V,e,h⟩:=ak h;rw[e]
   exact zn<|zi<|zt<|zr<|q 2 [(3,.one (.int .u64) V),(7,ti (wrap .i64 (c.2+1)))] [0,6] o<|za<|aa [0,3,6,7] o<|aR (V,(wrap .i64 (c.2+1))) () (Nat.lt_succ_self _) h o o
  exact zx<|ze<|ze<|zq<|zt<|aa [3] o<|ah c.1 () h o o
 refine zu<|q 2 [(2,.one (.int .u64) u)] [] o<|zf ?_
 cases h
 exact aB o (.tmp o)
theorem bN(c:Nat)(f r)(h:bi f=some r):Fn PP 45 [ptr c 0] [Res.var c 171 W46 f] (λ_=>ti r.1) (λ_=>[Res.var c 171 W46 r.2]):=by
 unfold bi at h
 refine enter Tryz.func45 o 7 o o λF=>?_
 refine zu<|q 1 [(0,ptr c 0)] [] o<|zz<|q 1 [(3,ptr c 0)] [] o<|cB h λR u h=>rc [0] (dQ _ _ _ _ u) (ca o) o o o λ_=>cB h λM V h=>av (pW _ _ V) (ca o) o o<|q 2 [(2,ti (wrap .i64 M))] [] o<|zf ?_
 cases h
 exact bd o (.tmp o) (.cons_cons _ .slnil)
theorem qy(f r)(h:gS f=some r):bn PP 101 [ts f] (.one (.int .u8) r):=by
 unfold gS at h
 refine enter Tryz.func101 o 20 o o λF=>?_
 refine zu<|q 1 [(0,ts f)] [] o<|zz<|p 1 [0,3] o<|za<|bv h (λu=>[(3,.one (.int .u64) u)]) (λu=>[]) (λR h=>?_) λu h=>?_
 ·refine zu<|q 3 [(6,ti (List.length f:Int)),(7,ti 0)] [0,3] o<|za<|zb<|aa [0,3,6,7] o<|aY (γ:=Unit) (λ(c:Int×Int) _=>[(0,ts f),(3,.one (.int .u64) c.1),(6,ti (List.length f:Int)),(7,ti c.2)]) (λ(c:Int×Int) _=>[]) (dO f R) (0,0) () h o o ?_
  clear h
  intro M c gg h
  cases M with
  |zero=>cases h
  |succ M=>
  simp only[dO]at h
  refine zu<|q 1 [(3,.one (.int .u64) c.1),(7,ti c.2),(8,tb (decide (c.2<(List.length f:Int))))] [0,6] o<|za<|zs<|rI h o (λhc h=>?_) λhc h=>?_
  ·refine zk<|zt<|zs<|zb<|zu<|q 2 [(4,ti c.2)] [0,3,6,7] o<|za<|zr<|q 4 [(11,.one (.int .u64) (fC .u64 c.1 8)),(12,ts f),(13,ti c.2)] [0,6,7] o<|iE h λhc h=>y (ge ai o o hc.1 hc.2 o) o ?_
   refine q 3 [(3,.one (.int .u64) (ior .u64 (fC .u64 c.1 8) (wrap .u64 (List.getD f (Int.toNat c.2) 0))))] [0,6,7] o ?_
   obtain⟨V,e,h⟩:=ak h;rw[e]
   exact zn<|zi<|zt<|zr<|q 2 [(3,.one (.int .u64) V),(7,ti (wrap .i64 (c.2+1)))] [0,6] o<|za<|aa [0,3,6,7] o<|aR (V,(wrap .i64 (c.2+1))) () (Nat.lt_succ_self _) h o o
  exact zx<|ze<|ze<|zq<|zt<|aa [3] o<|ah c.1 () h o o
 refine zu<|q 3 [(2,.one (.int .u8) (wrap .u8 u))] [] o<|zf ?_
 cases h
 exact aB o (.tmp o)
theorem gA(c:Nat)(f r)(h:ct f=some r):Fn PP 46 [ptr c 0] [Res.var c 171 W46 f] (λ_=> .one (.int .u8) r.1) (λ_=>[Res.var c 171 W46 r.2]):=by
 unfold ct at h
 refine enter Tryz.func46 o 6 o o λF=>?_
 refine zu<|q 1 [(0,ptr c 0)] [] o<|zz<|q 1 [(3,ptr c 0)] [] o<|cB h λR u h=>rc [0] (dQ _ _ _ _ u) (ca o) o o o λ_=>cB h λM V h=>av (qy _ _ V) (ca o) o o<|q 1 [(2,.one (.int .u8) M)] [] o<|zf ?_
 cases h
 exact bd o (.tmp o) (.cons_cons _ .slnil)
theorem jk(f r)(h:dm f=some r):bn PP 148 [ts f] (.one (.int .u16) r):=by
 unfold dm at h
 refine enter Tryz.func148 o 20 o o λF=>?_
 refine zu<|q 1 [(0,ts f)] [] o<|zz<|p 1 [0,3] o<|za<|bv h (λu=>[(3,.one (.int .u64) u)]) (λu=>[]) (λR h=>?_) λu h=>?_
 ·refine zu<|q 3 [(6,ti (List.length f:Int)),(7,ti 0)] [0,3] o<|za<|zb<|aa [0,3,6,7] o<|aY (γ:=Unit) (λ(c:Int×Int) _=>[(0,ts f),(3,.one (.int .u64) c.1),(6,ti (List.length f:Int)),(7,ti c.2)]) (λ(c:Int×Int) _=>[]) (dC f R) (0,0) () h o o ?_
  clear h
  intro M c gg h
  cases M with
  |zero=>cases h
  |succ M=>
  simp only[dC]at h
  refine zu<|q 1 [(3,.one (.int .u64) c.1),(7,ti c.2),(8,tb (decide (c.2<(List.length f:Int))))] [0,6] o<|za<|zs<|rI h o (λhc h=>?_) λhc h=>?_
  ·refine zk<|zt<|zs<|zb<|zu<|q 2 [(4,ti c.2)] [0,3,6,7] o<|za<|zr<|q 4 [(11,.one (.int .u64) (fC .u64 c.1 8)),(12,ts f),(13,ti c.2)] [0,6,7] o<|iE h λhc h=>y (ge ai o o hc.1 hc.2 o) o ?_
   refine q 3 [(3,.one (.int .u64) (ior .u64 (fC .u64 c.1 8) (wrap .u64 (List.getD f (Int.toNat c.2) 0))))] [0,6,7] o ?_
   obtain⟨V,e,h⟩:=ak h;rw[e]
   exact zn<|zi<|zt<|zr<|q 2 [(3,.one (.int .u64) V),(7,ti (wrap .i64 (c.2+1)))] [0,6] o<|za<|aa [0,3,6,7] o<|aR (V,(wrap .i64 (c.2+1))) () (Nat.lt_succ_self _) h o o
  exact zx<|ze<|ze<|zq<|zt<|aa [3] o<|ah c.1 () h o o
 refine zu<|q 3 [(2,.one (.int .u16) (wrap .u16 u))] [] o<|zf ?_
 cases h
 exact aB o (.tmp o)
theorem fB(c:Nat)(f r)(h:cG f=some r):Fn PP 105 [ptr c 0] [Res.var c 171 W46 f] (λ_=> .one (.int .u16) r.1) (λ_=>[Res.var c 171 W46 r.2]):=by
 unfold cG at h
 refine enter Tryz.func105 o 6 o o λF=>?_
 refine zu<|q 1 [(0,ptr c 0)] [] o<|zz<|q 1 [(3,ptr c 0)] [] o<|cB h λR u h=>rc [0] (dQ _ _ _ _ u) (ca o) o o o λ_=>cB h λM V h=>av (jk _ _ V) (ca o) o o<|q 1 [(2,.one (.int .u16) M)] [] o<|zf ?_
 cases h
 exact bd o (.tmp o) (.cons_cons _ .slnil)
theorem dR(u:Value)(c r)(h:co c=some r):Fn PP 48 [tp u] [Res.cls fI u c] (λ_=>ti r.1) (λ_=>[Res.cls fI u r.2]):=by
 unfold co at h
 refine enter Tryz.func48 o 9 o o λF=>?_
 refine pV λM H hp=>?_
 subst hp
 refine fY (x:=c) ?_
 refine zu<|q 1 [(0,ptr M 0)] [] o<|za<|zs<|gV λR=>?_
 refine zr<|q 3 [(5,ptr M 0)] [] o<|yl 0 f0 gw o o o tr o ?_
 obtain⟨V,h⟩:=cr h
 refine az (R':=Res.cls dz R c.1.2) 1 o (dW V)<|pk [1,0] o<|eL λW hp=>?_
 rw[hp]
 clear hp
 refine cB h λf C h=>rc [0] (fB _ _ _ C) (ca o) o o o λ_=>q 2 [(2,ti (wrap .i64 f.1))] [] o<|zf<|eT (x:=f.2) ?_
 refine az (R':=Res.clsif dz (.pointer (some ⟨W,0,none⟩)) f.2 c.1.1) 0 o (cY V)<|nL o<|pk [1,0] o<|fY (x:=((c.1.1,f.2),c.2.1,c.2.2)) ?_
 cases h
 exact bd o (.tmp o) (.cons_cons _ .slnil)
theorem dS(c:Nat)(f r)(h:cI f=some r):Fn PP 102 [ptr c 0] [Res.var c 171 W46 f] (λ_=>ts r.1) (λ_=>[Res.var c 171 W46 r.2]):=by
 unfold cI at h
 refine enter Tryz.func102 o 7 o o λF=>?_
 refine zu<|q 1 [(0,ptr c 0)] [] o<|zz<|q 3 [(5,ptr c 0)] [] o<|yl 0 f0 ty9 o o o tr o<|q 1 [(2,ts f.1)] [] o<|zf ?_
 cases h
 exact bd o (.tmp o) (.cons_cons _ .slnil)
theorem gn(c:Nat)(f r)(h:cN f=some r):Fn PP 104 [ptr c 0] [Res.var c 171 W46 f] (λ_=>ti r.1) (λ_=>[Res.var c 171 W46 r.2]):=by
 unfold cN at h
 refine enter Tryz.func104 o 7 o o λF=>?_
 refine zu<|q 1 [(0,ptr c 0)] [] o<|zz<|q 3 [(5,ptr c 1)] [] o<|yl 0 f1 fk o o o tr o<|q 1 [(2,ti f.2.1)] [] o<|zf ?_
 cases h
 exact bd o (.tmp o) (.cons_cons _ .slnil)
theorem cR(c:Nat)(f r)(h:bU f=some r):Fn PP 50 [ptr c 0] [Res.var c 171 W46 f] (λ_=> .one W55 r.1) (λ_=>[Res.var c 171 W46 r.2]):=by
 unfold bU at h
 refine enter Tryz.func50 o 9 o o λF=>?_
 refine zu<|aD (t:=W55) o ns o λV=>zz<|aD (t:=W55) o ns o λu=>za<|zs<|dF (by kernel_rfl)<|fH 0 (.one W51 (.slice (some ⟨u,0,none⟩) 32 32)) o (by kernel_rfl) (ta o uh o ty5)<|ae 1 (ptr c 0) o (by kernel_rfl) o<|af 2 (by kernel_rfl) o<|cB h λR M h=>rc [2] (dQ _ _ _ _ M) (ca o) o o o λ_=>za<|aa [2,3,4,6] o ?_
 refine af 3 (by kernel_rfl) o<|AE ai 1 .here o o o ab o o o ty5 o λW=>?_
 refine za<|aa [2,3] o<|aN (by kernel_rfl)<|zt<|zu<|yl 1 .here bK o o o tr o<|st 2 .here bK o o o o tr<|zf ?_
 cases h
 exact aU o (.cell 2 .here o o o ab bK) (λ_ _ g=>g) (λ_ _ _=>(.cons_cons _ (.cons _ (.cons _ .slnil))))
theorem qz(c:Nat)(f u r)(h:dX f u=some r):Fn PP 146 [ptr c 0,ti u] [Res.var c 171 W46 f] (λ_=>ts r.1) (λ_=>[Res.var c 171 W46 r.2]):=by
 unfold dX at h
 refine enter Tryz.func146 o 39 o o λF=>?_
 refine zu<|q 1 [(0,ptr c 0),(1,ti u)] [] o<|za<|bv h (λM=>[(0,ptr c 0)]) (λM=>[Res.var c 171 W46 M]) (λZ h=>?_) λM h=>?_
 ·refine zu<|p 3 [0,1,8] o<|yl 0 f1 fk o o o tr o<|q 2 [(11,tb (f.2.1==0))] [0,1] o ?_
  obtain⟨V,e,h⟩:=ak h;rw[e]
  refine aJ 7 [(0,ptr c 0),(1,ti u),(18,tb (V&&(decide ((List.length f.1:Int)≥2))))] [Res.var c 171 W46 f] (?_) ?_
  ·clear h
   cases V
   ·exact p 7 [0,1,18] o<|za<|ao () o o
   refine p 3 [0,1,11,14] o<|ap (by rfl) o ?_
   exact yl 0 f0 ty9 o o o tr o<|q 3 [(18,tb (decide ((List.length f.1:Int)≥2)))] [0,1] o<|aa [0,1,18] o<|za<|ao () o o
  refine q 1 [(0,ptr c 0),(1,ti u),(19,tb (V&&(decide ((List.length f.1:Int)≥2))))] [] o ?_
  obtain⟨W,e,h⟩:=ak h;rw[e]
  refine bL h 10 (λR=>[(0,ptr c 0),(29,tb R)]) (λ_=>[Res.var c 171 W46 f]) (λk8 h=>?_) λR h=>?_
  ·cases W
   ·replace h:=ifF h
    exact p 10 [0,29] o<|zn<|aa [0,29] o<|zt<|ah false () h o o
   replace h:=ifT h
   refine p 3 [0,1,19,22] o<|ap (by rfl) o ?_
   refine yl 0 f0 ty9 o o o tr o<|ap (by rfl) o ?_
   refine iE h λhc h=>y (iR (i:=(0:Int)) (j:=2) ai o o o hc.1 hc.2.1 hc.2.2 o) o ?_
   refine ap (by rfl) o ?_
   exact cB h λC H h=>av (jk _ _ H) (ca o) o o<|p 4 [0,29] o<|zn<|aa [0,29] o<|zt<|ah (decide ((wrap .i64 C)>u)) () h o o
  exact za<|rI h o (λhc h=>zr<|q 1 [(0,ptr c 0),(30,ptr c 0)] [] o<|cB h λG N h=>rc [0] (lq _ _ _ _ N) (ca o) o o o λ_=>za<|aa [0] o<|ah G () h o o) λhc h=>zk<|zt<|aa [0] o<|ah f () h o o
 refine zu<|q 1 [(0,ptr c 0),(32,ptr c 0)] [] o<|cB h λr3 J h=>rc [0] (dQ _ _ _ _ J) (ca o) o o o λ_=>cB h λd m h=>av (jk _ _ m) (ca o) o o<|p 1 [0,5] o<|zz<|q 3 [(35,ptr c 0),(37,ti (wrap .i64 d))] [] o<|cB h λO w h=>rc [0] (dQ _ _ _ _ w) (ca o) o o o λ_=>q 1 [(4,ts O.1)] [] o<|zf ?_
 cases h
 exact bd o (.tmp o) (.cons_cons _ .slnil)
theorem uW(c r)(h:mH c=some r):bn PP 147 [ti c] (ti r):=by
 unfold mH at h
 refine enter Tryz.func147 o 6 o o λF=>?_
 refine zu<|q 1 [(0,ti c)] [] o<|za<|zs<|zu<|p 2 [0,4] o<|za<|rI h o (λhc h=>zu<|q 1 [(2,ti 120)] [] o<|zf<|zT<|by cases h;exact aB o (.tmp o)) λhc h=>zy<|q 2 [(2,ti c)] [] o<|zf ?_
 cases h
 exact aB o (.tmp o)
theorem qA(c r)(h:fN c=some r):bn PP 103 [ts c] (.tup [⟨Y52,r.1⟩,⟨(.int .i64),r.2.1⟩,⟨(.int .i64),r.2.2⟩]):=by
 unfold fN at h
 refine enter Tryz.func103 o 70 o o λF=>?_
 refine zu<|aD (t:=Y52) o jJ o λV=>q 2 [(0,ts c),(2,ptr V 0)] [] o<|zz<|p 1 [0,2,8] o<|cB h λr3 a2 h=>rc [] (gL _ _ a2) (ca o) o o o λv4=>p 1 [0,2,5] o<|zz<|p 1 [0,2,5,10] o<|eL λM hp=>?_
 subst hp
 refine cB h λf a3 h=>rc [0] (gA _ _ _ a3) (ca o) o o o λ_=>q 1 [(5,ptr M 0),(12,ti (wrap .i64 f.1))] [0,2] o<|y (bc o jJ o o (.cons f0 o o ab .nil)) o ?_
 refine aD (t:=Y52) o jJ o λu=>st 0 .here bI o o o o tr<|za<|zs<|zu<|p 1 [0,2,5,6,14] o<|cB h λN a4 h=>rc [1] (gn _ _ _ a4) (ca o) o o o λ_=>q 2 [(17,tb (N.1==0))] [0,2,5,6] o ?_
 obtain⟨b9,e,h⟩:=ak h;rw[e]
 refine bL h 9 (λZ=>[(0,ts c),(2,ptr V 0),(5,ptr M 0),(6,ptr u 0),(26,tb Z)]) (λ_=>[Res.var M 171 W46 N.2,Res.var u 52 Y52 ((wrap .i64 f.1),0,0,z32,[],()),Res.var V 52 Y52 (0,0,0,z32,[],())]) (λb4 h=>?_) λZ h=>?_
 ·cases b9
  ·replace h:=ifF h
   exact p 9 [0,2,5,6,26] o<|zn<|aa [0,2,5,6,26] o<|zt<|ah false () h o o
  replace h:=ifT h
  refine p 1 [0,2,5,6,17,18] o<|ap (by rfl) o ?_
  refine yl 1 f0 ty3 o o o tr o<|q 2 [(21,tb (decide ((wrap .i64 f.1)<1)))] [0,2,5,6,17] o ?_
  obtain⟨G,e,h⟩:=ak h;rw[e]
  refine aJ 4 [(0,ts c),(2,ptr V 0),(5,ptr M 0),(6,ptr u 0),(17,tb true),(25,tb (G||(decide ((wrap .i64 f.1)>3))))] [Res.var M 171 W46 N.2,Res.var u 52 Y52 ((wrap .i64 f.1),0,0,z32,[],()),Res.var V 52 Y52 (0,0,0,z32,[],())] (?_) ?_
  ·clear h
   cases G
   ·refine p 1 [0,2,5,6,17,21,22] o<|ap (by rfl) o ?_
    exact yl 1 f0 ty3 o o o tr o<|q 2 [(25,tb (decide ((wrap .i64 f.1)>3)))] [0,2,5,6,17] o<|aa [0,2,5,6,17,25] o<|za<|ao () o o
   exact p 4 [0,2,5,6,17,25] o<|za<|ao () o o
  exact q 1 [(0,ts c),(2,ptr V 0),(5,ptr M 0),(6,ptr u 0),(26,tb (G||(decide ((wrap .i64 f.1)>3))))] [] o<|zn<|aa [0,2,5,6,26] o<|zt<|ah (G||(decide ((wrap .i64 f.1)>3))) () h o o
 refine za<|rI h o (λhc h=>?_) λhc h=>?_
 ·refine zu<|y (bc o jJ o o .nil) o ?_
  refine st 2 .here bI o o o o tr<|q 2 [(2,ptr V 0),(3,ti 0),(4,ti 120)] [] o<|zf<|zT ?_
  cases h
  exact aF (rs:=[.cell 2 52,.tmp 3,.tmp 4]) o (.cons (.cell 2 .here o o o ab bI) (.cons (.tmp o) (.cons (.tmp o) (.nil)))) o (λ_ vs g=>aH vs g) (λ_ _ _=>List.nil_sublist _)
 refine zy<|q 1 [(0,ts c),(2,ptr V 0),(5,ptr M 0),(6,ptr u 0),(28,ptr M 0)] [] o<|cB h λC a5 h=>rc [0] (fB _ _ _ a5) (ca o) o o o λ_=>q 2 [(30,ti (wrap .i64 C.1)),(31,ptr u 1)] [0,2,5,6] o<|st 1 f1 ty2 o o o o tr<|za<|bv h (λW=>[(0,ts c),(2,ptr V 0),(5,ptr M 0),(6,ptr u 0)]) (λW=>[Res.var M 171 W46 W.1,Res.var u 52 Y52 W.2,Res.var V 52 Y52 (0,0,0,z32,[],())]) (λb6 h=>?_) λW h=>?_
 ·refine zu<|p 1 [0,2,5,6,32] o<|yl 1 f0 ty3 o o o tr o<|za<|zb<|zu<|q 2 [(33,ti (wrap .i64 f.1)),(34,tb ((wrap .i64 f.1)==1))] [0,2,5,6] o<|za<|rI h o (λhc h=>?_) λhc h=>?_
  ·refine zu<|p 1 [0,2,5,6,36] o<|cB h λa1 a6 h=>rc [0] (bN _ _ _ a6) (ca o) o o o λ_=>q 1 [(37,ti a1.1),(38,ptr u 2)] [0,2,5,6] o<|st 1 f2 ty2 o o o o tr<|za<|zr<|p 1 [0,2,5,6,39] o<|cB h λJ a7 h=>rc [0] (cR _ _ _ a7) (ca o) o o o λ_=>q 1 [(40,.one W55 J.1),(41,ptr u 3)] [0,2,5,6] o<|st 1 f3 bK o o o o tr<|nL o ?_
   exact zn<|zi<|zt<|aa [0,2,5,6] o<|ah (J.2,((wrap .i64 f.1),(wrap .i64 C.1),a1.1,J.1,[],())) () h o o
  exact zu<|q 2 [(42,tb ((wrap .i64 f.1)==2))] [0,2,5,6,33] o<|za<|rI h o (λhc h=>zr<|p 1 [0,2,5,6,44] o<|cB h λd a8 h=>rc [0] (cR _ _ _ a8) (ca o) o o o λ_=>q 1 [(45,.one W55 d.1),(46,ptr u 3)] [0,2,5,6] o<|st 1 f3 bK o o o o tr<|zn<|zi<|zt<|aa [0,2,5,6] o<|ah (d.2,((wrap .i64 f.1),(wrap .i64 C.1),0,d.1,[],())) () h o o) λhc h=>zu<|q 2 [(47,tb ((wrap .i64 f.1)==3))] [0,2,5,6] o<|za<|rI h o (λhc h=>zr<|p 1 [0,2,5,6,49] o<|cB h λm a9 h=>rc [0] (qz _ _ _ _ a9) (ca o) o o o λ_=>q 1 [(50,ts m.1),(51,ptr u 35)] [0,2,5,6] o<|st 1 f4 ty9 o o o o tr<|zn<|zi<|zt<|aa [0,2,5,6] o<|ah (m.2,((wrap .i64 f.1),(wrap .i64 C.1),0,z32,m.1,())) () h o o) λhc h=>zk<|zi<|zt<|aa [0,2,5,6] o<|ah (C.2,((wrap .i64 f.1),(wrap .i64 C.1),0,z32,[],())) () h o o
 refine zs<|zu<|q 1 [(0,ts c),(2,ptr V 0),(5,ptr M 0),(6,ptr u 0),(52,ptr M 0)] [] o<|cB h λO b0 h=>rc [0] (gn _ _ _ b0) (ca o) o o o λ_=>q 1 [(7,ti O.1)] [0,2,5,6] o<|zz<|q 2 [(55,tb (O.1 !=0))] [0,2,5,6,7] o<|za<|rI h o (λhc h=>?_) λhc h=>?_
 ·refine zu<|y (bc o jJ o o .nil) o ?_
  refine q 1 [(56,.one Y52 (0,0,0,z32,[],())),(57,ti O.1)] [2] o<|cB h λb8 b1 h=>av (uW _ _ b1) (ca o) o o<|st 2 .here bI o o o o tr<|p 2 [2,3,4] o<|zf<|zT ?_
  cases h
  exact aF (rs:=[.cell 2 52,.tmp 3,.tmp 4]) o (.cons (.cell 2 .here o o o ab bI) (.cons (.tmp o) (.cons (.tmp o) (.nil)))) o (λ_ vs g=>aH vs g) (λ_ _ _=>List.nil_sublist _)
 refine zk<|zt<|zs<|zu<|yl 1 .here bI o o o tr o<|cB h λc0 b3 h=>av (hJ _ _ b3) (ca o) o o<|p 1 [0,2,5,6,61] o<|za<|rI h o (λhc h=>?_) λhc h=>?_
 ·refine zu<|y (bc o jJ o o .nil) o ?_
  refine st 2 .here bI o o o o tr<|p 2 [2,3,4] o<|zf<|zT ?_
  cases h
  exact aF (rs:=[.cell 2 52,.tmp 3,.tmp 4]) o (.cons (.cell 2 .here o o o ab bI) (.cons (.tmp o) (.cons (.tmp o) (.nil)))) o (λ_ vs g=>aH vs g) (λ_ _ _=>List.nil_sublist _)
 refine zk<|zt<|bv h (λH=>[(2,ptr V 0),(3,ti H.1),(4,ti H.2.1)]) (λH=>[Res.var M 171 W46 H.2.2.1,Res.var u 52 Y52 W.2,Res.var V 52 Y52 H.2.2.2]) (λc1 h=>?_) λH h=>?_
 ·refine dF (by kernel_rfl)<|ae 1 (ts c) o (by kernel_rfl) o<|ae 2 (ti (List.length c:Int)) o (by kernel_rfl) o<|ae 3 (ptr M 0) o (by kernel_rfl) o ?_
  refine br (i:=0) (j:=4) (by kernel_rfl) o o ?_ ?_
  ·refine yl 1 .here bI o o o tr o<|za<|aa [2,63,65,66] o<|af 4 (by kernel_rfl) o<|cB h λR w h=>rc [0] (dS _ _ _ w) (ca o) o o o λ_=>za<|aa [2,63,65,67] o<|ae 5 (ti (List.length R.1:Int)) o (by kernel_rfl) o<|ae 6 (ti (wrap .i64 ((List.length c:Int) - (List.length R.1:Int)))) o (by kernel_rfl) o<|af 7 (by kernel_rfl) o<|st 2 .here bI o o o o tr<|za<|aa [2,69] o ?_
   exact ae 8 (ti (wrap .i64 ((List.length c:Int) - (List.length R.1:Int)))) o (by kernel_rfl) o<|ae 9 (ti 0) o (by kernel_rfl) o<|aN (by kernel_rfl)<|zt<|aa [2,3,4] o<|ah ((wrap .i64 ((List.length c:Int) - (List.length R.1:Int))),0,R.2,W.2) () h o o
  refine cB h λR w h=>rc [0] (dS _ _ _ w) (ca o) o o o λ_=>za<|aa [2,6,65,67] o<|ae 5 (ti (List.length R.1:Int)) o (by kernel_rfl) o<|ae 6 (ti (wrap .i64 ((List.length c:Int) - (List.length R.1:Int)))) o (by kernel_rfl) o<|af 0 (by kernel_rfl) o<|yl 1 .here bI o o o tr o<|za<|aa [2,63,69] o<|af 7 (by kernel_rfl) o<|st 2 .here bI o o o o tr<|za<|aa [2,69] o ?_
  exact ae 8 (ti (wrap .i64 ((List.length c:Int) - (List.length R.1:Int)))) o (by kernel_rfl) o<|ae 9 (ti 0) o (by kernel_rfl) o<|aN (by kernel_rfl)<|zt<|aa [2,3,4] o<|ah ((wrap .i64 ((List.length c:Int) - (List.length R.1:Int))),0,R.2,W.2) () h o o
 refine zR ?_
 cases h
 exact aF (rs:=[.cell 2 52,.tmp 3,.tmp 4]) o (.cons (.cell 2 .here o o o ab bI) (.cons (.tmp o) (.cons (.tmp o) (.nil)))) o (λ_ vs g=>aH vs g) (λ_ _ _=>List.nil_sublist _)
theorem mU(H:Value)(G r)(h:eO G=some r):Fn PP 47 [tp H] [Res.cls fI H G] (λv=> .one W51 v) (λv=>[Res.cls fI H r.2,Res.own v 52 Y52 r.1]):=by
 unfold eO at h
 refine enter Tryz.func47 o 49 o o λF=>?_
 refine pV λu a9 hp=>?_
 subst hp
 refine fY (x:=G) ?_
 refine zu<|q 1 [(0,ptr u 0)] [] o<|zz<|p 1 [0,3] o<|cj (.slice none 0 0) o 52 Y52 ?_
 refine za<|jK h (γ:=Value) (λW g6=>[(3,.one W51 g6)]) (λW g6=>[Res.cls fI (.pointer (some ⟨u,0,none⟩)) W.1,Res.own g6 52 Y52 W.2]) (λw h=>?_) λW g6 h=>?_
 ·refine zu<|p 1 [0,3,8] o<|cB h λM Z h=>rc [1] (dR _ _ _ Z) (ca o) o o o λ_=>q 1 [(9,ti M.1),(10,ti 0)] [0,3] o<|za<|zb<|aa [0,3,9,10] o<|aY (γ:=Value) (λ(c:Int×((Int×Z13)×Bool×Unit)×(List Z51)) g12=>[(0,ptr u 0),(3,.one W51 g12),(9,ti M.1),(10,ti c.1)]) (λ(c:Int×((Int×Z13)×Bool×Unit)×(List Z51)) g12=>[Res.cls fI (.pointer (some ⟨u,0,none⟩)) c.2.1,Res.own g12 52 Y52 c.2.2]) (cO w M) (0,M.2,[]) (.slice none 0 0) h o o ?_
  clear h
  intro O c g12 h
  cases O with
  |zero=>cases h
  |succ O=>
  simp only[cO]at h
  refine zu<|q 1 [(3,.one W51 g12),(10,ti c.1),(11,tb (decide (c.1<M.1)))] [0,9] o<|za<|zs<|rI h o (λhc h=>?_) λhc h=>?_
  ·refine zk<|zt<|zs<|zb<|zs<|gV λa1=>?_
   refine zr<|p 3 [0,3,9,10,14] o<|yl 0 f0 gw o o o tr o ?_
   obtain⟨N,h⟩:=cr h
   refine az (R':=Res.cls dz a1 c.2.1.1.2) 1 o (dW N)<|pk [1,0,0] o<|eL λJ hp=>?_
   rw[hp]
   clear hp
   refine cB h λV a2 h=>rc [0] (dS _ _ _ a2) (ca o) o o o λ_=>q 1 [(4,ts V.1)] [0,3,9,10] o<|zz<|q 1 [(18,ts V.1)] [0,3,4,9,10] o<|cB h λf a3 h=>av (qA _ _ a3) (ca o) o o<|q 4 [(20,.one Y52 f.1),(21,ti f.2.1),(22,ti f.2.2)] [0,3,4,9,10] o<|aD (t:=Y52) o jJ o λC=>st 0 .here bI o o o o tr<|nL o<|q 2 [(5,ptr C 0),(6,ti f.2.1),(7,ti f.2.2)] [0,3,4,9,10] o<|za<|zs ?_
   refine zu<|q 3 [(25,tb (f.2.2 !=0))] [0,3,4,5,6,9,10] o ?_
   obtain⟨a4,e,h⟩:=ak h;rw[e]
   refine bL h 7 (λR=>[(0,ptr u 0),(3,.one W51 g12),(4,ts V.1),(5,ptr C 0),(6,ti f.2.1),(9,ti M.1),(10,ti c.1),(32,tb R.1)]) (λR=>[Res.var C 52 Y52 f.1,Res.var J 171 W46 R.2,Res.var u 103 W41 ((.pointer (some ⟨J,0,none⟩)),c.2.1.2.1,c.2.1.2.2),Res.own g12 52 Y52 c.2.2]) (λb0 h=>?_) λR h=>?_
   ·cases a4
    ·replace h:=ifF h
     refine p 3 [0,3,4,5,6,9,10,25,28] o<|ap (by rfl) o ?_
     refine yl 2 f0 gw o o o tr o<|ap (by rfl) o ?_
     exact cB h λd a5 h=>rc [1] (gn _ _ _ a5) (ca o) o o o λ_=>q 2 [(32,tb (d.1 !=0))] [0,3,4,5,6,9,10] o<|zn<|aa [0,3,4,5,6,9,10,32] o<|pk [1,0,0,0] o<|zt<|ah ((d.1 !=0),d.2) () h o o
    replace h:=ifT h
    exact p 7 [0,3,4,5,6,9,10,32] o<|zn<|aa [0,3,4,5,6,9,10,32] o<|zt<|ah (true,V.2) () h o o
   refine za<|rI h o (λhc h=>?_) λhc h=>?_
   ·refine zu<|q 3 [(35,ptr u 1)] [] o<|st 2 f1 ty4 o o o o tr<|zz<|q 1 [(2,.one W51 (.slice none 0 0))] [] o<|zf<|zT<|zB<|zT<|zT<|zB<|zT<|pk [1,0,0,0] o<|eT (x:=R.2) ?_
    refine az (R':=Res.clsif dz (.pointer (some ⟨J,0,none⟩)) R.2 c.2.1.1.1) 0 o (cY N)<|nL o<|pk [2,0,0,0] o<|fY (x:=((c.2.1.1.1,R.2),true,c.2.1.2.2)) ?_
    refine cj (.slice none 0 0) o 52 Y52 ?_
    cases h
    exact pk [0,0] o<|pk [1,0] o<|aU o (.tmp o) (λ_ _ g=>holds_raw.2 ⟨rfl,by rw[(holds_raw.1 g).1];exact(holds_raw.1 g).2⟩) (λ_ _ g=>by obtain⟨rfl,_⟩:=holds_raw.1 g;exact List.Sublist.refl _)
   refine zy<|q 1 [(0,ptr u 0),(4,ts V.1),(5,ptr C 0),(6,ti f.2.1),(9,ti M.1),(10,ti c.1),(36,.one W51 g12)] [] o<|yl 0 .here bI o o o tr o<|bE (B:=72) ai o jM o o o (.cons o .nil) o λb1=>?_
   refine iE h λhc h=>bq (B:=72) ai 4 o o (bZ 0 o o) o jM o o hc o λa6=>?_
   refine pk [1,1,1,1] o<|p 1 [0,3,4,6,9,10] o<|za<|zr<|q 3 [(40,ptr u 0),(41,ts V.1),(42,ti f.2.1)] [0,3,9,10] o<|iE h λhc h=>y (iR (i:=f.2.1) (j:=(List.length V.1:Int)) ai o o o hc.1 hc.2.1 hc.2.2 o) o ?_
   refine cB h λm a7 h=>rc [] (gL _ _ a7) (ca o) o o o λa8=>p 2 [0,3,9,10,44,46] o<|st 3 f0 gw o o o o tr<|nL o<|pk [0,0,1,1] o<|zn<|zi<|zt<|zr<|q 2 [(10,ti (wrap .i64 (c.1+1)))] [0,3,9] o<|za<|az (R':=Res.clsif dz a8 m c.2.1.1.1) 0 o (cY N)<|pk [2,0,0,0] o ?_
   refine fY (x:=((c.2.1.1.1,m),c.2.1.2.1,c.2.1.2.2)) ?_
   exact pk [0,1] o<|aa [0,3,9,10] o<|aR ((wrap .i64 (c.1+1)),((c.2.1.1.1,m),c.2.1.2.1,c.2.1.2.2),(c.2.2++[f.1])) a6 (Nat.lt_succ_self _) h o o
  exact zx<|ze<|ze<|zq<|zt<|aa [3] o<|ah (c.2.1,c.2.2) g12 h o o
 refine zu<|q 2 [(2,.one W51 g6)] [] o<|zf ?_
 cases h
 exact pk [0,0] o<|aU o (.tmp o) (λ_ _ g=>holds_raw.2 ⟨rfl,by rw[(holds_raw.1 g).1];exact(holds_raw.1 g).2⟩) (λ_ _ g=>by obtain⟨rfl,_⟩:=holds_raw.1 g;exact List.Sublist.refl _)
theorem mV(u:Value)(c r)(h:eP c=some r):Fn PP 49 [tp u] [Res.cls fI u c] (λ_=>tb r.1) (λ_=>[Res.cls fI u r.2]):=by
 unfold eP at h
 refine enter Tryz.func49 o 9 o o λF=>?_
 refine pV λM H hp=>?_
 subst hp
 refine fY (x:=c) ?_
 refine zu<|q 1 [(0,ptr M 0)] [] o<|za<|zs<|gV λR=>?_
 refine zr<|q 3 [(5,ptr M 0)] [] o<|yl 0 f0 gw o o o tr o ?_
 obtain⟨V,h⟩:=cr h
 refine az (R':=Res.cls dz R c.1.2) 1 o (dW V)<|pk [1,0] o<|eL λW hp=>?_
 rw[hp]
 clear hp
 refine cB h λf C h=>rc [0] (gA _ _ _ C) (ca o) o o o λ_=>q 2 [(2,tb (f.1 !=0))] [] o<|zf<|eT (x:=f.2) ?_
 refine az (R':=Res.clsif dz (.pointer (some ⟨W,0,none⟩)) f.2 c.1.1) 0 o (cY V)<|nL o<|pk [1,0] o<|fY (x:=((c.1.1,f.2),c.2.1,c.2.2)) ?_
 cases h
 exact bd o (.tmp o) (.cons_cons _ .slnil)
theorem pX(f r)(h:gz f=some r):bn PP 106 [ts f] (.one (.int .u32) r):=by
 unfold gz at h
 refine enter Tryz.func106 o 20 o o λF=>?_
 refine zu<|q 1 [(0,ts f)] [] o<|zz<|p 1 [0,3] o<|za<|bv h (λu=>[(3,.one (.int .u64) u)]) (λu=>[]) (λR h=>?_) λu h=>?_
 ·refine zu<|q 3 [(6,ti (List.length f:Int)),(7,ti 0)] [0,3] o<|za<|zb<|aa [0,3,6,7] o<|aY (γ:=Unit) (λ(c:Int×Int) _=>[(0,ts f),(3,.one (.int .u64) c.1),(6,ti (List.length f:Int)),(7,ti c.2)]) (λ(c:Int×Int) _=>[]) (dD f R) (0,0) () h o o ?_
  clear h
  intro M c gg h
  cases M with
  |zero=>cases h
  |succ M=>
  simp only[dD]at h
  refine zu<|q 1 [(3,.one (.int .u64) c.1),(7,ti c.2),(8,tb (decide (c.2<(List.length f:Int))))] [0,6] o<|za<|zs<|rI h o (λhc h=>?_) λhc h=>?_
  ·refine zk<|zt<|zs<|zb<|zu<|q 2 [(4,ti c.2)] [0,3,6,7] o<|za<|zr<|q 4 [(11,.one (.int .u64) (fC .u64 c.1 8)),(12,ts f),(13,ti c.2)] [0,6,7] o<|iE h λhc h=>y (ge ai o o hc.1 hc.2 o) o ?_
   refine q 3 [(3,.one (.int .u64) (ior .u64 (fC .u64 c.1 8) (wrap .u64 (List.getD f (Int.toNat c.2) 0))))] [0,6,7] o ?_
   obtain⟨V,e,h⟩:=ak h;rw[e]
   exact zn<|zi<|zt<|zr<|q 2 [(3,.one (.int .u64) V),(7,ti (wrap .i64 (c.2+1)))] [0,6] o<|za<|aa [0,3,6,7] o<|aR (V,(wrap .i64 (c.2+1))) () (Nat.lt_succ_self _) h o o
  exact zx<|ze<|ze<|zq<|zt<|aa [3] o<|ah c.1 () h o o
 refine zu<|q 3 [(2,.one (.int .u32) (wrap .u32 u))] [] o<|zf ?_
 cases h
 exact aB o (.tmp o)
theorem rA(c:Nat)(f r)(h:eQ f=some r):Fn PP 51 [ptr c 0] [Res.var c 171 W46 f] (λ_=> .one (.int .u32) r.1) (λ_=>[Res.var c 171 W46 r.2]):=by
 unfold eQ at h
 refine enter Tryz.func51 o 6 o o λF=>?_
 refine zu<|q 1 [(0,ptr c 0)] [] o<|zz<|q 1 [(3,ptr c 0)] [] o<|cB h λR u h=>rc [0] (dQ _ _ _ _ u) (ca o) o o o λ_=>cB h λM V h=>av (pX _ _ V) (ca o) o o<|q 1 [(2,.one (.int .u32) M)] [] o<|zf ?_
 cases h
 exact bd o (.tmp o) (.cons_cons _ .slnil)
theorem qB(c:Nat)(f r)(h:fh f=some r):Fn PP 52 [ptr c 0] [Res.var c 171 W46 f] (λ_=>ti r.1) (λ_=>[Res.var c 171 W46 r.2]):=by
 unfold fh at h
 refine enter Tryz.func52 o 19 o o λF=>?_
 refine zu<|q 1 [(0,ptr c 0)] [] o<|za<|zs<|zu<|p 3 [0,5] o<|yl 0 f1 fk o o o tr o<|q 2 [(8,tb (f.2.1==0))] [0] o ?_
 obtain⟨u,e,h⟩:=ak h;rw[e]
 refine aJ 6 [(0,ptr c 0),(14,tb (u&&(f.1 !=[])))] [Res.var c 171 W46 f] (?_) ?_
 ·clear h
  cases u
  ·exact p 6 [0,14] o<|za<|ao () o o
  refine p 3 [0,8,11] o<|ap (by rfl) o ?_
  exact yl 0 f0 ty9 o o o tr o<|q 2 [(14,tb (f.1 !=[]))] [0] o<|aa [0,14] o<|za<|ao () o o
 refine za<|rI h o (λhc h=>zu<|q 1 [(2,ti 4)] [] o<|zf<|zT<|by cases h;exact aU o (.tmp o) (λ_ _ g=>g) (λ_ _ _=>(.cons_cons _ .slnil))) λhc h=>zy<|q 3 [(17,ptr c 1)] [] o<|yl 0 f1 fk o o o tr o<|q 1 [(2,ti f.2.1)] [] o<|zf ?_
 cases h
 exact bd o (.tmp o) (.cons_cons _ .slnil)
theorem iW(W r)(h:eo W=some r):bn PP 9 [ts W] (.tup [⟨(.int .i64),r.1⟩,⟨Y30,r.2.1⟩,⟨(.int .i64),r.2.2⟩]):=by
 unfold eo at h
 refine enter Tryz.func9 o 192 o o λF=>?_
 refine zu<|q 1 [(0,ts W)] [] o<|aD (t:=Y30) o gk o λR=>p 1 [0,3] o<|zz<|p 1 [0,3,13] o<|cB h λr3 e0 h=>rc [] (gL _ _ e0) (ca o) o o o λv4=>y (bc o Ek o o (.cons f0 o o (ay ab) .nil)) o ?_
 refine bD o o λf=>p 1 [0,3,5] o<|zz<|aD (t:=W3) o gk o λu=>cj (.slice none 0 0) o 56 Y56 ?_
 refine zz<|p 3 [0,3,5,6,19] o<|yl 2 f0 gw o o o tr o<|pk [3,0,0,0,0] o<|eL λZ hp=>?_
 subst hp
 refine cB h λC e1 h=>rc [0] (bN _ _ _ e1) (ca o) o o o λ_=>q 1 [(7,ti C.1)] [0,3,5,6] o<|zz<|p 3 [0,3,5,6,7,24] o<|yl 3 f0 gw o o o tr o<|cB h λr9 e2 h=>rc [0] (gA _ _ _ e2) (ca o) o o o λ_=>q 2 [(27,ti (wrap .i64 r9.1)),(28,ptr u 0)] [0,3,5,6,7] o<|st 2 f0 ty3 o o o o tr<|za<|zs<|gF (S:=bJ [aX f 103 W41 ((.pointer (some ⟨Z,0,none⟩)),false,())]) (by kernel_rfl) ?_
 refine au 0 (ptr f 0) (aj (ar 3 o) al) o (by kernel_rfl) o λs=>au 1 (ptr f 0) s o (by kernel_rfl) o λs=>au 2 (ptr f 0) s o (by kernel_rfl) o λs=>bz 3 (ptr Z 0) s o (by kernel_rfl) (cD (S:=λw=>bJ [aX f 103 W41 ((.pointer (some ⟨Z,0,none⟩)),false,())] w) (bA 0 o) 3 f0 o o o o (ay ab) gw) λs=>au 5 (ptr f 0) s o (by kernel_rfl) o λs=>au 6 (ptr f 0) s o (by kernel_rfl) o λs=>au 7 (ptr f 0) s o (by kernel_rfl) o λs=>bz 8 (ptr Z 0) s o (by kernel_rfl) (cD (S:=λw=>bJ [aX f 103 W41 ((.pointer (some ⟨Z,0,none⟩)),false,())] w) (bA 0 o) 3 f0 o o o o (ay ab) gw) λs=>au 10 (ptr f 0) s o (by kernel_rfl) o λs=>au 11 (ptr f 0) s o (by kernel_rfl) o λs=>au 12 (ptr f 0) s o (by kernel_rfl) o λs=>bz 13 (ptr Z 0) s o (by kernel_rfl) (cD (S:=λw=>bJ [aX f 103 W41 ((.pointer (some ⟨Z,0,none⟩)),false,())] w) (bA 0 o) 3 f0 o o o o (ay ab) gw) λs=>aI 4 (by kernel_rfl) o<|cB h λb9 e3 h=>?_
 refine rc [0] (bN _ _ _ e3) (ca o) o o o λ_=>za<|bj (aj (ar 3 o) al) ?_
 refine aa [0,3,5,6,7,33,37,42] o<|aI 9 (by kernel_rfl) o<|cB h λc0 e4 h=>rc [0] (bN _ _ _ e4) (ca o) o o o λ_=>za<|bj (aj (ar 3 o) al) ?_
 refine aa [0,3,5,6,7,33,38,42] o<|aI 14 (by kernel_rfl) o<|cB h λa8 e5 h=>rc [0] (bN _ _ _ e5) (ca o) o o o λ_=>za<|bj (aj (ar 3 o) al) ?_
 refine aa [0,3,5,6,7,33,38,43] o<|au 15 (ptr u 1) (aj (ar 3 o) al) o (by kernel_rfl) o λs=>aI 16 (by kernel_rfl) o<|st 2 f1 ty2 o o o o tr<|nL o<|za<|bj (aj (ar 3 o) al) ?_
 refine aa [0,3,5,6,7,38,43] o<|au 17 (ptr u 2) (aj (ar 3 o) al) o (by kernel_rfl) o λs=>aI 18 (by kernel_rfl) o<|st 2 f2 ty2 o o o o tr<|za<|bj (aj (ar 3 o) al) ?_
 refine aa [0,3,5,6,7,43] o<|au 19 (ptr u 3) (aj (ar 3 o) al) o (by kernel_rfl) o λs=>aI 20 (by kernel_rfl) o<|st 2 f3 ty2 o o o o tr<|nL o<|za<|bj (aj (ar 3 o) al) ?_
 refine aa [0,3,5,6,7] o<|eY (by kernel_rfl)<|zt<|zu<|p 1 [0,3,5,6,7,47] o<|eT (x:=a8.2) ?_
 refine az (R':=Res.clsif dz (.pointer (some ⟨Z,0,none⟩)) a8.2 0) 0 o (cY o)<|pk [3,0,0,0,0] o<|fY (x:=((0,a8.2),false,())) ?_
 refine cB h λd e6 h=>rc [0] (mU _ _ _ e6) (ca o) o o o λN=>p 1 [0,3,5,6,7,48,49] o<|kU (t:=W3) (v:=W51) 3 f4 o o o o o o tx2 ?_
 refine nL o<|za<|bv h (λM=>[(0,ts W),(3,ptr R 0),(5,ptr f 0),(6,ptr u 0),(7,ti C.1)]) (λM=>[Res.var u 30 W1 (M.1.1,M.1.2.1,M.1.2.2.1,M.1.2.2.2.1,N,M.1.2.2.2.2.2.1,M.1.2.2.2.2.2.2.1,M.1.2.2.2.2.2.2.2.1,M.1.2.2.2.2.2.2.2.2.1,M.1.2.2.2.2.2.2.2.2.2.1,M.1.2.2.2.2.2.2.2.2.2.2.1,M.1.2.2.2.2.2.2.2.2.2.2.2.1,M.1.2.2.2.2.2.2.2.2.2.2.2.2.1,M.1.2.2.2.2.2.2.2.2.2.2.2.2.2.1,M.1.2.2.2.2.2.2.2.2.2.2.2.2.2.2.1,(.slice none 0 0),M.1.2.2.2.2.2.2.2.2.2.2.2.2.2.2.2.2.1,M.1.2.2.2.2.2.2.2.2.2.2.2.2.2.2.2.2.2.1,M.1.2.2.2.2.2.2.2.2.2.2.2.2.2.2.2.2.2.2),Res.cls fI (.pointer (some ⟨f,0,none⟩)) M.2,Res.own N 52 Y52 d.1,Res.own (.slice none 0 0) 56 Y56 [],Res.var R 30 Y30 (0,0,0,0,[],[],0,0,0,(0,0,()),(0,0,()),(0,0,()),false,(List.replicate 2 ((List.replicate 32 (0:Int)):List (Int))),(List.replicate 32 (0:Int)),[],0,0,())]) (λi9 h=>?_) λM h=>?_
 ·refine zs<|gV λj0=>?_
  refine zr<|p 3 [0,3,5,6,7,52] o<|yl 0 f1 ty4 o o o tr o<|q 1 [(54,tb (!d.2.2.1))] [0,3,5,6,7] o<|za<|rI h o (λhc h=>?_) λhc h=>?_
  ·refine zr<|p 1 [0,3,5,6,7,55] o<|fY (x:=d.2) ?_
   refine cB h λc5 e7 h=>rc [0] (mU _ _ _ e7) (ca o) o o o λc1=>q 1 [(0,ts W),(3,ptr R 0),(5,ptr f 0),(6,ptr u 0),(7,ti C.1),(56,.one W51 c1),(57,ptr u 5)] [] o<|kU (t:=W1) (v:=W51) 4 f5 o o o o o o tx2 ?_
   refine za<|pk [1,3,0,0,0,0] o<|fL (v:=c1) (T0:=W0) (x0:=((wrap .i64 r9.1),b9.1,c0.1,a8.1,N,c1,0,0,0,(0,0,()),(0,0,()),(0,0,()),false,(List.replicate 2 ((List.replicate 32 (0:Int)):List (Int))),(List.replicate 32 (0:Int)),(.slice none 0 0),0,0,())) (t:=Y52) f5 o o ?_
   exact aa [0,3,5,6,7] o<|ah (((wrap .i64 r9.1),b9.1,c0.1,a8.1,(),c5.1,0,0,0,(0,0,()),(0,0,()),(0,0,()),false,(List.replicate 2 ((List.replicate 32 (0:Int)):List (Int))),(List.replicate 32 (0:Int)),(),0,0,()),c5.2) () h o o
  refine zk<|zt<|fY (x:=d.2) ?_
  exact aa [0,3,5,6,7] o<|pk [3,0,0,0,0] o<|ah (((wrap .i64 r9.1),b9.1,c0.1,a8.1,(),[],0,0,0,(0,0,()),(0,0,()),(0,0,()),false,(List.replicate 2 ((List.replicate 32 (0:Int)):List (Int))),(List.replicate 32 (0:Int)),(),0,0,()),d.2) () h o o
 refine zs<|pk [1,0,0,0,0] o<|gV λa1=>?_
 refine gF (S:=bJ [aX f 103 W41 (a1,M.2.2.1,M.2.2.2)]) (by kernel_rfl) ?_
 refine au 0 (ptr f 0) (aj (ar 0 o) al) o (by kernel_rfl) o λs=>au 1 (ptr f 0) s o (by kernel_rfl) o λs=>au 2 (ptr f 0) s o (by kernel_rfl) o λs=>bz 3 (tp a1) s o (by kernel_rfl) (cD (S:=λw=>bJ [aX f 103 W41 (a1,M.2.2.1,M.2.2.2)] w) (bA 0 o) 0 f0 o o o o (ay ab) gw) λs=>au 5 (ptr f 0) s o (by kernel_rfl) o λs=>au 6 (ptr f 0) s o (by kernel_rfl) o λs=>au 7 (ptr f 0) s o (by kernel_rfl) o λs=>bz 8 (tp a1) s o (by kernel_rfl) (cD (S:=λw=>bJ [aX f 103 W41 (a1,M.2.2.1,M.2.2.2)] w) (bA 0 o) 0 f0 o o o o (ay ab) gw) λs=>au 10 (ptr f 0) s o (by kernel_rfl) o λs=>au 11 (ptr f 0) s o (by kernel_rfl) o λs=>au 12 (ptr f 0) s o (by kernel_rfl) o λs=>bz 13 (tp a1) s o (by kernel_rfl) (cD (S:=λw=>bJ [aX f 103 W41 (a1,M.2.2.1,M.2.2.2)] w) (bA 0 o) 0 f0 o o o o (ay ab) gw) λs=>aI 4 (by kernel_rfl) o ?_
 obtain⟨c6,h⟩:=cr h
 refine az (R':=Res.cls dz a1 M.2.1.2) 1 o (dW c6)<|pk [1,0,0,0,0,0] o<|eL λe8 hp=>?_
 rw[hp]
 clear hp
 refine cB h λe9 f9 h=>rc [0] (bN _ _ _ f9) (ca o) o o o λ_=>za<|bj (aj (ar 1 o) al) ?_
 refine aa [0,3,5,6,7,62,66,71] o<|aI 9 (by kernel_rfl) o<|cB h λg0 g1 h=>rc [0] (bN _ _ _ g1) (ca o) o o o λ_=>za<|bj (aj (ar 1 o) al) ?_
 refine aa [0,3,5,6,7,62,67,71] o<|aI 14 (by kernel_rfl) o<|cB h λb8 g2 h=>rc [0] (bN _ _ _ g2) (ca o) o o o λ_=>za<|bj (aj (ar 1 o) al) ?_
 refine aa [0,3,5,6,7,62,67,72] o<|au 15 (ptr u 6) (aj (ar 1 o) al) o (by kernel_rfl) o λs=>aI 16 (by kernel_rfl) o<|st 2 f6 ty2 o o o o tr<|nL o<|za<|bj (aj (ar 1 o) al) ?_
 refine aa [0,3,5,6,7,67,72] o<|au 17 (ptr u 7) (aj (ar 1 o) al) o (by kernel_rfl) o λs=>aI 18 (by kernel_rfl) o<|st 2 f7 ty2 o o o o tr<|za<|bj (aj (ar 1 o) al) ?_
 refine aa [0,3,5,6,7,72] o<|au 19 (ptr u 8) (aj (ar 1 o) al) o (by kernel_rfl) o λs=>aI 20 (by kernel_rfl) o<|st 2 f8 ty2 o o o o tr<|nL o<|za<|bj (aj (ar 1 o) al) ?_
 refine aa [0,3,5,6,7] o<|eY (by kernel_rfl)<|zt<|bv h (λc=>[(0,ts W),(3,ptr R 0),(5,ptr f 0),(6,ptr u 0),(7,ti C.1)]) (λc=>[Res.cls fI (.pointer (some ⟨f,0,none⟩)) c.1,Res.var u 30 W1 (c.2.1,c.2.2.1,c.2.2.2.1,c.2.2.2.2.1,N,c.2.2.2.2.2.2.1,c.2.2.2.2.2.2.2.1,c.2.2.2.2.2.2.2.2.1,c.2.2.2.2.2.2.2.2.2.1,c.2.2.2.2.2.2.2.2.2.2.1,c.2.2.2.2.2.2.2.2.2.2.2.1,c.2.2.2.2.2.2.2.2.2.2.2.2.1,c.2.2.2.2.2.2.2.2.2.2.2.2.2.1,c.2.2.2.2.2.2.2.2.2.2.2.2.2.2.1,c.2.2.2.2.2.2.2.2.2.2.2.2.2.2.2.1,(.slice none 0 0),c.2.2.2.2.2.2.2.2.2.2.2.2.2.2.2.2.2.1,c.2.2.2.2.2.2.2.2.2.2.2.2.2.2.2.2.2.2.1,c.2.2.2.2.2.2.2.2.2.2.2.2.2.2.2.2.2.2.2),Res.own N 52 Y52 d.1,Res.own (.slice none 0 0) 56 Y56 [],Res.var R 30 Y30 (0,0,0,0,[],[],0,0,0,(0,0,()),(0,0,()),(0,0,()),false,(List.replicate 2 ((List.replicate 32 (0:Int)):List (Int))),(List.replicate 32 (0:Int)),[],0,0,())]) (λj1 h=>?_) λc h=>?_
 ·refine zu<|q 3 [(0,ts W),(3,ptr R 0),(5,ptr f 0),(6,ptr u 0),(7,ti C.1),(76,ptr u 9),(77,ptr u 11),(78,ptr u 13)] [] o<|bE (B:=8) ai o EA o o o (.cons o (.cons o (.cons o .nil))) o λj2=>?_
  refine y (cn ai 0 o o o) o ?_
  refine p 1 [0,3,5,6,7,79,80,81] o<|za<|zb<|aa [0,3,5,6,7,79,80,81] o<|BB 4 ?_
  refine tc ?_
  refine zu<|p 1 [0,3,5,6,7,79,80,81,82] o<|za<|zs ?_
  refine gO (b:=true) o (λhc=>?_) (λhc=>?_)
  ·refine zk<|zt<|zs<|zb<|zu<|cJ 0 o (of_decide_eq_true o) λc7 c8 c9 hv=>?_
   rw[hv]
   try clear hv
   refine y (cU ai o o (of_decide_eq_true o) (of_decide_eq_true o) o tu) o ?_
   refine y (dN 0 0 .here o o (of_decide_eq_true o) o ab tu) o ?_
   refine q 1 [(9,ptr u 9),(79,.one W51 (.slice (some ⟨c7,c8,none⟩) (List.length [.pointer (some ⟨u,9,none⟩),.pointer (some ⟨u,11,none⟩),.pointer (some ⟨u,13,none⟩)]) c9))] [0,3,5,6,7,80,81] o<|za<|zr<|p 3 [0,3,5,6,7,79,80,81,85,86,87] o<|pk [1,0,0,0,0,0,0] o<|eT (x:=b8.2) ?_
   refine az (R':=Res.clsif dz (.pointer (some ⟨e8,0,none⟩)) b8.2 M.2.1.1) 0 o (cY c6)<|pk [2,0,0,0,0,0,0] o<|fY (x:=((M.2.1.1,b8.2),M.2.2.1,M.2.2.2)) ?_
   refine cB h λd0 g3 h=>rc [0] (dR _ _ _ g3) (ca o) o o o λ_=>q 1 [(88,ti d0.1),(89,ptr f 0)] [0,3,5,6,7,79,80,81,85,86] o<|cB h λd1 g4 h=>rc [0] (dR _ _ _ g4) (ca o) o o o λ_=>q 2 [(90,ti d1.1),(92,ptr u 9)] [0,3,5,6,7,79,80,81,86,88] o<|st 2 ((g9 (.fst f0))) ty3 o o o o tr<|nL o<|p 2 [0,3,5,6,7,79,80,81,90,94] o<|st 2 ((g9 (.fst f1))) ty3 o o o o tr<|zn<|zi<|zt<|zr ?_
   refine p 2 [0,3,5,6,7,79,80,81] o<|za<|tc ?_
   refine zu<|p 1 [0,3,5,6,7,79,80,81,82] o<|za<|zs ?_
   refine gO (b:=true) o (λhc=>?_) (λhc=>?_)
   ·refine zk<|zt<|zs<|zb<|zu<|y (cU ai o o (of_decide_eq_true o) (of_decide_eq_true o) o tu) o ?_
    refine y (dN 1 1 .here o o (of_decide_eq_true o) o ab tu) o ?_
    refine p 1 [0,3,5,6,7,9,79,80,81] o<|za<|zr<|p 3 [0,3,5,6,7,79,80,81,85,86,87] o<|cB h λc2 g5 h=>rc [0] (dR _ _ _ g5) (ca o) o o o λ_=>q 1 [(88,ti c2.1),(89,ptr f 0)] [0,3,5,6,7,79,80,81,85,86] o<|cB h λd2 g6 h=>rc [0] (dR _ _ _ g6) (ca o) o o o λ_=>q 2 [(0,ts W),(3,ptr R 0),(5,ptr f 0),(6,ptr u 0),(7,ti C.1),(79,.one W51 (.slice (some ⟨c7,c8,none⟩) (List.length [.pointer (some ⟨u,9,none⟩),.pointer (some ⟨u,11,none⟩),.pointer (some ⟨u,13,none⟩)]) c9)),(80,ti 3),(81,ti 1),(86,ptr u 11),(88,ti c2.1),(90,ti d2.1),(92,ptr u 11)] [] o<|st 2 ((g10 (.fst f0))) ty3 o o o o tr<|p 2 [0,3,5,6,7,79,80,81,90,94] o<|st 2 ((g10 (.fst f1))) ty3 o o o o tr<|nL o ?_
    refine zn<|zi<|zt<|zr<|p 2 [0,3,5,6,7,79,80,81] o<|za<|tc ?_
    refine zu<|p 1 [0,3,5,6,7,79,80,81,82] o<|za<|zs ?_
    refine gO (b:=true) o (λhc=>?_) (λhc=>?_)
    ·refine zk<|zt<|zs<|zb<|zu<|y (cU ai o o (of_decide_eq_true o) (of_decide_eq_true o) o tu) o ?_
     refine y (dN 1 2 .here o o (of_decide_eq_true o) o ab tu) o ?_
     refine p 1 [0,3,5,6,7,9,79,80,81] o<|za<|zr<|p 3 [0,3,5,6,7,79,80,81,85,86,87] o<|cB h λd3 g7 h=>rc [0] (dR _ _ _ g7) (ca o) o o o λ_=>q 1 [(88,ti d3.1),(89,ptr f 0)] [0,3,5,6,7,79,80,81,85,86] o<|cB h λc3 g8 h=>rc [0] (dR _ _ _ g8) (ca o) o o o λ_=>q 2 [(90,ti c3.1),(92,ptr u 13)] [0,3,5,6,7,79,80,81,86,88] o<|st 2 ((g11 (.fst f0))) ty3 o o o o tr<|p 2 [0,3,5,6,7,79,80,81,90,94] o<|st 2 ((g11 (.fst f1))) ty3 o o o o tr<|nL o ?_
     refine zn<|zi<|zt<|zr<|p 2 [0,3,5,6,7,79,80,81] o<|za<|tc ?_
     refine zu<|p 1 [0,3,5,6,7,79,80,81,82] o<|za<|zs ?_
     refine gO (b:=false) o (λhc=>?_) (λhc=>?_)
     ·cases hc
     exact zx<|ze<|ze<|zq<|zt<|pk [0,1,1,1,1] o<|aa [0,3,5,6,7] o<|ah (c3.2,(M.1.1,M.1.2.1,M.1.2.2.1,M.1.2.2.2.1,(),M.1.2.2.2.2.2.1,e9.1,g0.1,b8.1,(d0.1,d1.1,M.1.2.2.2.2.2.2.2.2.2.1.2.2),(c2.1,d2.1,M.1.2.2.2.2.2.2.2.2.2.2.1.2.2),(d3.1,c3.1,M.1.2.2.2.2.2.2.2.2.2.2.2.1.2.2),M.1.2.2.2.2.2.2.2.2.2.2.2.2.1,M.1.2.2.2.2.2.2.2.2.2.2.2.2.2.1,M.1.2.2.2.2.2.2.2.2.2.2.2.2.2.2.1,(),M.1.2.2.2.2.2.2.2.2.2.2.2.2.2.2.2.2.1,M.1.2.2.2.2.2.2.2.2.2.2.2.2.2.2.2.2.2.1,M.1.2.2.2.2.2.2.2.2.2.2.2.2.2.2.2.2.2.2)) () h o o
    cases hc
   cases hc
  cases hc
 refine zu<|q 1 [(0,ts W),(3,ptr R 0),(5,ptr f 0),(6,ptr u 0),(7,ti C.1),(96,ptr f 0)] [] o<|cB h λV h0 h=>rc [0] (mV _ _ _ h0) (ca o) o o o λ_=>q 1 [(97,tb V.1),(98,ptr u 15)] [0,3,5,6,7] o<|st 1 f12 ty4 o o o o tr<|za<|zs<|gV λa2=>?_
 refine gF (S:=bJ [aX f 103 W41 (a2,V.2.2.1,V.2.2.2)]) (by kernel_rfl) ?_
 refine au 0 (ptr f 0) (aj (ar 0 o) al) o (by kernel_rfl) o λs=>au 1 (ptr f 0) s o (by kernel_rfl) o λs=>au 2 (ptr f 0) s o (by kernel_rfl) o λs=>bz 3 (tp a2) s o (by kernel_rfl) (cD (S:=λw=>bJ [aX f 103 W41 (a2,V.2.2.1,V.2.2.2)] w) (bA 0 o) 0 f0 o o o o (ay ab) gw) λs=>au 5 (ptr f 0) s o (by kernel_rfl) o λs=>au 6 (ptr f 0) s o (by kernel_rfl) o λs=>au 7 (ptr f 0) s o (by kernel_rfl) o λs=>bz 8 (tp a2) s o (by kernel_rfl) (cD (S:=λw=>bJ [aX f 103 W41 (a2,V.2.2.1,V.2.2.2)] w) (bA 0 o) 0 f0 o o o o (ay ab) gw) λs=>au 10 (ptr f 0) s o (by kernel_rfl) o λs=>au 11 (ptr f 0) s o (by kernel_rfl) o λs=>au 12 (ptr f 0) s o (by kernel_rfl) o λs=>bz 13 (tp a2) s o (by kernel_rfl) (cD (S:=λw=>bJ [aX f 103 W41 (a2,V.2.2.1,V.2.2.2)] w) (bA 0 o) 0 f0 o o o o (ay ab) gw) λs=>au 15 (ptr u 16) s o (by kernel_rfl) o λs=>au 18 (ptr u 16) s o (by kernel_rfl) o λs=>?_
 refine aI 4 (by kernel_rfl) o ?_
 obtain⟨d4,h⟩:=cr h
 refine az (R':=Res.cls dz a2 V.2.1.2) 1 o (dW d4)<|nL o<|pk [1,0,0,0,0,0] o<|eL λh1 hp=>?_
 rw[hp]
 clear hp
 refine cB h λa4 h2 h=>rc [0] (cR _ _ _ h2) (ca o) o o o λ_=>za<|bj (aj (ar 1 o) al) ?_
 refine aa [0,3,5,6,7,103,107,112,114,116] o<|aI 9 (by kernel_rfl) o<|cB h λa5 h3 h=>rc [0] (cR _ _ _ h3) (ca o) o o o λ_=>za<|bj (aj (ar 1 o) al) ?_
 refine aa [0,3,5,6,7,103,108,112,114,116] o<|aI 14 (by kernel_rfl) o<|cB h λa6 h4 h=>rc [0] (cR _ _ _ h4) (ca o) o o o λ_=>za<|bj (aj (ar 1 o) al) ?_
 refine aa [0,3,5,6,7,103,108,113,114,116] o<|iE h λhc h=>bz 16 (ptr u (16+0*32)) (aj (ar 1 o) al) o (by kernel_rfl) (bY o o hc.1 hc.2 xq bK) λs=>aI 17 (by kernel_rfl) o<|kd 2 ((g13 (.fst (.elem 0 .here)))) o o o (by first|rfl|(simp only[Pth.off,T.size];omega)) (ag (ag (ag (ag (ag (ag (ag (ag (ag (ag (ag (ag (ag (ay (ax (by first|omega|(simp only[List.length_set]at hc⊢;omega)) ab))))))))))))))) bK<|za<|bj (aj (ar 1 o) al) ?_
 refine aa [0,3,5,6,7,108,113,116] o<|iE h λhc h=>bz 19 (ptr u (16+1*32)) (aj (ar 1 o) al) o (by kernel_rfl) (bY o o hc.1 hc.2 xq bK) λs=>aI 20 (by kernel_rfl) o<|kd 2 ((g13 (.fst (.elem 1 .here)))) o o o (by first|rfl|(simp only[Pth.off,T.size];omega)) (ag (ag (ag (ag (ag (ag (ag (ag (ag (ag (ag (ag (ag (ay (ax (by first|omega|(simp only[List.length_set]at hc⊢;omega)) ab))))))))))))))) bK<|nL o<|za<|bj (aj (ar 1 o) al) ?_
 refine aa [0,3,5,6,7,113] o<|au 21 (ptr u 80) (aj (ar 1 o) al) o (by kernel_rfl) o λs=>aI 22 (by kernel_rfl) o<|st 2 f14 bK o o o o tr<|za<|bj (aj (ar 1 o) al) ?_
 refine aa [0,3,5,6,7] o<|eY (by kernel_rfl)<|zt<|jK h (γ:=Value) (λH a9=>[(0,ts W),(3,ptr R 0),(5,ptr f 0),(6,ptr u 0),(7,ti C.1)]) (λH a9=>[Res.cls fI (.pointer (some ⟨f,0,none⟩)) H.1,Res.var u 30 W1 (c.2.1,c.2.2.1,c.2.2.2.1,c.2.2.2.2.1,N,c.2.2.2.2.2.2.1,c.2.2.2.2.2.2.2.1,c.2.2.2.2.2.2.2.2.1,c.2.2.2.2.2.2.2.2.2.1,c.2.2.2.2.2.2.2.2.2.2.1,c.2.2.2.2.2.2.2.2.2.2.2.1,c.2.2.2.2.2.2.2.2.2.2.2.2.1,V.1,(List.set (List.set c.2.2.2.2.2.2.2.2.2.2.2.2.2.2.1 0 a4.1) 1 a5.1),a6.1,a9,c.2.2.2.2.2.2.2.2.2.2.2.2.2.2.2.2.2.1,c.2.2.2.2.2.2.2.2.2.2.2.2.2.2.2.2.2.2.1,c.2.2.2.2.2.2.2.2.2.2.2.2.2.2.2.2.2.2.2),Res.own N 52 Y52 d.1,Res.own a9 56 Y56 H.2,Res.var R 30 Y30 (0,0,0,0,[],[],0,0,0,(0,0,()),(0,0,()),(0,0,()),false,(List.replicate 2 ((List.replicate 32 (0:Int)):List (Int))),(List.replicate 32 (0:Int)),[],0,0,())]) (λh5 h=>?_) λH a9 h=>?_
 ·refine zu<|p 3 [0,3,5,6,7,121] o<|yl 1 f0 gw o o o tr o<|cB h λa3 h6 h=>rc [0] (gA _ _ _ h6) (ca o) o o o λ_=>q 2 [(124,ti (wrap .i64 a3.1)),(125,ti 0)] [0,3,5,6,7] o<|za<|zb<|eT (x:=a3.2) ?_
  refine az (R':=Res.clsif dz (.pointer (some ⟨h1,0,none⟩)) a3.2 V.2.1.1) 0 o (cY d4)<|pk [1,0,0,0,0,0] o<|fY (x:=((V.2.1.1,a3.2),V.2.2.1,V.2.2.2)) ?_
  refine aa [0,3,5,6,7,124,125] o<|aY (γ:=Value) (λ(J:Int×((Int×Z13)×Bool×Unit)×(List Z55)) b4=>[(0,ts W),(3,ptr R 0),(5,ptr f 0),(6,ptr u 0),(7,ti C.1),(124,ti (wrap .i64 a3.1)),(125,ti J.1)]) (λ(J:Int×((Int×Z13)×Bool×Unit)×(List Z55)) b4=>[Res.cls fI (.pointer (some ⟨f,0,none⟩)) J.2.1,Res.var u 30 W1 (c.2.1,c.2.2.1,c.2.2.2.1,c.2.2.2.2.1,N,c.2.2.2.2.2.2.1,c.2.2.2.2.2.2.2.1,c.2.2.2.2.2.2.2.2.1,c.2.2.2.2.2.2.2.2.2.1,c.2.2.2.2.2.2.2.2.2.2.1,c.2.2.2.2.2.2.2.2.2.2.2.1,c.2.2.2.2.2.2.2.2.2.2.2.2.1,V.1,(List.set (List.set c.2.2.2.2.2.2.2.2.2.2.2.2.2.2.1 0 a4.1) 1 a5.1),a6.1,b4,c.2.2.2.2.2.2.2.2.2.2.2.2.2.2.2.2.2.1,c.2.2.2.2.2.2.2.2.2.2.2.2.2.2.2.2.2.2.1,c.2.2.2.2.2.2.2.2.2.2.2.2.2.2.2.2.2.2.2),Res.own N 52 Y52 d.1,Res.own b4 56 Y56 J.2.2,Res.var R 30 Y30 (0,0,0,0,[],[],0,0,0,(0,0,()),(0,0,()),(0,0,()),false,(List.replicate 2 ((List.replicate 32 (0:Int)):List (Int))),(List.replicate 32 (0:Int)),[],0,0,())]) (eA h5 a3) (0,((V.2.1.1,a3.2),V.2.2.1,V.2.2.2),[]) (.slice none 0 0) h o o ?_
  clear h
  intro d5 J b4 h
  cases d5 with
  |zero=>cases h
  |succ d5=>
  simp only[eA]at h
  refine zu<|q 1 [(125,ti J.1),(126,tb (decide (J.1<(wrap .i64 a3.1))))] [0,3,5,6,7,124] o<|za<|zs<|rI h o (λhc h=>?_) λhc h=>?_
  ·refine zk<|zt<|zs<|zb<|zu<|p 1 [0,3,5,6,7,124,125,127] o<|cB h λO h7 h=>rc [0] (mV _ _ _ h7) (ca o) o o o λ_=>y (bc o xo o o (.cons f2 o o ab .nil)) o ?_
   refine aD (t:=Y56) o xo o λd6=>st 0 .here ji o o o o tr<|za<|zs<|pk [1,0,0,0,0,0] o<|gV λh8=>?_
   refine zr<|p 3 [0,3,5,6,7,10,124,125,132] o<|yl 0 f0 gw o o o tr o ?_
   obtain⟨d7,h⟩:=cr h
   refine az (R':=Res.cls dz h8 O.2.1.2) 1 o (dW d7)<|nL o<|pk [1,0,0,0,0,0,0] o<|eL λh9 hp=>?_
   rw[hp]
   clear hp
   refine cB h λd8 i0 h=>rc [0] (bN _ _ _ i0) (ca o) o o o λ_=>q 1 [(134,ti d8.1),(135,ptr d6 0)] [0,3,5,6,7,10,124,125] o<|st 2 f0 ty2 o o o o tr<|zz<|p 3 [0,3,5,6,7,10,124,125,138] o<|yl 1 f0 gw o o o tr o<|cB h λb0 i1 h=>rc [0] (cR _ _ _ i1) (ca o) o o o λ_=>q 1 [(140,.one W55 b0.1),(141,ptr d6 1)] [0,3,5,6,7,10,124,125] o<|st 2 f1 bK o o o o tr<|nL o<|za<|zr ?_
   refine p 1 [0,3,5,6,7,10,124,125,142] o<|yl 3 f15 tx3 o o o tr o<|yl 2 .here ji o o o tr o<|bE (B:=48) ai o xp o o o (.cons o .nil) o λj3=>?_
   refine iE h λhc h=>bq (B:=48) ai 6 o o (bZ 0 o o) o xp o o hc o λi2=>?_
   refine pk [1,1,1,1,1,1,1] o<|p 1 [0,3,5,6,7,124,125,146,147] o<|st 3 f15 tx3 o o o o tr<|nL o<|zn<|zi<|zt<|zr<|q 2 [(125,ti (wrap .i64 (J.1+1)))] [0,3,5,6,7,124] o<|za<|eT (x:=b0.2) ?_
   refine az (R':=Res.clsif dz (.pointer (some ⟨h9,0,none⟩)) b0.2 O.2.1.1) 0 o (cY d7)<|pk [1,0,0,0,0,0,0] o<|fY (x:=((O.2.1.1,b0.2),O.2.2.1,O.2.2.2)) ?_
   exact pk [0,1,1,1,1] o<|aa [0,3,5,6,7,124,125] o<|aR ((wrap .i64 (J.1+1)),((O.2.1.1,b0.2),O.2.2.1,O.2.2.2),(J.2.2++[(d8.1,b0.1,O.1,())])) i2 (Nat.lt_succ_self _) h o o
  exact zx<|ze<|ze<|zq<|zt<|aa [0,3,5,6,7] o<|ah (J.2.1,J.2.2) b4 h o o
 refine zs<|gV λi3=>?_
 refine zr<|q 3 [(0,ts W),(3,ptr R 0),(5,ptr f 0),(6,ptr u 0),(7,ti C.1),(151,ptr f 0)] [] o<|yl 0 f0 gw o o o tr o ?_
 obtain⟨i4,h⟩:=cr h
 refine az (R':=Res.cls dz i3 H.1.1.2) 1 o (dW i4)<|pk [1,0,0,0,0,0] o<|eL λb1 hp=>?_
 rw[hp]
 clear hp
 refine cB h λb3 i5 h=>rc [0] (rA _ _ _ i5) (ca o) o o o λ_=>q 2 [(154,ti (wrap .i64 b3.1)),(155,ptr u 113)] [0,3,5,6,7] o<|st 2 f16 ty3 o o o o tr<|nL o<|zz<|p 3 [0,3,5,6,7,158] o<|yl 1 f0 gw o o o tr o<|cB h λa7 i6 h=>rc [0] (bN _ _ _ i6) (ca o) o o o λ_=>q 1 [(160,ti a7.1),(161,ptr u 114)] [0,3,5,6,7] o<|st 2 f17 ty2 o o o o tr<|za<|zs ?_
 refine zs<|pk [4,2,0,0,0,0] o<|fL (v:=a9) (T0:=W1) (x0:=(c.2.1,c.2.2.1,c.2.2.2.1,c.2.2.2.2.1,N,c.2.2.2.2.2.2.1,c.2.2.2.2.2.2.2.1,c.2.2.2.2.2.2.2.2.1,c.2.2.2.2.2.2.2.2.2.1,c.2.2.2.2.2.2.2.2.2.2.1,c.2.2.2.2.2.2.2.2.2.2.2.1,c.2.2.2.2.2.2.2.2.2.2.2.2.1,V.1,(List.set (List.set c.2.2.2.2.2.2.2.2.2.2.2.2.2.2.1 0 a4.1) 1 a5.1),a6.1,a9,(wrap .i64 b3.1),a7.1,c.2.2.2.2.2.2.2.2.2.2.2.2.2.2.2.2.2.2.2)) (t:=Y56) f15 o o ?_
 refine pk [3,0,0,0,0] o<|fL (v:=N) (T0:=(.pair (.int .i64) (.pair (.int .i64) (.pair (.int .i64) (.pair (.int .i64) (.pair W51 (.pair W65 (.pair (.int .i64) (.pair (.int .i64) (.pair (.int .i64) (.pair Y24 (.pair Y24 (.pair Y24 (.pair .bool (.pair W49 (.pair W55 (.pair W66 W44))))))))))))))))) (x0:=(c.2.1,c.2.2.1,c.2.2.2.1,c.2.2.2.2.1,N,c.2.2.2.2.2.2.1,c.2.2.2.2.2.2.2.1,c.2.2.2.2.2.2.2.2.1,c.2.2.2.2.2.2.2.2.2.1,c.2.2.2.2.2.2.2.2.2.2.1,c.2.2.2.2.2.2.2.2.2.2.2.1,c.2.2.2.2.2.2.2.2.2.2.2.2.1,V.1,(List.set (List.set c.2.2.2.2.2.2.2.2.2.2.2.2.2.2.1 0 a4.1) 1 a5.1),a6.1,H.2,(wrap .i64 b3.1),a7.1,c.2.2.2.2.2.2.2.2.2.2.2.2.2.2.2.2.2.2.2)) (t:=Y52) f4 o o ?_
 refine zr<|q 1 [(163,ti C.1)] [0,3,5,6,7] o<|yl 0 .here bW o o o tr o<|cB h λG i7 h=>av (lm _ _ _ i7) (ca o) o o<|q 5 [(11,ts G.1),(12,ti G.2)] [0,3,5,6,7] o<|zz<|p 3 [0,3,5,6,7,11,12,170] o<|yl 2 f1 ty4 o o o tr o<|q 1 [(172,tb H.1.2.1)] [0,3,5,6,7,11,12] o<|bL h 7 (λm=>[(0,ts W),(3,ptr R 0),(6,ptr u 0),(7,ti C.1),(11,ts G.1),(12,ti G.2),(179,tb m.1)]) (λm=>[Res.var u 30 Y30 (c.2.1,c.2.2.1,c.2.2.2.1,c.2.2.2.2.1,d.1,c.2.2.2.2.2.2.1,c.2.2.2.2.2.2.2.1,c.2.2.2.2.2.2.2.2.1,c.2.2.2.2.2.2.2.2.2.1,c.2.2.2.2.2.2.2.2.2.2.1,c.2.2.2.2.2.2.2.2.2.2.2.1,c.2.2.2.2.2.2.2.2.2.2.2.2.1,V.1,(List.set (List.set c.2.2.2.2.2.2.2.2.2.2.2.2.2.2.1 0 a4.1) 1 a5.1),a6.1,H.2,(wrap .i64 b3.1),a7.1,c.2.2.2.2.2.2.2.2.2.2.2.2.2.2.2.2.2.2.2),Res.var b1 171 W46 m.2,Res.var f 103 W41 ((.pointer (some ⟨b1,0,none⟩)),H.1.2.1,H.1.2.2),Res.var R 30 Y30 (0,0,0,0,[],[],0,0,0,(0,0,()),(0,0,()),(0,0,()),false,(List.replicate 2 ((List.replicate 32 (0:Int)):List (Int))),(List.replicate 32 (0:Int)),[],0,0,())]) (λj4 h=>?_) λm h=>?_
 ·rcases Bool.eq_false_or_eq_true H.1.2.1 with hh|hh
  ·rw[if_pos hh]at h
   refine nZ 172 hh o ?_
   exact p 7 [0,3,6,7,11,12,179] o<|zn<|aa [0,3,6,7,11,12,179] o<|zt<|ah (true,a7.2) () h o o
  rw[if_neg (ne_true_of_eq_false hh)]at h
  refine nZ 172 hh o ?_
  refine p 3 [0,3,6,7,11,12,172,175] o<|ap (by rfl) o ?_
  refine yl 2 f0 gw o o o tr o<|ap (by rfl) o ?_
  exact cB h λc4 i8 h=>rc [1] (qB _ _ _ i8) (ca o) o o o λ_=>q 2 [(179,tb (c4.1 !=0))] [0,3,6,7,11,12] o<|zn<|aa [0,3,6,7,11,12,179] o<|pk [1,0,0,0] o<|zt<|ah ((c4.1 !=0),c4.2) () h o o
 refine q 1 [(0,ts W),(3,ptr R 0),(6,ptr u 0),(7,ti C.1),(11,ts G.1),(12,ti G.2),(180,tb m.1)] [] o<|aJ 3 [(0,ts W),(3,ptr R 0),(6,ptr u 0),(7,ti C.1),(11,ts G.1),(183,tb (m.1||(G.2 !=0)))] [Res.var u 30 Y30 (c.2.1,c.2.2.1,c.2.2.2.1,c.2.2.2.2.1,d.1,c.2.2.2.2.2.2.1,c.2.2.2.2.2.2.2.1,c.2.2.2.2.2.2.2.2.1,c.2.2.2.2.2.2.2.2.2.1,c.2.2.2.2.2.2.2.2.2.2.1,c.2.2.2.2.2.2.2.2.2.2.2.1,c.2.2.2.2.2.2.2.2.2.2.2.2.1,V.1,(List.set (List.set c.2.2.2.2.2.2.2.2.2.2.2.2.2.2.1 0 a4.1) 1 a5.1),a6.1,H.2,(wrap .i64 b3.1),a7.1,c.2.2.2.2.2.2.2.2.2.2.2.2.2.2.2.2.2.2.2),Res.var b1 171 W46 m.2,Res.var f 103 W41 ((.pointer (some ⟨b1,0,none⟩)),H.1.2.1,H.1.2.2),Res.var R 30 Y30 (0,0,0,0,[],[],0,0,0,(0,0,()),(0,0,()),(0,0,()),false,(List.replicate 2 ((List.replicate 32 (0:Int)):List (Int))),(List.replicate 32 (0:Int)),[],0,0,())] (?_) ?_
 ·clear h
  rcases Bool.eq_false_or_eq_true m.1 with hh|hh
  ·rw[hh]
   exact p 3 [0,3,6,7,11,183] o<|za<|ao () o o
  rw[hh]
  exact q 3 [(183,tb (G.2 !=0))] [0,3,6,7,11] o<|aa [0,3,6,7,11,183] o<|za<|ao () o o
 refine q 1 [(0,ts W),(3,ptr R 0),(6,ptr u 0),(7,ti C.1),(11,ts G.1),(184,tb (m.1||(G.2 !=0)))] [] o ?_
 obtain⟨d9,e,h⟩:=ak h;rw[e]
 refine aJ 4 [(3,ptr R 0),(6,ptr u 0),(7,ti C.1),(188,tb (d9||(G.1 !=W)))] [Res.var u 30 Y30 (c.2.1,c.2.2.1,c.2.2.2.1,c.2.2.2.2.1,d.1,c.2.2.2.2.2.2.1,c.2.2.2.2.2.2.2.1,c.2.2.2.2.2.2.2.2.1,c.2.2.2.2.2.2.2.2.2.1,c.2.2.2.2.2.2.2.2.2.2.1,c.2.2.2.2.2.2.2.2.2.2.2.1,c.2.2.2.2.2.2.2.2.2.2.2.2.1,V.1,(List.set (List.set c.2.2.2.2.2.2.2.2.2.2.2.2.2.2.1 0 a4.1) 1 a5.1),a6.1,H.2,(wrap .i64 b3.1),a7.1,c.2.2.2.2.2.2.2.2.2.2.2.2.2.2.2.2.2.2.2),Res.var b1 171 W46 m.2,Res.var f 103 W41 ((.pointer (some ⟨b1,0,none⟩)),H.1.2.1,H.1.2.2),Res.var R 30 Y30 (0,0,0,0,[],[],0,0,0,(0,0,()),(0,0,()),(0,0,()),false,(List.replicate 2 ((List.replicate 32 (0:Int)):List (Int))),(List.replicate 32 (0:Int)),[],0,0,())] (?_) ?_
 ·clear h
  cases d9
  ·exact q 4 [(188,tb (G.1 !=W))] [3,6,7] o<|aa [3,6,7,188] o<|za<|ao () o o
  exact p 4 [3,6,7,188] o<|za<|ao () o o
 refine za<|rI h o (λhc h=>?_) λhc h=>?_
 ·refine zu<|y (bc o gk o o .nil) o ?_
  refine q 1 [(2,ti 0),(3,ptr R 0),(189,.one Y30 (0,0,0,0,[],[],0,0,0,(0,0,()),(0,0,()),(0,0,()),false,(List.replicate 2 ((List.replicate 32 (0:Int)):List (Int))),(List.replicate 32 (0:Int)),[],0,0,()))] [] o<|st 3 .here bW o o o o tr<|p 1 [2,3,4] o<|zf<|zT ?_
  cases h
  exact aF (rs:=[.tmp 2,.cell 3 30,.tmp 4]) o (.cons (.tmp o) (.cons (.cell 3 .here o o o ab bW) (.cons (.tmp o) (.nil)))) o (λ_ vs g=>aH vs g) (λ_ _ _=>List.nil_sublist _)
 refine zk<|zt<|zs<|dF (by kernel_rfl)<|ae 0 (ti C.1) o (by kernel_rfl) o<|ae 2 (ti C.1) o (by kernel_rfl) o<|af 1 (by kernel_rfl) o<|yl 0 .here bW o o o tr o<|za<|aa [2,3,191] o<|af 3 (by kernel_rfl) o<|st 3 .here bW o o o o tr<|za<|aa [2,3] o ?_
 refine ae 4 (ti 0) o (by kernel_rfl) o<|aN (by kernel_rfl)<|zt<|zR ?_
 cases h
 exact aF (rs:=[.tmp 2,.cell 3 30,.tmp 4]) o (.cons (.tmp o) (.cons (.cell 3 .here o o o ab bW) (.cons (.tmp o) (.nil)))) o (λ_ vs g=>aH vs g) (λ_ _ _=>List.nil_sublist _)
theorem vu(R:Value)(C f r)(h:pN C f=some r):Fn PP 64 [tp R,.one Y30 f] [Res.disk PP dI R C] (λ_=> .tup [⟨(.int .i64),r.1⟩,⟨Y30,r.2.1⟩,⟨(.int .i64),r.2.2⟩]) (λ_=>[Res.disk PP dI R C]):=by
 unfold pN at h
 refine enter Tryz.func64 o 62 o o λF=>?_
 refine zu<|bD o o λu=>q 1 [(0,tp R),(3,ptr u 0)] [] o<|aD (t:=Y30) o gk o λM=>p 1 [0,3,5] o<|zz<|p 1 [3,5,12] o<|cB h λW J h=>rc [2] (wh _ _ _ _ J) (ca o) o o o λ_=>q 5 [(7,ts W.1),(8,ti W.2)] [3,5] o<|za<|zs<|zu<|q 2 [(17,tb (W.2==5))] [3,5,7,8] o ?_
 refine za<|rI h o (λhc h=>?_) λhc h=>?_
 ·refine zs<|dF (by kernel_rfl)<|ae 1 (ti 0) o (by kernel_rfl) o<|af 0 (by kernel_rfl) o<|yl 2 .here bW o o o tr o<|za<|aa [4,5,18] o<|af 2 (by kernel_rfl) o<|st 1 .here bW o o o o tr<|za<|aa [4,5] o<|ae 3 (ti 0) o (by kernel_rfl) o<|aN (by kernel_rfl)<|zt ?_
  refine zR<|zT ?_
  cases h
  exact aF (rs:=[.tmp 4,.cell 5 30,.tmp 6]) o (.cons (.tmp o) (.cons (.cell 1 .here o o o ab bW) (.cons (.tmp o) (.nil)))) o (λ_ vs g=>aH vs g) (λ_ _ _=>(.cons_cons _ (.cons _ (.cons _ .slnil))))
 refine zk<|zt<|zs<|zu<|q 2 [(20,tb (W.2 !=0))] [3,5,7,8] o<|za<|rI h o (λhc h=>?_) λhc h=>?_
 ·refine zu<|y (bc o gk o o .nil) o ?_
  refine q 2 [(4,ti 0),(21,.one Y30 (0,0,0,0,[],[],0,0,0,(0,0,()),(0,0,()),(0,0,()),false,(List.replicate 2 (z32:List (Int))),z32,[],0,0,())),(22,ti W.2)] [5] o<|st 1 .here bW o o o o tr<|q 1 [(6,ti W.2)] [4,5] o<|zf<|zT ?_
  cases h
  exact aF (rs:=[.tmp 4,.cell 5 30,.tmp 6]) o (.cons (.tmp o) (.cons (.cell 1 .here o o o ab bW) (.cons (.tmp o) (.nil)))) o (λ_ vs g=>aH vs g) (λ_ _ _=>(.cons_cons _ (.cons _ (.cons _ .slnil))))
 refine zy<|q 1 [(24,ts W.1)] [3,5] o<|cB h λc d h=>av (iW _ _ d) (ca o) o o<|q 4 [(26,ti c.1),(27,.one Y30 c.2.1),(28,ti c.2.2)] [3,5] o<|aD (t:=Y30) o gk o λV=>q 1 [(9,ti c.1),(10,ptr V 0)] [3,5,27,28] o<|st 0 .here bW o o o o tr<|q 1 [(8,ti c.2.2)] [3,5,9,10] o<|za<|zs<|zu<|q 2 [(30,tb (c.2.2 !=0))] [3,5,8,9,10] o<|za ?_
 refine rI h o (λhc h=>?_) λhc h=>?_
 ·refine zu<|y (bc o gk o o .nil) o ?_
  refine q 2 [(4,ti 0),(31,.one Y30 (0,0,0,0,[],[],0,0,0,(0,0,()),(0,0,()),(0,0,()),false,(List.replicate 2 (z32:List (Int))),z32,[],0,0,())),(32,ti c.2.2)] [5] o<|st 2 .here bW o o o o tr<|q 1 [(6,ti c.2.2)] [4,5] o<|zf<|zT ?_
  cases h
  exact aF (rs:=[.tmp 4,.cell 5 30,.tmp 6]) o (.cons (.tmp o) (.cons (.cell 2 .here o o o ab bW) (.cons (.tmp o) (.nil)))) o (λ_ vs g=>aH vs g) (λ_ _ _=>(.cons _ (.cons_cons _ (.cons _ (.cons _ .slnil)))))
 refine zk<|zt<|zs<|zu<|p 1 [3,5,9,10,33] o<|yl 0 f0 ty3 o o o tr o<|q 1 [(34,ti c.2.1.1),(35,ptr u 0)] [3,5,9,10] o<|yl 3 f0 ty3 o o o tr o<|q 2 [(3,ptr u 0),(5,ptr M 0),(9,ti c.1),(10,ptr V 0),(38,tb (c.2.1.1 !=f.1))] [] o ?_
 obtain⟨H,e,h⟩:=ak h;rw[e]
 refine aJ 6 [(3,ptr u 0),(5,ptr M 0),(9,ti c.1),(10,ptr V 0),(44,tb (H||(c.2.1.2.1 !=f.2.1)))] [Res.var V 30 Y30 c.2.1,Res.disk PP dI R C,Res.var M 30 Y30 (0,0,0,0,[],[],0,0,0,(0,0,()),(0,0,()),(0,0,()),false,(List.replicate 2 (z32:List (Int))),z32,[],0,0,()),Res.var u 30 Y30 f] (?_) ?_
 ·clear h
  cases H
  ·refine p 1 [3,5,9,10,38,39] o<|ap (by rfl) o ?_
   refine yl 0 f1 ty2 o o o tr o<|q 1 [(40,ti c.2.1.2.1),(41,ptr u 1)] [3,5,9,10,38] o<|ap (by rfl) o ?_
   exact yl 3 f1 ty2 o o o tr o<|q 2 [(44,tb (c.2.1.2.1 !=f.2.1))] [3,5,9,10] o<|aa [3,5,9,10,44] o<|za<|ao () o o
  exact p 6 [3,5,9,10,44] o<|za<|ao () o o
 refine q 1 [(3,ptr u 0),(5,ptr M 0),(9,ti c.1),(10,ptr V 0),(45,tb (H||(c.2.1.2.1 !=f.2.1)))] [] o ?_
 obtain⟨G,e,h⟩:=ak h;rw[e]
 refine aJ 6 [(3,ptr u 0),(5,ptr M 0),(9,ti c.1),(10,ptr V 0),(51,tb (G||(c.2.1.2.2.1 !=f.2.2.1)))] [Res.var V 30 Y30 c.2.1,Res.disk PP dI R C,Res.var M 30 Y30 (0,0,0,0,[],[],0,0,0,(0,0,()),(0,0,()),(0,0,()),false,(List.replicate 2 (z32:List (Int))),z32,[],0,0,()),Res.var u 30 Y30 f] (?_) ?_
 ·clear h
  cases G
  ·refine p 1 [3,5,9,10,45,46] o<|ap (by rfl) o ?_
   refine yl 0 f2 ty2 o o o tr o<|q 1 [(47,ti c.2.1.2.2.1),(48,ptr u 2)] [3,5,9,10,45] o<|ap (by rfl) o ?_
   exact yl 3 f2 ty2 o o o tr o<|q 2 [(51,tb (c.2.1.2.2.1 !=f.2.2.1))] [3,5,9,10] o<|aa [3,5,9,10,51] o<|za<|ao () o o
  exact p 6 [3,5,9,10,51] o<|za<|ao () o o
 refine q 1 [(3,ptr u 0),(5,ptr M 0),(9,ti c.1),(10,ptr V 0),(52,tb (G||(c.2.1.2.2.1 !=f.2.2.1)))] [] o ?_
 obtain⟨N,e,h⟩:=ak h;rw[e]
 refine aJ 6 [(5,ptr M 0),(9,ti c.1),(10,ptr V 0),(58,tb (N||(c.2.1.2.2.2.1 !=f.2.2.2.1)))] [Res.var V 30 Y30 c.2.1,Res.disk PP dI R C,Res.var M 30 Y30 (0,0,0,0,[],[],0,0,0,(0,0,()),(0,0,()),(0,0,()),false,(List.replicate 2 (z32:List (Int))),z32,[],0,0,()),Res.var u 30 Y30 f] (?_) ?_
 ·clear h
  cases N
  ·refine p 1 [3,5,9,10,52,53] o<|ap (by rfl) o ?_
   refine yl 0 f3 ty2 o o o tr o<|q 1 [(54,ti c.2.1.2.2.2.1),(55,ptr u 3)] [5,9,10,52] o<|ap (by rfl) o ?_
   exact yl 3 f3 ty2 o o o tr o<|q 2 [(58,tb (c.2.1.2.2.2.1 !=f.2.2.2.1))] [5,9,10] o<|aa [5,9,10,58] o<|za<|ao () o o
  exact p 6 [5,9,10,58] o<|za<|ao () o o
 refine za<|rI h o (λhc h=>?_) λhc h=>?_
 ·refine zu<|y (bc o gk o o .nil) o ?_
  refine q 1 [(4,ti 0),(5,ptr M 0),(59,.one Y30 (0,0,0,0,[],[],0,0,0,(0,0,()),(0,0,()),(0,0,()),false,(List.replicate 2 (z32:List (Int))),z32,[],0,0,()))] [] o<|st 2 .here bW o o o o tr<|p 1 [4,5,6] o<|zf<|zT ?_
  cases h
  exact aF (rs:=[.tmp 4,.cell 5 30,.tmp 6]) o (.cons (.tmp o) (.cons (.cell 2 .here o o o ab bW) (.cons (.tmp o) (.nil)))) o (λ_ vs g=>aH vs g) (λ_ _ _=>(.cons _ (.cons_cons _ (.cons _ (.cons _ .slnil)))))
 refine zk<|zt<|zs<|dF (by kernel_rfl)<|ae 0 (ti c.1) o (by kernel_rfl) o<|ae 2 (ti c.1) o (by kernel_rfl) o<|af 1 (by kernel_rfl) o<|yl 0 .here bW o o o tr o<|za<|aa [4,5,61] o<|af 3 (by kernel_rfl) o<|st 2 .here bW o o o o tr<|za<|aa [4,5] o ?_
 refine ae 4 (ti 0) o (by kernel_rfl) o<|aN (by kernel_rfl)<|zt<|zR ?_
 cases h
 exact aF (rs:=[.tmp 4,.cell 5 30,.tmp 6]) o (.cons (.tmp o) (.cons (.cell 2 .here o o o ab bW) (.cons (.tmp o) (.nil)))) o (λ_ vs g=>aH vs g) (λ_ _ _=>(.cons _ (.cons_cons _ (.cons _ (.cons _ .slnil)))))
theorem xu(c r)(h:sH c=some r):bn PP 112 [ts c] (tb r):=by
 unfold sH at h
 refine enter Tryz.func112 o 27 o o λF=>?_
 refine zu<|q 1 [(0,ts c)] [] o<|za<|bv h (λM=>[(0,ts c)]) (λM=>[]) (λW h=>?_) λM h=>?_
 ·refine zu<|q 3 [(5,ti (List.length c:Int)),(6,ti 0)] [0] o<|za<|zb<|aa [0,5,6] o<|aY (γ:=Unit) (λ(f:Int) _=>[(0,ts c),(5,ti (List.length c:Int)),(6,ti f)]) (λ(f:Int) _=>[]) (mI c W) 0 () h o o ?_
  clear h
  intro V f gg h
  cases V with
  |zero=>cases h
  |succ V=>
  simp only[mI]at h
  refine zu<|q 1 [(6,ti f),(7,tb (decide (f<(List.length c:Int))))] [0,5] o<|za<|zs<|rI h o (λhc h=>?_) λhc h=>?_
  ·refine zk<|zt<|zs<|zb<|zu<|p 2 [0,3,5,6] o<|zz<|p 2 [0,3,5,6,9,10] o<|iE h λhc h=>y (ge ai o o hc.1 hc.2 o) o ?_
   refine q 2 [(13,tb (decide ((List.getD c (Int.toNat f) 0)<33)))] [0,3,5,6] o ?_
   obtain⟨C,e,h⟩:=ak h;rw[e]
   refine bL h 5 (λR=>[(0,ts c),(5,ti (List.length c:Int)),(6,ti f),(18,tb R)]) (λ_=>[]) (λH h=>?_) λR h=>?_
   ·cases C
    ·replace h:=ifF h
     refine p 2 [0,5,6,13,14,15] o<|ap (by rfl) o ?_
     refine iE h λhc h=>y (ge ai o o hc.1 hc.2 o) o ?_
     exact q 2 [(18,tb (decide ((List.getD c (Int.toNat f) 0)>126)))] [0,5,6] o<|zn<|aa [0,5,6,18] o<|zt<|ah (decide ((List.getD c (Int.toNat f) 0)>126)) () h o o
    replace h:=ifT h
    exact p 5 [0,5,6,18] o<|zn<|aa [0,5,6,18] o<|zt<|ah true () h o o
   exact za<|rI h o (λhc h=>zu<|q 1 [(2,tb false)] [] o<|zf<|zB<|zT<|zT<|zB<|zT<|by cases h;exact aB o (.tmp o)) λhc h=>zk<|zi<|zt<|zr<|q 2 [(0,ts c),(5,ti (List.length c:Int)),(6,ti (wrap .i64 (f+1)))] [] o<|za<|aa [0,5,6] o<|aR (wrap .i64 (f+1)) () (Nat.lt_succ_self _) h o o
  exact zx<|ze<|ze<|zq<|zt<|aa [0] o<|ah () () h o o
 refine zu<|q 3 [(0,ts c),(22,tb (c !=[]))] [] o ?_
 obtain⟨u,e,h⟩:=ak h;rw[e]
 refine aJ 4 [(26,tb (u&&(decide ((List.length c:Int)≤24))))] [] (?_) ?_
 ·clear h
  cases u
  ·exact q 4 [(26,tb false)] [] o<|aa [26] o<|za<|ao () o o
  exact q 4 [(26,tb (decide ((List.length c:Int)≤24)))] [] o<|aa [26] o<|za<|ao () o o
 refine q 1 [(2,tb (u&&(decide ((List.length c:Int)≤24))))] [] o<|zf ?_
 cases h
 exact aB o (.tmp o)
theorem uk(f:Value)(c r)(h:n9 c=some r):Fn PP 19 [tp f] [Res.disk PP dI f c] (λ_=>tb r) (λ_=>[Res.disk PP dI f c]):=by
 unfold n9 at h
 refine enter Tryz.func19 o 7 o o λF=>?_
 refine gE λu M hp=>?_
 subst hp
 refine zu<|q 1 [(0,ptr u 0)] [] o<|zz<|q 3 [(5,ptr u 5)] [] o<|yl 0 f5 ty4 o o o tr o<|q 1 [(2,tb c.2.2.2.2.2.1)] [] o<|zf<|cv (P:=PP) (I:=dI) (D:=c) ?_
 cases h
 exact bd o (.tmp o) (.cons_cons _ .slnil)
theorem n1(p:Value):Fn PP 113 [.one (.raw NV) p] [] (λv=> .one W63 v) (λv=>[Res.seqv 154 127 v p]):=by
 refine enter Tryz.func113 o 4 o o λF=>?_
 refine gc ?_
 refine dM ?_
 refine bD o o λb=>?_
 refine fU ai 1 [1] (E':=[(1,ptr b 0)]) o ?_
 refine gM ?_
 refine eW ?_
 refine gc ?_
 refine dM ?_
 refine y (yI o) o ?_
 refine fU ai 1 [2] (E':=[(2,.one W63 (.func (.func 154) #[] #[adr b]))]) o ?_
 refine gM ?_
 refine eW ?_
 refine qL ?_
 refine Res.seqv_of (g:=154) ?_
 exact aU o (.tmp o) (λ_ _ g=>holds_raw.2 ⟨rfl,by rw[(holds_raw.1 g).1];exact(holds_raw.1 g).2⟩) (λ_ _ g=>by obtain⟨rfl,_⟩:=holds_raw.1 g;exact List.Sublist.refl _)
theorem ED:oW PP 180 Go.Proofs.encStr (λx y=>decide (x≤y)):=Bt Tryz.laysSortS
end Sx
