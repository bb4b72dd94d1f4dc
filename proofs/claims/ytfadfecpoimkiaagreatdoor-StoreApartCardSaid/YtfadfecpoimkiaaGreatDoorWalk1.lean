/-
  Own work, printed by a program of the same hand. Each function of the code answers what its plain twin reckons.
-/
import Derived.Test.YtfadfecpoimkiaaGreatDoorProg
import Derived.Test.YtfadfecpoimkiaaGreatDoorDefs
import Derived.Test.YtfadfecpoimkiaaGreatDoorComm
import Derived.Test.YtfadfecpoimkiaaGreatDoorLib3
import Derived.Test.YtfadfecpoimkiaaGreatDoorLib2
import Derived.Test.YtfadfecpoimkiaaGreatDoorHandB
import Derived.Test.YtfadfecpoimkiaaGreatDoorHandD
import Derived.Test.YtfadfecpoimkiaaGreatDoorHandP
import Derived.Test.YtfadfecpoimkiaaGreatDoorHandS
import Derived.KernelRfl
namespace Sx
open Go Go.Proofs Go.IntKind
set_option maxRecDepth 10000
set_option maxHeartbeats 1000000
attribute [local irreducible] wpList
@[reducible] def tsl(x:Value):TV:= .one (.raw (.slice none 0 0)) x
theorem o{α:Sort _}{a:α}:a=a:=rfl
@[reducible] def g4{b u c f M V:T}(p:Pth b u):Pth (.pair c (.pair f (.pair M (.pair V b)))) u:= .snd (.snd (.snd (.snd p)))
@[reducible] def g9{b u c f M V R W C H G:T}(p:Pth b u):Pth (.pair c (.pair f (.pair M (.pair V (.pair R (.pair W (.pair C (.pair H (.pair G b))))))))) u:= .snd (.snd (.snd (.snd (.snd (.snd (.snd (.snd (.snd p))))))))
@[reducible] def g10{b u c f M V R W C H G N:T}(p:Pth b u):Pth (.pair c (.pair f (.pair M (.pair V (.pair R (.pair W (.pair C (.pair H (.pair G (.pair N b)))))))))) u:= .snd (.snd (.snd (.snd (.snd (.snd (.snd (.snd (.snd (.snd p)))))))))
@[reducible] def g11{b u c f M V R W C H G N J:T}(p:Pth b u):Pth (.pair c (.pair f (.pair M (.pair V (.pair R (.pair W (.pair C (.pair H (.pair G (.pair N (.pair J b))))))))))) u:= .snd (.snd (.snd (.snd (.snd (.snd (.snd (.snd (.snd (.snd (.snd p))))))))))
@[reducible] def g13{b u c f M V R W C H G N J d m:T}(p:Pth b u):Pth (.pair c (.pair f (.pair M (.pair V (.pair R (.pair W (.pair C (.pair H (.pair G (.pair N (.pair J (.pair d (.pair m b))))))))))))) u:= .snd (.snd (.snd (.snd (.snd (.snd (.snd (.snd (.snd (.snd (.snd (.snd (.snd p))))))))))))
@[reducible] def z32:List Int:=List.replicate 32 0
@[reducible] noncomputable def PP:Program:=Tryz.prog
abbrev Y52:T:=(.pair (.int .i64) (.pair (.int .i64) (.pair (.int .i64) (.pair (.arr 32 (.int .u8)) (.pair .str .unit)))))
abbrev Y24:T:=(.pair (.int .i64) (.pair (.int .i64) .unit))
abbrev Y56:T:=(.pair (.int .i64) (.pair (.arr 32 (.int .u8)) (.pair .bool .unit)))
abbrev Y30:T:=(.pair (.int .i64) (.pair (.int .i64) (.pair (.int .i64) (.pair (.int .i64) (.pair (.sl 52 Y52) (.pair (.sl 52 Y52) (.pair (.int .i64) (.pair (.int .i64) (.pair (.int .i64) (.pair Y24 (.pair Y24 (.pair Y24 (.pair .bool (.pair (.arr 2 (.arr 32 (.int .u8))) (.pair (.arr 32 (.int .u8)) (.pair (.sl 56 Y56) (.pair (.int .i64) (.pair (.int .i64) .unit))))))))))))))))))
abbrev Y40:T:=(.pair (.int .i64) (.pair (.int .i64) (.pair (.int .i64) (.pair (.arr 32 (.int .u8)) (.pair (.arr 32 (.int .u8)) (.pair (.arr 32 (.int .u8)) (.pair (.arr 2 (.arr 32 (.int .u8))) (.pair (.int .i64) .unit))))))))
abbrev Y54:T:=(.pair (.int .i64) (.pair Y52 (.pair (.sl 52 Y52) (.pair (.int .i64) (.pair Y24 (.pair (.arr 32 (.int .u8)) (.pair (.arr 32 (.int .u8)) (.pair (.arr 32 (.int .u8)) (.pair (.int .i64) .unit)))))))))
abbrev Y195:T:=(.pair (.int .i64) (.pair (.int .i64) (.pair (.int .i64) .unit)))
abbrev Y282:T:=(.pair (.int .i64) (.pair (.arr 32 (.int .u8)) (.pair (.arr 32 (.int .u8)) .unit)))
abbrev Y280:T:=(.pair (.int .i64) (.pair (.sl 52 Y52) (.pair (.arr 32 (.int .u8)) .unit)))
abbrev Y212:T:=(.ifc 276 (.pair Y52 .unit) (.ifc 278 (.pair (.int .i64) (.pair Y24 .unit)) (.ifc 280 Y280 (.ifc 282 Y282 (.ifc 284 (.pair (.int .i64) .unit) (.ifc 286 (.pair (.int .i64) .unit) (.raw .nilIface)))))))
abbrev Y205:T:=(.arr 2 (.pair (.int .i64) (.pair .bool .unit)))
abbrev Y152:T:=(.pair .str (.pair (.int .i64) (.pair (.int .i64) (.pair .str .unit))))
abbrev W76:T:= .sl 52 Y52
abbrev W77:T:= .sl 56 Y56
abbrev W78:T:= .sl 9 .str
abbrev W79:T:= .sl 54 Y54
abbrev W75:T:= .sl 152 Y152
abbrev W74:T:= .raw .nilFunc
abbrev W72:T:= .pair Y52 .unit
abbrev W70:T:= .raw (.map none)
abbrev W69:T:= .sl 3 (.int .i64)
abbrev W66:T:= .arr 32 (.int .u8)
abbrev W67:T:= .arr 8 (.int .u32)
abbrev W64:T:= .arr 16 (.int .u32)
abbrev W65:T:= .arr 64 (.int .u32)
abbrev W63:T:= .raw (.pointer none)
abbrev W62:T:= .raw (.slice none 0 0)
abbrev W61:T:= .pair (.int .i64) .unit
abbrev W60:T:= .arr 2 W66
abbrev W58:T:= .pair (.int .i64) (.pair Y24 .unit)
abbrev W57:T:= .pair .str W61
abbrev W56:T:= .pair (.int .i64) (.pair .bool .unit)
abbrev W55:T:= .pair (.int .i64) W61
abbrev W53:T:= .pair W63 (.pair .bool .unit)
abbrev W50:T:= .pair W62 W61
abbrev W45:T:= .pair W62 (.pair (.int .i64) (.pair .bool (.pair .bool .unit)))
abbrev W44:T:= .pair W63 (.pair .str W55)
abbrev W39:T:= .pair W63 (.pair W63 (.pair W63 (.pair Y30 .unit)))
abbrev W37:T:= .pair W63 (.pair .str (.pair (.int .i64) (.pair W62 W56)))
abbrev W23:T:= .pair (.int .i64) (.pair (.int .i64) (.pair (.int .i64) (.pair Y24 (.pair Y24 (.pair Y24 (.pair .bool (.pair W60 (.pair W66 (.pair W77 W55)))))))))
abbrev W4:T:= .pair (.int .i64) (.pair (.int .i64) (.pair (.int .i64) (.pair (.int .i64) (.pair W76 (.pair W76 (.pair (.int .i64) (.pair (.int .i64) (.pair (.int .i64) (.pair Y24 (.pair Y24 (.pair Y24 (.pair .bool (.pair W60 (.pair W66 (.pair W62 W55)))))))))))))))
abbrev W1:T:= .pair (.int .i64) (.pair (.int .i64) (.pair (.int .i64) (.pair (.int .i64) (.pair W62 (.pair W76 (.pair (.int .i64) (.pair (.int .i64) (.pair (.int .i64) (.pair Y24 (.pair Y24 (.pair Y24 (.pair .bool (.pair W60 (.pair W66 (.pair W62 W55)))))))))))))))
abbrev W2:T:= .pair (.int .i64) (.pair (.int .i64) (.pair (.int .i64) (.pair (.int .i64) (.pair W76 (.pair W62 (.pair (.int .i64) (.pair (.int .i64) (.pair (.int .i64) (.pair Y24 (.pair Y24 (.pair Y24 (.pair .bool (.pair W60 (.pair W66 (.pair W62 W55)))))))))))))))
abbrev W0:T:= .pair (.int .i64) (.pair (.int .i64) (.pair (.int .i64) (.pair (.int .i64) (.pair W62 (.pair W62 (.pair (.int .i64) (.pair (.int .i64) (.pair (.int .i64) (.pair Y24 (.pair Y24 (.pair Y24 (.pair .bool (.pair W60 (.pair W66 (.pair W62 W55)))))))))))))))
theorem ty2:aW PP (.int .i64) 2=true:=by kernel_rfl
theorem ty3:aW PP (.int .i64) 3=true:=by kernel_rfl
theorem ty4:aW PP .bool 4=true:=by kernel_rfl
theorem ty5:aW PP (.int .u8) 5=true:=by kernel_rfl
theorem ty9:aW PP .str 9=true:=by kernel_rfl
theorem iY:aW PP W76 22=true:=by kernel_rfl
theorem fj:aW PP Y24 24=true:=by kernel_rfl
theorem bH:aW PP W66 26=true:=by kernel_rfl
theorem y4:aW PP W60 27=true:=by kernel_rfl
theorem qd:aW PP W77 28=true:=by kernel_rfl
theorem bE:aW PP Y30 30=true:=by kernel_rfl
theorem fk:aW PP (.int .i64) 31=true:=by kernel_rfl
theorem BD:aW PP Y40 40=true:=by kernel_rfl
theorem dR:aW PP W63 42=true:=by kernel_rfl
theorem bB:aW PP Y52 52=true:=by kernel_rfl
theorem eX:aW PP Y54 54=true:=by kernel_rfl
theorem iZ:aW PP Y56 56=true:=by kernel_rfl
theorem cv:aW PP (.int .u32) 89=true:=by kernel_rfl
theorem gI:aW PP W63 100=true:=by kernel_rfl
theorem ut:aW PP W63 106=true:=by kernel_rfl
theorem mX:aW PP W70 121=true:=by kernel_rfl
theorem cV:aW PP W63 127=true:=by kernel_rfl
theorem xD:aW PP W78 128=true:=by kernel_rfl
theorem G0:aW PP W63 132=true:=by kernel_rfl
theorem nU:aW PP Y152 152=true:=by kernel_rfl
theorem dq:aW PP Y195 195=true:=by kernel_rfl
theorem mY:aW PP W56 204=true:=by kernel_rfl
theorem qA:aW PP W70 235=true:=by kernel_rfl
theorem xE:aW PP W64 287=true:=by kernel_rfl
theorem lB:aW PP W67 353=true:=by kernel_rfl
theorem mZ:aW PP W65 354=true:=by kernel_rfl
theorem tx0:aW PP W62 91=true:=by kernel_rfl
theorem tx1:aW PP W62 22=true:=by kernel_rfl
theorem tx2:aW PP W62 28=true:=by kernel_rfl
theorem tx3:aW PP (.raw (fnv 85)) 68=true:=by kernel_rfl
theorem tx4:aW PP W62 128=true:=by kernel_rfl
theorem tx5:aW PP W62 184=true:=by kernel_rfl
theorem tx6:aW PP W0 30=true:=by kernel_rfl
theorem zf3:(PP.info? 3).bind (·.zero)=some (mk (.int .i64) (zc (.int .i64))):=by kernel_rfl
theorem zf4:(PP.info? 4).bind (·.zero)=some (mk .bool (zc .bool)):=by kernel_rfl
theorem zf5:(PP.info? 5).bind (·.zero)=some (mk (.int .u8) (zc (.int .u8))):=by kernel_rfl
theorem Hz:(PP.info? 24).bind (·.zero)=some (mk Y24 (zc Y24)):=by kernel_rfl
theorem oB:(PP.info? 26).bind (·.zero)=some (mk W66 (zc W66)):=by kernel_rfl
theorem HA:(PP.info? 27).bind (·.zero)=some (mk W60 (zc W60)):=by kernel_rfl
theorem fO:(PP.info? 30).bind (·.zero)=some (mk Y30 (zc Y30)):=by kernel_rfl
theorem HB:(PP.info? 31).bind (·.zero)=some (mk (.int .i64) (zc (.int .i64))):=by kernel_rfl
theorem Gn:(PP.info? 40).bind (·.zero)=some (mk Y40 (zc Y40)):=by kernel_rfl
theorem ja:(PP.info? 52).bind (·.zero)=some (mk Y52 (zc Y52)):=by kernel_rfl
theorem kq:(PP.info? 54).bind (·.zero)=some (mk Y54 (zc Y54)):=by kernel_rfl
theorem vj:(PP.info? 56).bind (·.zero)=some (mk Y56 (zc Y56)):=by kernel_rfl
theorem HC:(PP.info? 68).bind (·.zero)=some (mk W74 (zc W74)):=by kernel_rfl
theorem G1:(PP.info? 103).bind (·.zero)=some (mk W53 (zc W53)):=by kernel_rfl
theorem G2:(PP.info? 123).bind (·.zero)=some (mk DT (zc DT)):=by kernel_rfl
theorem Ez:(PP.info? 127).bind (·.zero)=some (mk W63 (zc W63)):=by kernel_rfl
theorem G3:(PP.info? 128).bind (·.zero)=some (mk W78 (zc W78)):=by kernel_rfl
theorem G4:(PP.info? 136).bind (·.zero)=some (mk W39 (zc W39)):=by kernel_rfl
theorem G5:(PP.info? 139).bind (·.zero)=some (mk BT (zc BT)):=by kernel_rfl
theorem uu:(PP.info? 152).bind (·.zero)=some (mk Y152 (zc Y152)):=by kernel_rfl
theorem G6:(PP.info? 161).bind (·.zero)=some (mk W50 (zc W50)):=by kernel_rfl
theorem G7:(PP.info? 171).bind (·.zero)=some (mk W57 (zc W57)):=by kernel_rfl
theorem G8:(PP.info? 186).bind (·.zero)=some (mk W37 (zc W37)):=by kernel_rfl
theorem G9:(PP.info? 191).bind (·.zero)=some (mk W45 (zc W45)):=by kernel_rfl
theorem pI:(PP.info? 195).bind (·.zero)=some (mk Y195 (zc Y195)):=by kernel_rfl
theorem EA:(PP.info? 204).bind (·.zero)=some (mk W56 (zc W56)):=by kernel_rfl
theorem Ha:(PP.info? 205).bind (·.zero)=some (mk Y205 (zc Y205)):=by kernel_rfl
theorem EB:(PP.info? 208).bind (·.zero)=some (mk W44 (zc W44)):=by kernel_rfl
theorem BE:(PP.info? 237).bind (·.zero)=some (mk FT (zc FT)):=by kernel_rfl
theorem Hb:(PP.info? 276).bind (·.zero)=some (mk W72 (zc W72)):=by kernel_rfl
theorem Hc:(PP.info? 278).bind (·.zero)=some (mk W58 (zc W58)):=by kernel_rfl
theorem Hd:(PP.info? 280).bind (·.zero)=some (mk Y280 (zc Y280)):=by kernel_rfl
theorem He:(PP.info? 282).bind (·.zero)=some (mk Y282 (zc Y282)):=by kernel_rfl
theorem Hf:(PP.info? 284).bind (·.zero)=some (mk W61 (zc W61)):=by kernel_rfl
theorem Hg:(PP.info? 286).bind (·.zero)=some (mk W61 (zc W61)):=by kernel_rfl
theorem BF:(PP.info? 287).bind (·.zero)=some (mk W64 (zc W64)):=by kernel_rfl
theorem pJ:(PP.info? 353).bind (·.zero)=some (mk W67 (zc W67)):=by kernel_rfl
theorem oV:(PP.info? 354).bind (·.zero)=some (mk W65 (zc W65)):=by kernel_rfl
theorem el2:fG PP (.int .i64) 2 8=true:=by kernel_rfl
theorem el3:fG PP (.int .i64) 3 8=true:=by kernel_rfl
theorem el5:fG PP (.int .u8) 5 1=true:=by kernel_rfl
theorem el9:fG PP .str 9 16=true:=by kernel_rfl
theorem HD:fG PP W66 26 32=true:=by kernel_rfl
theorem iq:fG PP Y52 52 72=true:=by kernel_rfl
theorem y5:fG PP Y54 54 232=true:=by kernel_rfl
theorem tT:fG PP Y56 56 48=true:=by kernel_rfl
theorem Hh:fG PP W63 106 8=true:=by kernel_rfl
theorem gk:fG PP Y195 195 24=true:=by kernel_rfl
theorem vk:PP.underlying 26=some (.array 32 5):=Tryz.underlying26
theorem y6:PP.underlying 27=some (.array 2 26):=Tryz.underlying27
abbrev BG:=Tryz.underlying30
theorem pK:PP.underlying 205=some (.array 2 204):=Tryz.underlying205
abbrev xF:=Tryz.underlying212
theorem BH:PP.underlying 287=some (.array 16 89):=Tryz.underlying287
theorem Hi:PP.underlying 332=some (.array 64 5):=Tryz.underlying332
theorem jx:PP.underlying 353=some (.array 8 89):=Tryz.underlying353
theorem pL:PP.underlying 354=some (.array 64 89):=Tryz.underlying354
theorem BI:PP.keyTypeAt 20 24=true:=by kernel_rfl
theorem BJ:PP.eqGuardType PP.depth 24=false:=by kernel_rfl
theorem vl:PP.keyTypeAt 20 26=true:=by kernel_rfl
theorem vm:PP.eqGuardType PP.depth 26=false:=by kernel_rfl
theorem HE:PP.keyTypeAt 20 27=true:=by kernel_rfl
theorem HF:PP.eqGuardType PP.depth 27=false:=by kernel_rfl
theorem Ea:PP.keyTypeAt 20 52=true:=by kernel_rfl
theorem Eb:PP.eqGuardType PP.depth 52=false:=by kernel_rfl
theorem HG:PP.keyTypeAt 20 56=true:=by kernel_rfl
theorem HH:PP.eqGuardType PP.depth 56=false:=by kernel_rfl
def cd(q:Value):Kind:=⟨Unit×List Int×Int×(List bN)×cb,Value,λb s x=>[Res.var b 186 W37 (bI x q s),Res.own s 195 Y195 x.2.2.2.1]⟩
theorem na{F:Fr}{n:Nat}{E:Env}{L:List Res}{X:Act→World→Prop}{q:Value}{p:Value}{x:Unit×List Int×Int×(List bN)×Int×Bool×Unit}(g:∀b c,p= .pointer (some ⟨b,0,none⟩)→Go F n E (Res.var b 186 W37 (bI x q c)::Res.own c 195 Y195 x.2.2.2.1::L) X):Go F n E (Res.cls (cd q) p x::L) X:=kd (K:=(cd q)) λb c h=>g b c h
theorem fm{F:Fr}{n:Nat}{E:Env}{L:List Res}{X:Act→World→Prop}{q:Value}{b:Nat}{x:Unit×List Int×Int×(List bN)×Int×Bool×Unit}(g:∀c,Go F n E (Res.var b 186 W37 (bI x q c)::Res.own c 195 Y195 x.2.2.2.1::L) X):Go F n E (Res.cls (cd q) (.pointer (some ⟨b,0,none⟩)) x::L) X:=m5 (K:=(cd q)) λc=>g c
theorem bM{F:Fr}{n:Nat}{E:Env}{L:List Res}{X:Act→World→Prop}{q:Value}{b:Nat}{c:Value}{x:Unit×List Int×Int×(List bN)×Int×Bool×Unit}(g:Go F n E (Res.cls (cd q) (.pointer (some ⟨b,0,none⟩)) x::L) X):Go F n E (Res.var b 186 W37 (bI x q c)::Res.own c 195 Y195 x.2.2.2.1::L) X:=nF (K:=(cd q)) (s:=c) g
def eK(q:Value):Kind:=⟨Unit×List Int×Z23,Unit,λb _ x=>[Res.var b 208 W44 (fB x q)]⟩
theorem C5{F:Fr}{n:Nat}{E:Env}{L:List Res}{X:Act→World→Prop}{q:Value}{p:Value}{x:Unit×List Int×Int×Int×Unit}(g:∀b,p= .pointer (some ⟨b,0,none⟩)→Go F n E (Res.var b 208 W44 (fB x q)::L) X):Go F n E (Res.cls (eK q) p x::L) X:=kd (K:=(eK q)) λb _ h=>g b h
theorem BK{F:Fr}{n:Nat}{E:Env}{L:List Res}{X:Act→World→Prop}{q:Value}{b:Nat}{x:Unit×List Int×Int×Int×Unit}(g:Go F n E (Res.var b 208 W44 (fB x q)::L) X):Go F n E (Res.cls (eK q) (.pointer (some ⟨b,0,none⟩)) x::L) X:=m5 (K:=(eK q)) λ_=>g
theorem uv{F:Fr}{n:Nat}{E:Env}{L:List Res}{X:Act→World→Prop}{q:Value}{b:Nat}{x:Unit×List Int×Int×Int×Unit}(g:Go F n E (Res.cls (eK q) (.pointer (some ⟨b,0,none⟩)) x::L) X):Go F n E (Res.var b 208 W44 (fB x q)::L) X:=nF (K:=(eK q)) (s:=()) g
def aZ(q:Value):Kind:=⟨Unit×(Int×Unit×List Int×Int×(List bN)×cb)×(Int×Unit×List Int×Z23)×Z29×Unit,Value×Value,λb s x=>[Res.var b 136 W39 (q,s.1,s.2,x.2.2.2.1,x.2.2.2.2),Res.clsif (cd q) s.1 x.2.1.2 x.2.1.1,Res.clsif (eK q) s.2 x.2.2.1.2 x.2.2.1.1]⟩
theorem nV{F:Fr}{n:Nat}{E:Env}{L:List Res}{X:Act→World→Prop}{q:Value}{p:Value}{x:Unit×(Int×Unit×List Int×Int×(List bN)×cb)×(Int×Unit×List Int×Z23)×Z29×Unit}(g:∀b c f,p= .pointer (some ⟨b,0,none⟩)→Go F n E (Res.var b 136 W39 (q,c,f,x.2.2.2.1,x.2.2.2.2)::Res.clsif (cd q) c x.2.1.2 x.2.1.1::Res.clsif (eK q) f x.2.2.1.2 x.2.2.1.1::L) X):Go F n E (Res.cls (aZ q) p x::L) X:=kd (K:=(aZ q)) λb ⟨c,f⟩ h=>g b c f h
theorem mK{F:Fr}{n:Nat}{E:Env}{L:List Res}{X:Act→World→Prop}{q:Value}{b:Nat}{x:Unit×(Int×Unit×List Int×Int×(List bN)×cb)×(Int×Unit×List Int×Z23)×Z29×Unit}(g:∀c f,Go F n E (Res.var b 136 W39 (q,c,f,x.2.2.2.1,x.2.2.2.2)::Res.clsif (cd q) c x.2.1.2 x.2.1.1::Res.clsif (eK q) f x.2.2.1.2 x.2.2.1.1::L) X):Go F n E (Res.cls (aZ q) (.pointer (some ⟨b,0,none⟩)) x::L) X:=m5 (K:=(aZ q)) λ⟨c,f⟩=>g c f
theorem fo{F:Fr}{n:Nat}{E:Env}{L:List Res}{X:Act→World→Prop}{q:Value}{b:Nat}{c f:Value}{x:Unit×(Int×Unit×List Int×Int×(List bN)×cb)×(Int×Unit×List Int×Z23)×Z29×Unit}(g:Go F n E (Res.cls (aZ q) (.pointer (some ⟨b,0,none⟩)) x::L) X):Go F n E (Res.var b 136 W39 (q,c,f,x.2.2.2.1,x.2.2.2.2)::Res.clsif (cd q) c x.2.1.2 x.2.1.1::Res.clsif (eK q) f x.2.2.1.2 x.2.2.1.1::L) X:=nF (K:=(aZ q)) (s:=(c,f)) g
def dK:Kind:=⟨Z13,Unit,λb _ x=>[Res.var b 171 W57 (x.1,x.2.1,x.2.2)]⟩
theorem eP{F:Fr}{n:Nat}{E:Env}{L:List Res}{X:Act→World→Prop}{p:Value}{x:List Int×Int×Unit}(g:∀b,p= .pointer (some ⟨b,0,none⟩)→Go F n E (Res.var b 171 W57 (x.1,x.2.1,x.2.2)::L) X):Go F n E (Res.cls dK p x::L) X:=kd (K:=dK) λb _ h=>g b h
theorem eT{F:Fr}{n:Nat}{E:Env}{L:List Res}{X:Act→World→Prop}{b:Nat}{x:List Int×Int×Unit}(g:Go F n E (Res.cls dK (.pointer (some ⟨b,0,none⟩)) x::L) X):Go F n E (Res.var b 171 W57 (x.1,x.2.1,x.2.2)::L) X:=nF (K:=dK) (s:=()) g
def fI:Kind:=⟨(Int×Z13)×Bool×Unit,Value,λb s x=>[Res.var b 103 W53 (s,x.2.1,x.2.2),Res.clsif dK s x.1.2 x.1.1]⟩
theorem qR{F:Fr}{n:Nat}{E:Env}{L:List Res}{X:Act→World→Prop}{p:Value}{x:(Int×Z13)×Bool×Unit}(g:∀b c,p= .pointer (some ⟨b,0,none⟩)→Go F n E (Res.var b 103 W53 (c,x.2.1,x.2.2)::Res.clsif dK c x.1.2 x.1.1::L) X):Go F n E (Res.cls fI p x::L) X:=kd (K:=fI) λb c h=>g b c h
theorem ir{F:Fr}{n:Nat}{E:Env}{L:List Res}{X:Act→World→Prop}{b:Nat}{x:(Int×Z13)×Bool×Unit}(g:∀c,Go F n E (Res.var b 103 W53 (c,x.2.1,x.2.2)::Res.clsif dK c x.1.2 x.1.1::L) X):Go F n E (Res.cls fI (.pointer (some ⟨b,0,none⟩)) x::L) X:=m5 (K:=fI) λc=>g c
theorem gi{F:Fr}{n:Nat}{E:Env}{L:List Res}{X:Act→World→Prop}{b:Nat}{c:Value}{x:(Int×Z13)×Bool×Unit}(g:Go F n E (Res.cls fI (.pointer (some ⟨b,0,none⟩)) x::L) X):Go F n E (Res.var b 103 W53 (c,x.2.1,x.2.2)::Res.clsif dK c x.1.2 x.1.1::L) X:=nF (K:=fI) (s:=c) g
def aU:Kind:=⟨bi,Value,λb s x=>[Res.var b 161 W50 (s,x.2.1,x.2.2),Res.own s 5 (.int .u8) x.1]⟩
theorem cw{F:Fr}{n:Nat}{E:Env}{L:List Res}{X:Act→World→Prop}{p:Value}{x:List (Int)×Int×Unit}(g:∀b c,p= .pointer (some ⟨b,0,none⟩)→Go F n E (Res.var b 161 W50 (c,x.2.1,x.2.2)::Res.own c 5 (.int .u8) x.1::L) X):Go F n E (Res.cls aU p x::L) X:=kd (K:=aU) λb c h=>g b c h
theorem js{F:Fr}{n:Nat}{E:Env}{L:List Res}{X:Act→World→Prop}{b:Nat}{x:List (Int)×Int×Unit}(g:∀c,Go F n E (Res.var b 161 W50 (c,x.2.1,x.2.2)::Res.own c 5 (.int .u8) x.1::L) X):Go F n E (Res.cls aU (.pointer (some ⟨b,0,none⟩)) x::L) X:=m5 (K:=aU) λc=>g c
theorem bF{F:Fr}{n:Nat}{E:Env}{L:List Res}{X:Act→World→Prop}{b:Nat}{c:Value}{x:List (Int)×Int×Unit}(g:Go F n E (Res.cls aU (.pointer (some ⟨b,0,none⟩)) x::L) X):Go F n E (Res.var b 161 W50 (c,x.2.1,x.2.2)::Res.own c 5 (.int .u8) x.1::L) X:=nF (K:=aU) (s:=c) g
def iM:Kind:=⟨ow,Value,λb s x=>[Res.var b 191 W45 (fB x s),Res.own s 9 .str x.1]⟩
theorem BL{F:Fr}{n:Nat}{E:Env}{L:List Res}{X:Act→World→Prop}{p:Value}{x:List (List Int)×Int×Bool×Bool×Unit}(g:∀b c,p= .pointer (some ⟨b,0,none⟩)→Go F n E (Res.var b 191 W45 (fB x c)::Res.own c 9 .str x.1::L) X):Go F n E (Res.cls iM p x::L) X:=kd (K:=iM) λb c h=>g b c h
theorem mL{F:Fr}{n:Nat}{E:Env}{L:List Res}{X:Act→World→Prop}{b:Nat}{x:List (List Int)×Int×Bool×Bool×Unit}(g:∀c,Go F n E (Res.var b 191 W45 (fB x c)::Res.own c 9 .str x.1::L) X):Go F n E (Res.cls iM (.pointer (some ⟨b,0,none⟩)) x::L) X:=m5 (K:=iM) λc=>g c
theorem jt{F:Fr}{n:Nat}{E:Env}{L:List Res}{X:Act→World→Prop}{b:Nat}{c:Value}{x:List (List Int)×Int×Bool×Bool×Unit}(g:Go F n E (Res.cls iM (.pointer (some ⟨b,0,none⟩)) x::L) X):Go F n E (Res.var b 191 W45 (fB x c)::Res.own c 9 .str x.1::L) X:=nF (K:=iM) (s:=c) g
def cN:Kind:=⟨Z29,Value×Value×Value,λb s x=>[Res.var b 30 W0 (cQ x s.1 s.2.1 s.2.2),Res.own s.1 52 Y52 x.2.2.2.2.1,Res.own s.2.1 52 Y52 x.2.2.2.2.2.1,Res.own s.2.2 56 Y56 x.2.2.2.2.2.2.2.2.2.2.2.2.2.2.2.1]⟩
theorem mc{F:Fr}{n:Nat}{E:Env}{L:List Res}{X:Act→World→Prop}{p:Value}{x:Int×Int×Int×Int×(List Z51)×(List Z51)×Int×Int×Int×Z23×Z23×Z23×Bool×List (List (Int))×List (Int)×(List Z55)×Int×Int×Unit}(g:∀b c f u,p= .pointer (some ⟨b,0,none⟩)→Go F n E (Res.var b 30 W0 (cQ x c f u)::Res.own c 52 Y52 x.2.2.2.2.1::Res.own f 52 Y52 x.2.2.2.2.2.1::Res.own u 56 Y56 x.2.2.2.2.2.2.2.2.2.2.2.2.2.2.2.1::L) X):Go F n E (Res.cls cN p x::L) X:=kd (K:=cN) λb ⟨c,f,u⟩ h=>g b c f u h
theorem jL{F:Fr}{n:Nat}{E:Env}{L:List Res}{X:Act→World→Prop}{b:Nat}{x:Int×Int×Int×Int×(List Z51)×(List Z51)×Int×Int×Int×Z23×Z23×Z23×Bool×List (List (Int))×List (Int)×(List Z55)×Int×Int×Unit}(g:∀c f u,Go F n E (Res.var b 30 W0 (cQ x c f u)::Res.own c 52 Y52 x.2.2.2.2.1::Res.own f 52 Y52 x.2.2.2.2.2.1::Res.own u 56 Y56 x.2.2.2.2.2.2.2.2.2.2.2.2.2.2.2.1::L) X):Go F n E (Res.cls cN (.pointer (some ⟨b,0,none⟩)) x::L) X:=m5 (K:=cN) λ⟨c,f,u⟩=>g c f u
theorem gA{F:Fr}{n:Nat}{E:Env}{L:List Res}{X:Act→World→Prop}{b:Nat}{c f u:Value}{x:Int×Int×Int×Int×(List Z51)×(List Z51)×Int×Int×Int×Z23×Z23×Z23×Bool×List (List (Int))×List (Int)×(List Z55)×Int×Int×Unit}(g:Go F n E (Res.cls cN (.pointer (some ⟨b,0,none⟩)) x::L) X):Go F n E (Res.var b 30 W0 (cQ x c f u)::Res.own c 52 Y52 x.2.2.2.2.1::Res.own f 52 Y52 x.2.2.2.2.2.1::Res.own u 56 Y56 x.2.2.2.2.2.2.2.2.2.2.2.2.2.2.2.1::L) X:=nF (K:=cN) (s:=(c,f,u)) g
def bD:List (String×IntKind×List Int):=[Em,En]
@[reducible] def dI:DI:=⟨123,237,9,3,5⟩
theorem dW:dU PP .str dI.str=true:=by kernel_rfl
theorem tU:dU PP (.int .i64) dI.int=true:=by kernel_rfl
theorem zNV:(PP.info? 180).bind (·.zero)=some NV:=by kernel_rfl
theorem Gp:dU PP (.int .i64) 3=true:=by kernel_rfl
def tab:Tab:={ints:=[(2,.i64),(3,.i64),(5,.u8),(84,.u16),(89,.u32),(163,.u64),(179,.u64)],strs:=[(9,())],slices:=[(22,52),(28,56),(41,54),(61,2),(64,152),(81,3),(86,26),(91,5),(107,106),(128,9),(184,195)],arrs:=[],offs:=[(24,[0,1]),(30,[0,1,2,3,4,5,6,7,8,9,11,13,15,16,80,112,113,114]),(40,[0,1,2,3,35,67,99,163]),(52,[0,1,2,3,35]),(54,[0,1,37,38,39,41,73,105,137]),(56,[0,1,33]),(103,[0,1]),(123,[0,1,2,3,4,5,6]),(136,[0,1,2,3]),(139,[0,1]),(152,[0,1,2,3]),(161,[0,1]),(171,[0,1]),(186,[0,1,2,3,4,5]),(191,[0,1,2,3]),(195,[0,1,2]),(204,[0,1]),(208,[0,1,2,3]),(237,[0,1,2]),(276,[0]),(278,[0,1]),(280,[0,1,2]),(282,[0,1,33]),(284,[0]),(286,[0])]}
theorem ag:tab.chk PP=true:=by kernel_rfl
theorem p{F:Fr}{n:Nat}{E E0:Env}{L:List Res}{ops:Array Oper}{Q:Exit→Act→World→Prop}{l:List Oper}(k:Nat)(keys:List Nat)(h:seg tab n ops (l.take k) E keys=some E0)(g:Go F n E0 L (wpList PP ops Q (l.drop k))):Go F n E L (wpList PP ops Q l):=fX ag k keys h g
theorem q{F:Fr}{n:Nat}{E E0:Env}{L:List Res}{ops:Array Oper}{Q:Exit→Act→World→Prop}{l:List Oper}(k:Nat)(new:Env)(keys:List Nat)(h:Do tab n ops (l.take k) E (new.map (·.1)) keys=some (new,E0))(g:Go F n (new++E0) L (wpList PP ops Q (l.drop k))):Go F n E L (wpList PP ops Q l):=ET ag k h g
theorem zm{F:Fr}{n:Nat}{E E':Env}{L:List Res}{ops:Array Oper}{Q:Exit→Act→World→Prop}{l:List Oper}(k:Nat)(h:dZ tab n ops (l.take k) E=some E')(g:Go F n E' L (wpList PP ops Q (l.drop k))):Go F n E L (wpList PP ops Q l):=GD ag k h g
theorem zF{F:Fr}{n:Nat}{L:List Res}{ops:Array Oper}{Q:Exit→Act→World→Prop}[b:BlindC Q](k:Nat)(is:List Nat){E E':Env}{fuel:Nat}{listed:Array Bool}(hc:pa n ops is listed=true)(h:ke tab n ops is E=some E')(hk:is.length=k)(g:Go F n E' L (wpAny PP .any ops Q fuel (rv is listed))):Go F n E L (wpAny PP .any ops Q (fuel+k) listed):=ry ag hc h hk g
theorem zH{F:Fr}{n:Nat}{L:List Res}{ops:Array Oper}{Q:Exit→Act→World→Prop}{S:World→Prop}[b:BlindC Q](k:Nat)(is:List Nat){E E':Env}{fuel:Nat}{listed:Array Bool}(hS:∀M w,St F M w L→S w)(hc:pa n ops is listed=true)(h:ke tab n ops is E=some E')(hk:is.length=k)(g:(∀M w,St F M w L→S w)→Go F n E' L (wpAnyH PP .any ops Q S fuel (rv is listed))):Go F n E L (wpAnyH PP .any ops Q S (fuel+k) listed):=Fb ag is hS hc h hk g
section
variable {F:Fr}{n:Nat}{E E':Env}{L:List Res}{ops:Array Oper}{Q R:Exit→Act→World→Prop}{K:Act→World→Prop}{l:List Oper}{id:Nat}{c2:Code}
theorem zA(h:dZ tab n ops l E=some E')(g:Go F n E' L K):Go F n E L (wpList PP ops (Exit.then K Q) l):=yK ag h (za g)
theorem zN(h:dZ tab n ops l E=some E')(g:Go F n E' L (Q .normal)):Go F n E L (wpList PP ops Q l):=yK ag h (zn g)
theorem zE(h:dZ tab n ops l E=some E')(g:Go F n E' L (Q .ret)):Go F n E L (wpList PP ops (Exit.then (Code.ret.wp PP Q) R) l):=yK ag h (zf g)
theorem zU(k:Nat)(h:dZ tab n l.toArray (l.take k) E=some E')(g:Go F n E' L (wpList PP l.toArray (Exit.then (c2.wp PP Q) Q) (l.drop k))):Go F n E L ((Code.seq (Code.region id l.toArray false) c2).wp PP Q):=zu (zm k h g)
theorem zW(h:dZ tab n l.toArray l E=some E')(g:Go F n E' L (c2.wp PP Q)):Go F n E L ((Code.seq (Code.region id l.toArray false) c2).wp PP Q):=zu (zA h g)
theorem zZ(k:Nat)(h:dZ tab n l.toArray (l.take k) E=some E')(g:Go F n E' L (wpList PP l.toArray (Exit.then (c2.wp PP Q) Q) (l.drop k))):Go F n E L (wpList PP ops (Exit.then ((Code.seq (Code.region id l.toArray false) c2).wp PP Q) R) []):=zz (zm k h g)
theorem zL(keys:List Nat)(h:ly E keys=some E')(g:Go F n E' L K):Go F n E L (wpList PP ops (Exit.then K Q) []):=za (ah keys h g)
end
theorem uO(c r)(h:p8 c=some r):Fn PP 13 [ti c] [] (λv=> .tup [⟨.raw NV,au v 0⟩,⟨(.int .i64),r.1⟩]) (λv=>[Res.diskif PP dI (au v 0) r.2 r.1]):=by
 unfold p8 at h
 refine enter Tryz.func13 o 14 o o λF=>?_
 refine zW o<|zs<|zu<|q 3 [(0,ti c),(6,tb (decide (c<0)))] [] o ?_
 obtain⟨M,e,h⟩:=al h;rw[e]
 refine aM 3 [(0,ti c),(9,tb (M||(decide (c>16777216))))] [] (?_) ?_
 ·clear h
  cases M
  ·exact zA o<|ap () o o
  exact zA o<|ap () o o
 refine za<|rI h o (λhc h=>zU 2 o<|zf<|zT<|Dl (P:=PP) (I:=dI) (D:=(0,[],0,0,0,false,false)) (e:=1) (by decide)<|by cases h;exact aE (rs:=[.tmp 2,.tmp 3]) o (.cons (.tmp o) (.cons (.tmp o) .nil)) o (λ_ vs g=>by cases g with|cons f g=>cases g with|cons u g=>cases g;exact⟨_,o,.cons (bf f) (.cons u .nil)⟩) (λ_ vs g=>by cases g with|cons f g=>cases g with|cons u g=>cases g;rw[bP f];exact(.cons_cons _ .slnil))) λhc h=>zy<|zm 1 o<|o1 9 .str (.raw NV) o λV=>?_
 refine Ck (P:=PP) (I:=dI) ?_
 refine y (aY o G2 o o (.cons f0 o o (aq aa) (.cons f1 o o (ab (aq aa)) .nil))) o ?_
 refine bA o o λR=>zE o<|ct (P:=PP) (I:=dI) (D:=(c,[],0,0,0,false,false))<|Dn ?_
 cases h
 exact aE (rs:=[.tmp 2,.tmp 3]) o (.cons (.tmp o) (.cons (.tmp o) .nil)) o (λ_ vs g=>by cases g with|cons f g=>cases g with|cons u g=>cases g;exact⟨_,o,.cons (bf f) (.cons u .nil)⟩) (λ_ vs g=>by cases g with|cons f g=>cases g with|cons u g=>cases g;rw[bP f];exact(.cons_cons _ .slnil))
theorem nr(r)(h:jE=some r):bm PP 59 [] (.one Y40 r):=by
 unfold jE at h
 refine enter Tryz.func59 o 2 o o λF=>?_
 refine zu<|aC (t:=Y40) o Gn o λc=>zz<|y (aY o Gn o o (.cons f1 o o aa (.cons f2 o o aa (.cons f7 o o aa .nil)))) o ?_
 refine st 0 .here BD o o o o tr<|zf ?_
 cases h
 exact aS o (.cell 0 .here o o o aa BD) (λ_ _ g=>g) (λ_ _ _=>List.nil_sublist _)
theorem vX(c r)(h:nJ c=some r):bm PP 110 [ti c] (tb r):=by
 unfold nJ at h
 refine enter Tryz.func110 o 9 o o λF=>?_
 refine zU 1 o<|zz<|q 3 [(0,ti c),(5,tb (decide (c≥0)))] [] o ?_
 obtain⟨f,e,h⟩:=al h;rw[e]
 refine aM 3 [(8,tb (f&&(decide (c≤1152921504606846976))))] [] (?_) ?_
 ·clear h
  cases f
  ·exact zA o<|ap () o o
  exact zA o<|ap () o o
 refine zE o ?_
 cases h
 exact ax o (.tmp o)
theorem wA(c r)(h:mB c=some r):bm PP 63 [.one Y40 c] (.tup [⟨Y30,r.1⟩,⟨(.int .i64),r.2⟩]):=by
 unfold mB at h
 refine enter Tryz.func63 o 50 o o λF=>?_
 refine zu<|bA o o λf=>aC (t:=Y30) o fO o λu=>zA o<|zs<|zU 1 o<|yl 1 f0 ty3 o o o tr o<|q 2 [(1,ptr f 0),(2,ptr u 0),(7,tb (decide (c.1<0)))] [] o ?_
 obtain⟨V,e,h⟩:=al h;rw[e]
 refine aM 4 [(1,ptr f 0),(2,ptr u 0),(11,tb (V||(decide (c.1>1))))] [Res.var u 30 Y30 (0,0,0,0,[],[],0,0,0,(0,0,()),(0,0,()),(0,0,()),false,(List.replicate 2 (z32:List (Int))),z32,[],0,0,()),Res.var f 40 Y40 c] (?_) ?_
 ·clear h
  cases V
  ·refine zm 1 o<|am dl o ?_
   exact yl 1 f0 ty3 o o o tr o<|zA o<|ap () o o
  exact zA o<|ap () o o
 refine q 1 [(1,ptr f 0),(2,ptr u 0),(12,tb (V||(decide (c.1>1))))] [] o ?_
 obtain⟨R,e,h⟩:=al h;rw[e]
 refine aM 4 [(1,ptr f 0),(2,ptr u 0),(16,tb (R||(decide (c.2.1<1))))] [Res.var u 30 Y30 (0,0,0,0,[],[],0,0,0,(0,0,()),(0,0,()),(0,0,()),false,(List.replicate 2 (z32:List (Int))),z32,[],0,0,()),Res.var f 40 Y40 c] (?_) ?_
 ·clear h
  cases R
  ·refine zm 1 o<|am dl o ?_
   exact yl 1 f1 ty2 o o o tr o<|zA o<|ap () o o
  exact zA o<|ap () o o
 refine q 1 [(1,ptr f 0),(2,ptr u 0),(17,tb (R||(decide (c.2.1<1))))] [] o ?_
 obtain⟨C,e,h⟩:=al h;rw[e]
 refine bQ h 5 (λM=>[(1,ptr f 0),(2,ptr u 0),(22,tb M)]) (λ_=>[Res.var u 30 Y30 (0,0,0,0,[],[],0,0,0,(0,0,()),(0,0,()),(0,0,()),false,(List.replicate 2 (z32:List (Int))),z32,[],0,0,()),Res.var f 40 Y40 c]) (λN h=>?_) λM h=>?_
 ·cases C
  ·replace h:=ifF h
   refine zm 1 o<|am dl o ?_
   refine yl 1 f1 ty2 o o o tr o<|am dl o ?_
   exact cB h λH G h=>ar (vX _ _ G) kr o o<|zN o<|zt<|ai (!H) () h o o
  replace h:=ifT h
  exact zN o<|zt<|ai true () h o o
 refine q 1 [(1,ptr f 0),(2,ptr u 0),(23,tb M)] [] o<|aM 4 [(1,ptr f 0),(2,ptr u 0),(27,tb (M||(decide (c.2.2.1<0))))] [Res.var u 30 Y30 (0,0,0,0,[],[],0,0,0,(0,0,()),(0,0,()),(0,0,()),false,(List.replicate 2 (z32:List (Int))),z32,[],0,0,()),Res.var f 40 Y40 c] (?_) ?_
 ·clear h
  cases M
  ·refine zm 1 o<|am dl o ?_
   exact yl 1 f2 ty2 o o o tr o<|zA o<|ap () o o
  exact zA o<|ap () o o
 refine q 1 [(1,ptr f 0),(2,ptr u 0),(28,tb (M||(decide (c.2.2.1<0))))] [] o ?_
 obtain⟨W,e,h⟩:=al h;rw[e]
 refine aM 6 [(1,ptr f 0),(2,ptr u 0),(34,tb (W||(decide (c.2.2.1>c.2.1))))] [Res.var u 30 Y30 (0,0,0,0,[],[],0,0,0,(0,0,()),(0,0,()),(0,0,()),false,(List.replicate 2 (z32:List (Int))),z32,[],0,0,()),Res.var f 40 Y40 c] (?_) ?_
 ·clear h
  cases W
  ·refine zm 1 o<|am dl o ?_
   refine yl 1 f2 ty2 o o o tr o<|zm 1 o<|am dl o ?_
   exact yl 1 f1 ty2 o o o tr o<|zA o<|ap () o o
  exact zA o<|ap () o o
 refine za<|rI h o (λhc h=>?_) λhc h=>?_
 ·refine zu<|y (aY o fO o o .nil) o ?_
  refine st 0 .here bE o o o o tr<|zE o<|zT ?_
  cases h
  exact aE (rs:=[.cell 2 30,.tmp 3]) o (.cons (.cell 0 .here o o o aa bE) (.cons (.tmp o) (.nil))) o (λ_ vs g=>aI vs g) (λ_ _ _=>List.nil_sublist _)
 refine zy<|zm 1 o<|yl 1 f0 ty3 o o o tr o<|zm 1 o<|yl 1 f1 ty2 o o o tr o<|zm 1 o<|yl 1 f2 ty2 o o o tr o<|zm 1 o<|yl 1 f1 ty2 o o o tr o<|zm 1 o<|yl 1 f2 ty2 o o o tr o<|zm 2 o<|yl 1 f6 y4 o o o tr o<|y (aY o fO o o (.cons f0 o o aa (.cons f1 o o aa (.cons f2 o o aa (.cons f3 o o aa (.cons f13 o o aa (.cons f17 o o aa .nil))))))) o ?_
 refine st 0 .here bE o o o o tr<|zE o ?_
 cases h
 exact aE (rs:=[.cell 2 30,.tmp 3]) o (.cons (.cell 0 .here o o o aa bE) (.cons (.tmp o) (.nil))) o (λ_ vs g=>aI vs g) (λ_ _ _=>List.nil_sublist _)
theorem qB(c r)(h:nK c=some r):bm PP 133 [ts c] (tb r):=by
 unfold nK at h
 refine enter Tryz.func133 o 27 o o λF=>?_
 refine zu<|q 1 [(0,ts c)] [] o<|za<|bv h (λu=>[(0,ts c)]) (λu=>[]) (λW h=>?_) λu h=>?_
 ·refine zW o<|zb<|ah [0,5,6] o<|bg (γ:=Unit) (λ(f:Int) _=>[(0,ts c),(5,ti (List.length c:Int)),(6,ti f)]) (λ(f:Int) _=>[]) (lz c W) 0 () h o o ?_
  clear h
  intro M f gg h
  cases M with
  |zero=>cases h
  |succ M=>
  simp only[lz]at h
  refine zW o<|zs<|rI h o (λhc h=>?_) λhc h=>?_
  ·refine zk<|zt<|zs<|zb<|zU 2 o<|zZ 2 o<|iE h λhc h=>y (gq ag o o hc.1 hc.2 o) o ?_
   refine q 2 [(3,ti f),(5,ti (List.length c:Int)),(6,ti f),(13,tb (decide ((List.getD c (Int.toNat f) 0)<33)))] [0] o ?_
   obtain⟨C,e,h⟩:=al h;rw[e]
   refine bQ h 5 (λV=>[(0,ts c),(5,ti (List.length c:Int)),(6,ti f),(18,tb V)]) (λ_=>[]) (λH h=>?_) λV h=>?_
   ·cases C
    ·replace h:=ifF h
     refine zm 2 o<|am dl o ?_
     refine iE h λhc h=>y (gq ag o o hc.1 hc.2 o) o ?_
     exact zN o<|zt<|ai (decide ((List.getD c (Int.toNat f) 0)>126)) () h o o
    replace h:=ifT h
    exact zN o<|zt<|ai true () h o o
   exact za<|rI h o (λhc h=>zU 1 o<|zf<|zB<|zT<|zT<|zB<|zT<|by cases h;exact ax o (.tmp o)) λhc h=>zk<|zi<|zt<|zr<|zA o<|aX (wrap .i64 (f+1)) () (Nat.lt_succ_self _) h o o
  exact zx<|ze<|ze<|zq<|zt<|ai () () h o o
 refine zu<|q 3 [(0,ts c),(22,tb (c !=[]))] [] o ?_
 obtain⟨R,e,h⟩:=al h;rw[e]
 refine aM 4 [(26,tb (R&&(decide ((List.length c:Int)≤28))))] [] (?_) ?_
 ·clear h
  cases R
  ·exact zA o<|ap () o o
  exact zA o<|ap () o o
 refine zE o ?_
 cases h
 exact ax o (.tmp o)
theorem gj(R:Nat)(V:Value)(f M r)(h:cz f M=some r):Fn PP 161 [ptr R 0,ts M] [Res.var R 123 DT (cy f V f.2.2.2.2.2.2 ()),Res.dfiles PP dI V f.2.1] (λv=> .tup [⟨.raw NV,au v 0⟩,⟨(.int .i64),r⟩]) (λv=>[Res.var R 123 DT (cy f V f.2.2.2.2.2.2 ()),Res.dfound PP dI V f.2.1 M (au v 0) r]):=by
 unfold cz at h
 refine enter Tryz.func161 o 24 o o λF=>?_
 refine zW o<|zs<|zU 3 o<|yl 0 f5 ty4 o o o tr o<|za<|rI h o (λhc h=>zU 2 o<|zf<|zT<|pk [1,0] o<|vC (name:=M) (q:=NV) (e:=9) (by decide)<|pk [1,0] o<|by cases h;exact aE (rs:=[.tmp 4,.tmp 5]) o (.cons (.tmp o) (.cons (.tmp o) .nil)) o (λ_ vs g=>by cases g with|cons c g=>cases g with|cons u g=>cases g;exact⟨_,o,.cons (bf c) (.cons u .nil)⟩) (λ_ vs g=>by cases g with|cons c g=>cases g with|cons u g=>cases g;rw[bP c];exact(.cons_cons _ (.cons_cons _ .slnil)))) λhc h=>zy<|zm 3 o<|yl 0 f1 mX o o o tr o<|zm 1 o<|pk [1,0] o<|As dW o o Tryz.underlying121 zNV o λW=>?_
 refine q 5 [(6,tp W),(7,tb (Option.isSome (aA .str M f.2.1)))] [] o ?_
 obtain⟨C,e,h⟩:=al h;rw[e]
 refine za<|zs<|zW o<|rI h o (λhc h=>zU 2 o<|zf<|zT<|aw (R':=Res.dfiles PP dI V f.2.1) 0 o cp<|vC (name:=M) (q:=NV) (e:=5) (by decide)<|pk [1,0] o<|by cases h;exact aE (rs:=[.tmp 4,.tmp 5]) o (.cons (.tmp o) (.cons (.tmp o) .nil)) o (λ_ vs g=>by cases g with|cons c g=>cases g with|cons u g=>cases g;exact⟨_,o,.cons (bf c) (.cons u .nil)⟩) (λ_ vs g=>by cases g with|cons c g=>cases g with|cons u g=>cases g;rw[bP c];exact(.cons_cons _ (.cons_cons _ .slnil)))) λhc h=>zy<|zE o<|Cb<|pk [1,0] o ?_
 cases h
 exact aE (rs:=[.tmp 4,.tmp 5]) o (.cons (.tmp o) (.cons (.tmp o) .nil)) o (λ_ vs g=>by cases g with|cons c g=>cases g with|cons u g=>cases g;exact⟨_,o,.cons (bf c) (.cons u .nil)⟩) (λ_ vs g=>by cases g with|cons c g=>cases g with|cons u g=>cases g;rw[bP c];exact(.cons_cons _ (.cons_cons _ .slnil)))
theorem iN(H:Value)(c W u V r)(h:kh c W u V=some r):Fn PP 122 [tp H,ts W,ti u,ti V] [Res.disk PP dI H c] (λ_=> .tup [⟨.str,r.1⟩,⟨(.int .i64),r.2⟩]) (λ_=>[Res.disk PP dI H c]):=by
 unfold kh at h
 refine enter Tryz.func122 o 48 o o λF=>?_
 refine gT λN M hp=>?_
 subst hp
 refine zU 2 o<|zZ 2 o<|cB h λd m h=>gp (Lo:=[]) (gj N M c W _ m) kr (List.Perm.refl _) o o λC=>?_
 refine zA o<|zs<|zW o<|rI h o (λhc h=>zU 3 o<|zf<|zT<|aw (R':=Res.dfiles PP dI M c.2.1) 1 o fp<|ct (P:=PP) (I:=dI) (D:=c)<|by cases h;exact aE (rs:=[.tmp 8,.tmp 9]) o (.cons (.tmp o) (.cons (.tmp o) (.nil))) o (λ_ vs g=>aI vs g) (λ_ _ _=>(.cons_cons _ .slnil))) λhc h=>zk<|zt<|zs<|zu<|q 3 [(2,ti u),(3,ti V),(10,tp (au C 0)),(24,tb (decide (u<0)))] [] o ?_
 obtain⟨J,e,h⟩:=al h;rw[e]
 refine aM 3 [(2,ti u),(3,ti V),(10,tp (au C 0)),(27,tb (J||(decide (V<0))))] [Res.var N 123 DT (cy c M c.2.2.2.2.2.2 ()),Res.dfound PP dI M c.2.1 W (au C 0) d] (?_) ?_
 ·clear h
  cases J
  ·exact zA o<|ap () o o
  exact zA o<|ap () o o
 refine za<|rI h o (λhc h=>zU 2 o<|zf<|zT<|aw (R':=Res.dfiles PP dI M c.2.1) 1 o fp<|ct (P:=PP) (I:=dI) (D:=c)<|by cases h;exact aE (rs:=[.tmp 8,.tmp 9]) o (.cons (.tmp o) (.cons (.tmp o) (.nil))) o (λ_ vs g=>aI vs g) (λ_ _ _=>(.cons_cons _ .slnil))) λhc h=>zk<|zt<|zs<|zs<|iE h λhc h=>aw (R':=Res.dat PP dI M c.2.1 W (au C 0)) 1 o (nC hc)<|cB h λf6 G h=>pk [1,0] o<|iB dW G λO w Z a4 hq=>?_
 rw[hq]
 clear hq
 refine zr<|zm 4 o<|yl 0 f0 tx0 o o o tr o<|y (bW ag 1 o o o) o ?_
 refine zA o<|rI h o (λhc h=>?_) λhc h=>?_
 ·refine zU 2 o<|zf<|zT<|jC (P:=PP) (I:=dI) dW G ?_
  refine aw (R':=Res.dfiles PP dI M c.2.1) 0 o cp<|pk [1,0] o<|ct (P:=PP) (I:=dI) (D:=c) ?_
  cases h
  exact aE (rs:=[.tmp 8,.tmp 9]) o (.cons (.tmp o) (.cons (.tmp o) (.nil))) o (λ_ vs g=>aI vs g) (λ_ _ _=>(.cons_cons _ .slnil))
 refine zy<|zm 3 o<|yl 0 f0 tx0 o o o tr o<|zm 1 o ?_
 obtain⟨f,h⟩:=cj h
 refine y (kb ag (i:=u) (j:=(List.length f6.1:Int)) o (eM 1 o) o o f.1 f.2.1 f.2.2 o ty5) o ?_
 refine zm 1 o<|zZ 3 o<|y (Dh ag o (oe (eM 1 o) f.1 f.2.1 f.2.2) o) o ?_
 refine y (vy o o) o ?_
 obtain⟨R,h⟩:=cj h
 refine y (kb ag (i:=(0:Int)) (j:=(min V (List.length (List.drop (Int.toNat u) (List.take (Int.toNat (List.length f6.1:Int)) f6.1)):Int))) o (oe (eM 1 o) f.1 f.2.1 f.2.2) o o R.1 R.2.1 R.2.2 o ty5) o ?_
 refine y (B9 ag o (oe (oe (eM 1 o) f.1 f.2.1 f.2.2) R.1 R.2.1 R.2.2) o o o) o ?_
 refine q 1 [(8,ts (List.take (Int.toNat (min V (List.length (List.drop (Int.toNat u) (List.take (Int.toNat (List.length f6.1:Int)) f6.1)):Int))) (List.drop (Int.toNat u) (List.take (Int.toNat (List.length f6.1:Int)) f6.1))))] [] o ?_
 obtain⟨a5,e,h⟩:=al h;rw[e]
 refine zE o<|jC (P:=PP) (I:=dI) dW G ?_
 refine aw (R':=Res.dfiles PP dI M c.2.1) 0 o cp<|pk [1,0] o<|ct (P:=PP) (I:=dI) (D:=c) ?_
 cases h
 exact aE (rs:=[.tmp 8,.tmp 9]) o (.cons (.tmp o) (.cons (.tmp o) (.nil))) o (λ_ vs g=>aI vs g) (λ_ _ _=>(.cons_cons _ .slnil))
theorem s9(c r)(h:pB c=some r):bm PP 178 [.one (.int .u32) c] (ts r):=by
 unfold pB at h
 refine enter Tryz.func178 o 16 o o λF=>?_
 refine zU 1 o<|zZ 11 o<|bu (B:=1) ag o el5 o o o (.cons o (.cons o (.cons o (.cons o .nil)))) o λf=>?_
 refine y (vx ag 0 o o o o o) o ?_
 refine q 1 [(2,ts [(wrap .u8 (bS .u32 c 24)),(wrap .u8 (bS .u32 c 16)),(wrap .u8 (bS .u32 c 8)),(wrap .u8 c)])] [] o ?_
 obtain⟨u,e,h⟩:=al h;rw[e]
 refine zf ?_
 cases h
 exact ax o (.tmp o)
theorem y7(u f r)(h:tQ u f=some r):bm PP 208 [.one (.int .u32) u,ti f] (.one (.int .u32) r):=by
 unfold tQ at h
 refine enter Tryz.func208 o 19 o o λF=>?_
 refine zu<|q 1 [(0,.one (.int .u32) u),(1,ti f)] [] o<|za<|bv h (λV=>[(0,.one (.int .u32) V)]) (λV=>[]) (λW h=>?_) λV h=>?_
 ·refine zW o<|zb<|ah [0,6,7] o<|bg (γ:=Unit) (λ(c:Int×Int) _=>[(0,.one (.int .u32) c.1),(6,ti f),(7,ti c.2)]) (λ(c:Int×Int) _=>[]) (nM f W) (u,0) () h o o ?_
  clear h
  intro R c gg h
  cases R with
  |zero=>cases h
  |succ R=>
  simp only[nM]at h
  refine zW o<|zs<|rI h o (λhc h=>?_) λhc h=>?_
  ·refine zk<|zt<|bv h (λM=>[(0,.one (.int .u32) M),(6,ti f),(7,ti c.2)]) (λM=>[]) (λN h=>?_) λM h=>?_
   ·refine zb<|zu<|q 3 [(0,.one (.int .u32) c.1),(5,.one (.int .u32) (dV .u32 c.1 1)),(6,ti f),(7,ti c.2)] [] o ?_
    obtain⟨C,e,h⟩:=al h;rw[e]
    refine zz<|q 3 [(0,.one (.int .u32) (bS .u32 c.1 1)),(5,.one (.int .u32) C)] [6,7] o ?_
    obtain⟨H,e,h⟩:=al h;rw[e]
    refine zz<|zA o<|rI h o (λhc h=>?_) λhc h=>?_
    ·refine zr<|p 3 [0,6,7] o ?_
     obtain⟨G,e,h⟩:=al h;rw[e]
     exact zn<|zi<|zt<|ai G () h o o
    exact zk<|zi<|zt<|ai H () h o o
   exact zr<|zA o<|aX (M,(wrap .i64 (c.2+1))) () (Nat.lt_succ_self _) h o o
  exact zx<|ze<|ze<|zq<|zt<|ai c.1 () h o o
 refine zU 2 o<|zf ?_
 cases h
 exact ax o (.tmp o)
theorem xh(r)(h:pC=some r):bm PP 190 [] (.one W64 r):=by
 unfold pC at h
 refine enter Tryz.func190 o 13 o o λF=>?_
 refine zu<|aC (t:=W64) o BF o λf=>zz<|aC (t:=W64) o BF o λu=>za<|bv h (λM=>[(0,ptr f 0),(1,ptr u 0)]) (λM=>[Res.var u 287 W64 M,Res.var f 287 W64 (List.replicate 16 (0:Int))]) (λR h=>?_) λM h=>?_
 ·refine zW o<|zb<|ah [0,1,3] o<|bg (γ:=Unit) (λ(c:Int×List (Int)) _=>[(0,ptr f 0),(1,ptr u 0),(3,ti c.1)]) (λ(c:Int×List (Int)) _=>[Res.var u 287 W64 c.2,Res.var f 287 W64 (List.replicate 16 (0:Int))]) (mP R) (0,(List.replicate 16 (0:Int))) () h o o ?_
  clear h
  intro V c gg h
  cases V with
  |zero=>cases h
  |succ V=>
  simp only[mP]at h
  refine zW o<|zs<|rI h o (λhc h=>?_) λhc h=>?_
  ·refine zk<|zt<|zs<|zb<|zW o<|zr<|zm 3 o<|cB h λW C h=>ar (y7 _ _ _ C) kr o o<|iE h λhc h=>y (bY o o hc.1 hc.2 BH cv) o ?_
   exact kV 0 (.elem (Int.toNat c.1) .here) o o o pof (av pix aa) cv<|zn<|zi<|zt<|zr<|zA o<|aX ((wrap .i64 (c.1+1)),(List.set c.2 (Int.toNat c.1) W)) () (Nat.lt_succ_self _) h o o
  exact zx<|ze<|ze<|zq<|zt<|ai c.2 () h o o
 refine zu<|yl 0 .here xE o o o tr o<|st 1 .here xE o o o o tr<|zf ?_
 cases h
 exact aS o (.cell 1 .here o o o aa xE) (λ_ _ g=>g) (λ_ _ _=>List.nil_sublist _)
theorem tV(V f r)(h:nN V f=some r):bm PP 174 [.one (.int .u32) V,ts f] (.one (.int .u32) r):=by
 unfold nN at h
 refine enter Tryz.func174 o 39 o o λF=>?_
 refine zU 1 o<|zz<|cB h λu G h=>ar (xh _ G) kr o o<|aC (t:=W64) o BF o λM=>st 0 .here xE o o o o tr<|zz<|q 3 [(1,ts f),(5,ptr M 0),(6,.one (.int .u32) (qG .u32 V))] [] o ?_
 obtain⟨N,e,h⟩:=al h;rw[e]
 refine za<|bv h (λR=>[(6,.one (.int .u32) R)]) (λR=>[Res.var M 287 W64 u]) (λJ h=>?_) λR h=>?_
 ·refine zW o<|zb<|ah [1,5,6,12,13] o<|bg (γ:=Unit) (λ(c:Int×Int) _=>[(1,ts f),(5,ptr M 0),(6,.one (.int .u32) c.1),(12,ti (List.length f:Int)),(13,ti c.2)]) (λ(c:Int×Int) _=>[Res.var M 287 W64 u]) (lI f u J) (N,0) () h o o ?_
  clear h
  intro H c gg h
  cases H with
  |zero=>cases h
  |succ H=>
  simp only[lI]at h
  refine zW o<|zs<|rI h o (λhc h=>?_) λhc h=>?_
  ·refine zk<|zt<|zs<|zb<|zU 2 o<|zZ 3 o<|iE h λhc h=>y (gq ag o o hc.1 hc.2 o) o ?_
   refine q 3 [(6,.one (.int .u32) (cO .u32 c.1 (wrap .u32 (List.getD f (Int.toNat c.2) 0)))),(12,ti (List.length f:Int)),(13,ti c.2)] [1,5] o ?_
   obtain⟨W,e,h⟩:=al h;rw[e]
   refine zZ 4 o<|iE h λhc h=>y (bY o o hc.1 hc.2 BH cv) o ?_
   refine y (aL 0 (.elem (Int.toNat (dV .u32 W 15)) .here) o o pof (av (by omega) aa) cv) o ?_
   refine q 2 [(6,.one (.int .u32) (cO .u32 (bS .u32 W 4) (List.getD u (Int.toNat (dV .u32 W 15)) 0)))] [1,5,12,13] o ?_
   obtain⟨C,e,h⟩:=al h;rw[e]
   refine za<|zr<|zm 4 o<|iE h λhc h=>y (bY o o hc.1 hc.2 BH cv) o ?_
   refine y (aL 0 (.elem (Int.toNat (dV .u32 C 15)) .here) o o pof (av (by omega) aa) cv) o ?_
   refine q 2 [(6,.one (.int .u32) (cO .u32 (bS .u32 C 4) (List.getD u (Int.toNat (dV .u32 C 15)) 0)))] [1,5,12,13] o ?_
   obtain⟨d,e,h⟩:=al h;rw[e]
   exact zn<|zi<|zt<|zr<|zA o<|aX (d,(wrap .i64 (c.2+1))) () (Nat.lt_succ_self _) h o o
  exact zx<|ze<|ze<|zq<|zt<|ai c.1 () h o o
 refine zU 3 o<|zf ?_
 cases h
 exact ax o (.tmp o)
theorem sN(c r)(h:nl c=some r):bm PP 175 [ts c] (.one (.int .u32) r):=by
 unfold nl at h
 refine enter Tryz.func175 o 5 o o λF=>?_
 refine zU 1 o<|zZ 1 o<|cB h λu f h=>ar (tV _ _ _ f) kr o o<|zE o ?_
 cases h
 exact ax o (.tmp o)
theorem rE(c r)(h:oP c=some r):bm PP 135 [ts c] (ts r):=by
 unfold oP at h
 refine enter Tryz.func135 o 17 o o λF=>?_
 refine zU 1 o<|zZ 3 o<|cB h λR f h=>ar (s9 _ _ f) kr o o<|zm 1 o<|zZ 2 o<|cB h λW u h=>ar (sN _ _ u) kr o o<|zm 1 o<|cB h λC M h=>ar (tV _ _ _ M) kr o o<|cB h λH V h=>ar (s9 _ _ V) kr o o<|iE h λhc h=>?_
 refine y (jN o o hc) o ?_
 refine zm 1 o<|iE h λhc h=>y (jN o o hc) o ?_
 refine zE o ?_
 cases h
 exact ax o (.tmp o)
theorem xj(f:Value)(u V r)(h:pD u V=some r):Fn PP 111 [tp f,ts V] [Res.disk PP dI f u] (λ_=> .tup [⟨.str,r.1⟩,⟨(.int .i64),r.2⟩]) (λ_=>[Res.disk PP dI f u]):=by
 unfold pD at h
 refine enter Tryz.func111 o 38 o o λF=>?_
 refine zW o<|zs<|zU 1 o<|cB h λJ W h=>ar (qB _ _ W) kr o o<|zA o<|rI h o (λhc h=>zU 2 o<|zf<|zT<|by cases h;exact aE (rs:=[.tmp 4,.tmp 5]) o (.cons (.tmp o) (.cons (.tmp o) (.nil))) o (λ_ vs g=>aI vs g) (λ_ _ _=>(.cons_cons _ .slnil))) λhc h=>zy<|zm 2 o<|cB h λc C h=>rc [0] (iN _ _ _ _ _ _ C) kr o o o λ_=>zA o<|zs<|zW o ?_
 refine rI h o (λhc h=>zU 3 o<|zf<|zT<|by cases h;exact aE (rs:=[.tmp 4,.tmp 5]) o (.cons (.tmp o) (.cons (.tmp o) (.nil))) o (λ_ vs g=>aI vs g) (λ_ _ _=>(.cons_cons _ .slnil))) λhc h=>zk<|zt<|zs<|zu<|q 4 [(6,ts c.1),(23,tb (decide ((List.length c.1:Int)<8)))] [] o ?_
 obtain⟨M,e,h⟩:=al h;rw[e]
 refine aM 5 [(6,ts c.1),(28,tb (M||(decide ((wrap .i64 ((List.length c.1:Int) - 8))>1048448))))] [Res.disk PP dI f u] (?_) ?_
 ·clear h
  cases M
  ·exact zA o<|ap () o o
  exact zA o<|ap () o o
 refine q 1 [(6,ts c.1),(29,tb (M||(decide ((wrap .i64 ((List.length c.1:Int) - 8))>1048448))))] [] o ?_
 obtain⟨H,e,h⟩:=al h;rw[e]
 refine bQ h 6 (λR=>[(6,ts c.1),(35,tb R)]) (λ_=>[Res.disk PP dI f u]) (λd h=>?_) λR h=>?_
 ·cases H
  ·replace h:=ifF h
   refine zm 1 o<|am dl o ?_
   refine iE h λhc h=>y (jB (i:=8) (j:=(List.length c.1:Int)) ag o o o hc.1 hc.2.1 hc.2.2 o) o ?_
   refine am dl o ?_
   exact cB h λG N h=>ar (rE _ _ N) kr o o<|zN o<|zt<|ai (G !=c.1) () h o o
  replace h:=ifT h
  exact zN o<|zt<|ai true () h o o
 refine za<|rI h o (λhc h=>zU 2 o<|zf<|zT<|by cases h;exact aE (rs:=[.tmp 4,.tmp 5]) o (.cons (.tmp o) (.cons (.tmp o) (.nil))) o (λ_ vs g=>aI vs g) (λ_ _ _=>(.cons_cons _ .slnil))) λhc h=>zy<|zm 1 o<|iE h λhc h=>y (jB (i:=8) (j:=(List.length c.1:Int)) ag o o o hc.1 hc.2.1 hc.2.2 o) o ?_
 refine zE o ?_
 cases h
 exact aE (rs:=[.tmp 4,.tmp 5]) o (.cons (.tmp o) (.cons (.tmp o) (.nil))) o (λ_ vs g=>aI vs g) (λ_ _ _=>(.cons_cons _ .slnil))
theorem hY(c r)(h:ib c=some r):Fn PP 44 [ts c] [] (λv=>tp v) (λv=>[Res.cls dK v r]):=by
 unfold ib at h
 refine enter Tryz.func44 o 6 o o λF=>?_
 refine zU 1 o<|zZ 1 o<|y (aY o G7 o o (.cons f0 o o aa .nil)) o ?_
 refine bA o o λf=>zE o<|eT (x:=(c,0,())) ?_
 cases h
 exact aS o (.tmp o) (λ_ _ g=>holds_raw.2 ⟨rfl,by rw[(holds_raw.1 g).1];exact(holds_raw.1 g).2⟩) (λ_ _ g=>by obtain⟨rfl,_⟩:=holds_raw.1 g;exact(.cons_cons _ .slnil))
theorem me(c:Nat)(f u r)(h:iT f u=some r):Fn PP 145 [ptr c 0,ti u] [Res.var c 171 W57 f] (λ_=> .tup []) (λ_=>[Res.var c 171 W57 r]):=by
 unfold iT at h
 refine enter Tryz.func145 o 11 o o λF=>?_
 refine zr<|zm 5 o<|st 0 f0 ty9 o o o o tr<|zm 2 o<|st 0 f1 fk o o o o tr<|nL o<|zn ?_
 cases h
 exact et o (λ_=>aI [] .nil) ((.cons_cons _ .slnil))
theorem eh(f:Nat)(u c r)(h:dN u c=some r):Fn PP 100 [ptr f 0,ti c] [Res.var f 171 W57 u] (λ_=>ts r.1) (λ_=>[Res.var f 171 W57 r.2]):=by
 unfold dN at h
 refine enter Tryz.func100 o 36 o o λF=>?_
 refine zW o<|zs<|zU 3 o<|yl 0 f1 fk o o o tr o<|zA o<|rI h o (λhc h=>zU 1 o<|zf<|zT<|by cases h;exact aS o (.tmp o) (λ_ _ g=>g) (λ_ _ _=>(.cons_cons _ .slnil))) λhc h=>zk<|zt<|zs<|zU 3 o<|yl 0 f0 ty9 o o o tr o<|zA o<|rI h o (λhc h=>zU 1 o<|cB h λV M h=>rc [0] (me _ _ _ _ M) kr o o o λ_=>zz<|zE o<|zT<|by cases h;exact aS o (.tmp o) (λ_ _ g=>g) (λ_ _ _=>(.cons_cons _ .slnil))) λhc h=>?_
 refine zy<|zm 3 o<|yl 0 f0 ty9 o o o tr o<|zm 1 o<|iE h λhc h=>y (jB (i:=(0:Int)) (j:=c) ag o o o hc.1 hc.2.1 hc.2.2 o) o ?_
 refine q 1 [(0,ptr f 0),(1,ti c),(5,ts (List.drop 0 (List.take (Int.toNat c) u.1)))] [] o ?_
 obtain⟨R,e,h⟩:=al h;rw[e]
 refine zZ 4 o<|yl 0 f0 ty9 o o o tr o<|zm 1 o<|iE h λhc h=>y (jB (i:=c) (j:=(List.length u.1:Int)) ag o o o hc.1 hc.2.1 hc.2.2 o) o ?_
 refine zm 2 o<|st 0 f0 ty9 o o o o tr<|zz<|zE o ?_
 cases h
 exact bc o (.tmp o) (.cons_cons _ .slnil)
theorem qS(f r)(h:lf f=some r):bm PP 99 [ts f] (.one (.int .u64) r):=by
 unfold lf at h
 refine enter Tryz.func99 o 19 o o λF=>?_
 refine zU 1 o<|zz<|q 1 [(0,ts f),(3,.one (.int .u64) 0)] [] o<|za<|bv h (λu=>[(3,.one (.int .u64) u)]) (λu=>[]) (λV h=>?_) λu h=>?_
 ·refine zW o<|zb<|ah [0,3,6,7] o<|bg (γ:=Unit) (λ(c:Int×Int) _=>[(0,ts f),(3,.one (.int .u64) c.1),(6,ti (List.length f:Int)),(7,ti c.2)]) (λ(c:Int×Int) _=>[]) (ic f V) (0,0) () h o o ?_
  clear h
  intro M c gg h
  cases M with
  |zero=>cases h
  |succ M=>
  simp only[ic]at h
  refine zW o<|zs<|rI h o (λhc h=>?_) λhc h=>?_
  ·refine zk<|zt<|zs<|zb<|zW o<|zr<|zm 4 o<|iE h λhc h=>y (gq ag o o hc.1 hc.2 o) o ?_
   refine q 3 [(3,.one (.int .u64) (ior .u64 (kA .u64 c.1 8) (wrap .u64 (List.getD f (Int.toNat c.2) 0)))),(6,ti (List.length f:Int)),(7,ti c.2)] [0] o ?_
   obtain⟨R,e,h⟩:=al h;rw[e]
   exact zn<|zi<|zt<|zr<|zA o<|aX (R,(wrap .i64 (c.2+1))) () (Nat.lt_succ_self _) h o o
  exact zx<|ze<|ze<|zq<|zt<|ai c.1 () h o o
 refine zU 2 o<|zf ?_
 cases h
 exact ax o (.tmp o)
theorem bJ(c:Nat)(f r)(h:bR f=some r):Fn PP 45 [ptr c 0] [Res.var c 171 W57 f] (λ_=>ti r.1) (λ_=>[Res.var c 171 W57 r.2]):=by
 unfold bR at h
 refine enter Tryz.func45 o 7 o o λF=>?_
 refine zU 1 o<|zZ 1 o<|cB h λV u h=>rc [0] (eh _ _ _ _ u) kr o o o λ_=>cB h λR M h=>ar (qS _ _ M) kr o o<|zE o ?_
 cases h
 exact bc o (.tmp o) (.cons_cons _ .slnil)
theorem rF(f r)(h:lJ f=some r):bm PP 101 [ts f] (.one (.int .u8) r):=by
 unfold lJ at h
 refine enter Tryz.func101 o 20 o o λF=>?_
 refine zU 1 o<|zz<|q 1 [(0,ts f),(3,.one (.int .u64) 0)] [] o<|za<|bv h (λu=>[(3,.one (.int .u64) u)]) (λu=>[]) (λV h=>?_) λu h=>?_
 ·refine zW o<|zb<|ah [0,3,6,7] o<|bg (γ:=Unit) (λ(c:Int×Int) _=>[(0,ts f),(3,.one (.int .u64) c.1),(6,ti (List.length f:Int)),(7,ti c.2)]) (λ(c:Int×Int) _=>[]) (iv f V) (0,0) () h o o ?_
  clear h
  intro M c gg h
  cases M with
  |zero=>cases h
  |succ M=>
  simp only[iv]at h
  refine zW o<|zs<|rI h o (λhc h=>?_) λhc h=>?_
  ·refine zk<|zt<|zs<|zb<|zW o<|zr<|zm 4 o<|iE h λhc h=>y (gq ag o o hc.1 hc.2 o) o ?_
   refine q 3 [(3,.one (.int .u64) (ior .u64 (kA .u64 c.1 8) (wrap .u64 (List.getD f (Int.toNat c.2) 0)))),(6,ti (List.length f:Int)),(7,ti c.2)] [0] o ?_
   obtain⟨R,e,h⟩:=al h;rw[e]
   exact zn<|zi<|zt<|zr<|zA o<|aX (R,(wrap .i64 (c.2+1))) () (Nat.lt_succ_self _) h o o
  exact zx<|ze<|ze<|zq<|zt<|ai c.1 () h o o
 refine zU 3 o<|zf ?_
 cases h
 exact ax o (.tmp o)
theorem gP(c:Nat)(f r)(h:fS f=some r):Fn PP 46 [ptr c 0] [Res.var c 171 W57 f] (λ_=> .one (.int .u8) r.1) (λ_=>[Res.var c 171 W57 r.2]):=by
 unfold fS at h
 refine enter Tryz.func46 o 6 o o λF=>?_
 refine zU 1 o<|zZ 1 o<|cB h λV u h=>rc [0] (eh _ _ _ _ u) kr o o o λ_=>cB h λR M h=>ar (rF _ _ M) kr o o<|zE o ?_
 cases h
 exact bc o (.tmp o) (.cons_cons _ .slnil)
theorem jM(f r)(h:gJ f=some r):bm PP 148 [ts f] (.one (.int .u16) r):=by
 unfold gJ at h
 refine enter Tryz.func148 o 20 o o λF=>?_
 refine zU 1 o<|zz<|q 1 [(0,ts f),(3,.one (.int .u64) 0)] [] o<|za<|bv h (λu=>[(3,.one (.int .u64) u)]) (λu=>[]) (λV h=>?_) λu h=>?_
 ·refine zW o<|zb<|ah [0,3,6,7] o<|bg (γ:=Unit) (λ(c:Int×Int) _=>[(0,ts f),(3,.one (.int .u64) c.1),(6,ti (List.length f:Int)),(7,ti c.2)]) (λ(c:Int×Int) _=>[]) (ie f V) (0,0) () h o o ?_
  clear h
  intro M c gg h
  cases M with
  |zero=>cases h
  |succ M=>
  simp only[ie]at h
  refine zW o<|zs<|rI h o (λhc h=>?_) λhc h=>?_
  ·refine zk<|zt<|zs<|zb<|zW o<|zr<|zm 4 o<|iE h λhc h=>y (gq ag o o hc.1 hc.2 o) o ?_
   refine q 3 [(3,.one (.int .u64) (ior .u64 (kA .u64 c.1 8) (wrap .u64 (List.getD f (Int.toNat c.2) 0)))),(6,ti (List.length f:Int)),(7,ti c.2)] [0] o ?_
   obtain⟨R,e,h⟩:=al h;rw[e]
   exact zn<|zi<|zt<|zr<|zA o<|aX (R,(wrap .i64 (c.2+1))) () (Nat.lt_succ_self _) h o o
  exact zx<|ze<|ze<|zq<|zt<|ai c.1 () h o o
 refine zU 3 o<|zf ?_
 cases h
 exact ax o (.tmp o)
theorem fA(c:Nat)(f r)(h:eQ f=some r):Fn PP 105 [ptr c 0] [Res.var c 171 W57 f] (λ_=> .one (.int .u16) r.1) (λ_=>[Res.var c 171 W57 r.2]):=by
 unfold eQ at h
 refine enter Tryz.func105 o 6 o o λF=>?_
 refine zU 1 o<|zZ 1 o<|cB h λV u h=>rc [0] (eh _ _ _ _ u) kr o o o λ_=>cB h λR M h=>ar (jM _ _ M) kr o o<|zE o ?_
 cases h
 exact bc o (.tmp o) (.cons_cons _ .slnil)
theorem ei(f:Value)(c r)(h:dO c=some r):Fn PP 48 [tp f] [Res.cls fI f c] (λ_=>ti r.1) (λ_=>[Res.cls fI f r.2]):=by
 unfold dO at h
 refine enter Tryz.func48 o 9 o o λF=>?_
 refine qR λC H hp=>?_
 subst hp
 refine gi (x:=c) ?_
 refine zW o<|zs<|ir λV=>?_
 refine zr<|zm 3 o<|yl 0 f0 gI o o o tr o ?_
 obtain⟨M,h⟩:=cj h
 refine aw (R':=Res.cls dK V c.1.2) 1 o (dM M)<|pk [1,0] o<|eP λR hp=>?_
 rw[hp]
 clear hp
 refine cB h λu W h=>rc [0] (fA _ _ _ W) kr o o o λ_=>zE o<|eT (x:=u.2) ?_
 refine aw (R':=Res.clsif dK (.pointer (some ⟨R,0,none⟩)) u.2 c.1.1) 0 o (cT M)<|nL o<|pk [1,0] o<|gi (x:=((c.1.1,u.2),c.2.1,c.2.2)) ?_
 cases h
 exact bc o (.tmp o) (.cons_cons _ .slnil)
theorem em(c:Nat)(f r)(h:fi f=some r):Fn PP 102 [ptr c 0] [Res.var c 171 W57 f] (λ_=>ts r.1) (λ_=>[Res.var c 171 W57 r.2]):=by
 unfold fi at h
 refine enter Tryz.func102 o 7 o o λF=>?_
 refine zU 1 o<|zZ 3 o<|yl 0 f0 ty9 o o o tr o<|zE o ?_
 cases h
 exact bc o (.tmp o) (.cons_cons _ .slnil)
theorem gB(c:Nat)(f r)(h:fD f=some r):Fn PP 104 [ptr c 0] [Res.var c 171 W57 f] (λ_=>ti r.1) (λ_=>[Res.var c 171 W57 r.2]):=by
 unfold fD at h
 refine enter Tryz.func104 o 7 o o λF=>?_
 refine zU 1 o<|zZ 3 o<|yl 0 f1 fk o o o tr o<|zE o ?_
 cases h
 exact bc o (.tmp o) (.cons_cons _ .slnil)
theorem cS(c:Nat)(f r)(h:cL f=some r):Fn PP 50 [ptr c 0] [Res.var c 171 W57 f] (λ_=> .one W66 r.1) (λ_=>[Res.var c 171 W57 r.2]):=by
 unfold cL at h
 refine enter Tryz.func50 o 9 o o λF=>?_
 refine zu<|aC (t:=W66) o oB o λV=>zz<|aC (t:=W66) o oB o λu=>za<|zs<|dS kr<|ga 0 (.one W62 (.slice (some ⟨u,0,none⟩) 32 32)) o kr (uh o vk o ty5)<|zF 1 [1] kr o o<|af 2 kr o<|cB h λR M h=>rc [2] (eh _ _ _ _ M) kr o o o λ_=>zL [2,3,4,6] o<|af 3 kr o ?_
 refine Cx ag 1 .here o o o aa o o o ty5 o λW=>?_
 refine zL [2,3] o<|aN kr<|zt<|zu<|yl 1 .here bH o o o tr o<|st 2 .here bH o o o o tr<|zf ?_
 cases h
 exact aS o (.cell 2 .here o o o aa bH) (λ_ _ g=>g) (λ_ _ _=>(.cons_cons _ (.cons _ (.cons _ .slnil))))
theorem rG(c:Nat)(f u r)(h:lK f u=some r):Fn PP 146 [ptr c 0,ti u] [Res.var c 171 W57 f] (λ_=>ts r.1) (λ_=>[Res.var c 171 W57 r.2]):=by
 unfold lK at h
 refine enter Tryz.func146 o 39 o o λF=>?_
 refine zu<|q 1 [(0,ptr c 0),(1,ti u)] [] o<|za<|bv h (λM=>[(0,ptr c 0)]) (λM=>[Res.var c 171 W57 M]) (λO h=>?_) λM h=>?_
 ·refine zU 3 o<|yl 0 f1 fk o o o tr o<|q 2 [(11,tb (f.2.1==0))] [0,1] o ?_
  obtain⟨V,e,h⟩:=al h;rw[e]
  refine aM 7 [(0,ptr c 0),(1,ti u),(18,tb (V&&(decide ((List.length f.1:Int)≥2))))] [Res.var c 171 W57 f] (?_) ?_
  ·clear h
   cases V
   ·exact zA o<|ap () o o
   refine zm 3 o<|am dl o ?_
   exact yl 0 f0 ty9 o o o tr o<|zA o<|ap () o o
  refine q 1 [(0,ptr c 0),(1,ti u),(19,tb (V&&(decide ((List.length f.1:Int)≥2))))] [] o ?_
  obtain⟨W,e,h⟩:=al h;rw[e]
  refine bQ h 10 (λR=>[(0,ptr c 0),(29,tb R)]) (λ_=>[Res.var c 171 W57 f]) (λw h=>?_) λR h=>?_
  ·cases W
   ·replace h:=ifF h
    exact zN o<|zt<|ai false () h o o
   replace h:=ifT h
   refine zm 3 o<|am dl o ?_
   refine yl 0 f0 ty9 o o o tr o<|am dl o ?_
   refine iE h λhc h=>y (jB (i:=(0:Int)) (j:=2) ag o o o hc.1 hc.2.1 hc.2.2 o) o ?_
   refine am dl o ?_
   exact cB h λC H h=>ar (jM _ _ H) kr o o<|zN o<|zt<|ai (decide ((wrap .i64 C)>u)) () h o o
  exact za<|rI h o (λhc h=>zr<|zm 1 o<|cB h λG N h=>rc [0] (me _ _ _ _ N) kr o o o λ_=>za<|ai G () h o o) λhc h=>zk<|zt<|ai f () h o o
 refine zU 1 o<|cB h λZ J h=>rc [0] (eh _ _ _ _ J) kr o o o λ_=>cB h λr4 d h=>ar (jM _ _ d) kr o o<|zm 1 o<|zZ 3 o<|cB h λr5 m h=>rc [0] (eh _ _ _ _ m) kr o o o λ_=>zE o ?_
 cases h
 exact bc o (.tmp o) (.cons_cons _ .slnil)
theorem vY(c r)(h:p9 c=some r):bm PP 147 [ti c] (ti r):=by
 unfold p9 at h
 refine enter Tryz.func147 o 6 o o λF=>?_
 refine zW o<|zs<|zW o<|rI h o (λhc h=>zU 1 o<|zf<|zT<|by cases h;exact ax o (.tmp o)) λhc h=>zy<|zE o ?_
 cases h
 exact ax o (.tmp o)
theorem iy(c r)(h:fM c=some r):bm PP 139 [.one Y52 c] (tb r):=by
 unfold fM at h
 refine enter Tryz.func139 o 55 o o λF=>?_
 refine zu<|bA o o λf=>zA o<|zs<|zU 1 o<|yl 0 f1 ty2 o o o tr o<|q 2 [(1,ptr f 0),(6,tb (decide (c.2.1<0)))] [] o ?_
 obtain⟨V,e,h⟩:=al h;rw[e]
 refine aM 4 [(1,ptr f 0),(10,tb (V||(decide (c.2.1≥2048))))] [Res.var f 52 Y52 c] (?_) ?_
 ·clear h
  cases V
  ·refine zm 1 o<|am dl o ?_
   exact yl 0 f1 ty2 o o o tr o<|zA o<|ap () o o
  exact zA o<|ap () o o
 refine za<|rI h o (λhc h=>zU 1 o<|zf<|zT<|by cases h;exact ax o (.tmp o)) λhc h=>zk<|zt<|zs<|zU 1 o<|yl 0 f0 ty3 o o o tr o<|za<|zb<|zW o<|rI h o (λhc h=>?_) λhc h=>?_
 ·refine zU 1 o<|yl 0 f2 ty2 o o o tr o<|q 2 [(1,ptr f 0),(18,tb (decide (c.2.2.1≥1)))] [] o ?_
  obtain⟨u,e,h⟩:=al h;rw[e]
  refine aM 4 [(1,ptr f 0),(22,tb (u&&(decide (c.2.2.1≤1152921504606846976))))] [Res.var f 52 Y52 c] (?_) ?_
  ·clear h
   cases u
   ·exact zA o<|ap () o o
   refine zm 1 o<|am dl o ?_
   exact yl 0 f2 ty2 o o o tr o<|zA o<|ap () o o
  refine q 1 [(1,ptr f 0),(23,tb (u&&(decide (c.2.2.1≤1152921504606846976))))] [] o ?_
  obtain⟨R,e,h⟩:=al h;rw[e]
  refine aM 4 [(27,tb (R&&(c.2.2.2.2.1==[])))] [Res.var f 52 Y52 c] (?_) ?_
  ·clear h
   cases R
   ·exact zA o<|ap () o o
   refine zm 1 o<|am dl o ?_
   exact yl 0 f4 ty9 o o o tr o<|zA o<|ap () o o
  refine zE o<|zB<|zT ?_
  cases h
  exact ax o (.tmp o)
 refine zW o<|rI h o (λhc h=>?_) λhc h=>?_
 ·refine zU 1 o<|yl 0 f2 ty2 o o o tr o<|q 2 [(1,ptr f 0),(33,tb (c.2.2.1==0))] [] o ?_
  obtain⟨W,e,h⟩:=al h;rw[e]
  refine aM 4 [(37,tb (W&&(c.2.2.2.2.1==[])))] [Res.var f 52 Y52 c] (?_) ?_
  ·clear h
   cases W
   ·exact zA o<|ap () o o
   refine zm 1 o<|am dl o ?_
   exact yl 0 f4 ty9 o o o tr o<|zA o<|ap () o o
  refine zE o<|zB<|zT ?_
  cases h
  exact ax o (.tmp o)
 refine zW o<|rI h o (λhc h=>?_) λhc h=>?_
 ·refine zU 1 o<|yl 0 f2 ty2 o o o tr o<|q 2 [(1,ptr f 0),(43,tb (c.2.2.1==0))] [] o ?_
  obtain⟨M,e,h⟩:=al h;rw[e]
  refine aM 5 [(1,ptr f 0),(48,tb (M&&(eqD W66 c.2.2.2.1 z32)))] [Res.var f 52 Y52 c] (?_) ?_
  ·clear h
   cases M
   ·exact zA o<|ap () o o
   refine zm 1 o<|am dl o ?_
   refine yl 0 f3 bH o o o tr o<|am dl o ?_
   refine y (aY o oB o o .nil) o ?_
   refine am dl o ?_
   refine y (ub 20 o o o o bH o vl vm) o ?_
   exact zA o<|ap () o o
  refine q 1 [(1,ptr f 0),(49,tb (M&&(eqD W66 c.2.2.2.1 z32)))] [] o ?_
  obtain⟨C,e,h⟩:=al h;rw[e]
  refine aM 5 [(54,tb (C&&(decide ((List.length c.2.2.2.2.1:Int)≤64))))] [Res.var f 52 Y52 c] (?_) ?_
  ·clear h
   cases C
   ·exact zA o<|ap () o o
   refine zm 1 o<|am dl o ?_
   exact yl 0 f4 ty9 o o o tr o<|zA o<|ap () o o
  refine zE o<|zB<|zT ?_
  cases h
  exact ax o (.tmp o)
 refine zk<|zi<|zt<|zU 1 o<|zf ?_
 cases h
 exact ax o (.tmp o)
theorem rH(u r)(h:oQ u=some r):bm PP 103 [ts u] (.tup [⟨Y52,r.1⟩,⟨(.int .i64),r.2.1⟩,⟨(.int .i64),r.2.2⟩]):=by
 unfold oQ at h
 refine enter Tryz.func103 o 70 o o λF=>?_
 refine zu<|aC (t:=Y52) o ja o λc=>zm 2 o<|zZ 1 o<|cB h λr3 Z h=>rc [] (hY _ _ Z) kr o o o λv4=>zm 1 o<|zZ 1 o<|eP λM hp=>?_
 subst hp
 refine cB h λV a1 h=>rc [0] (gP _ _ _ a1) kr o o o λ_=>zm 1 o<|y (aY o ja o o (.cons f0 o o aa .nil)) o ?_
 refine aC (t:=Y52) o ja o λf=>st 0 .here bB o o o o tr<|za<|zs<|zU 1 o<|cB h λG a2 h=>rc [1] (gB _ _ _ a2) kr o o o λ_=>q 2 [(0,ts u),(2,ptr c 0),(5,ptr M 0),(6,ptr f 0),(17,tb (G.1==0))] [] o ?_
 obtain⟨b9,e,h⟩:=al h;rw[e]
 refine bQ h 9 (λd=>[(0,ts u),(2,ptr c 0),(5,ptr M 0),(6,ptr f 0),(26,tb d)]) (λ_=>[Res.var M 171 W57 G.2,Res.var f 52 Y52 ((wrap .i64 V.1),0,0,z32,[],()),Res.var c 52 Y52 (0,0,0,z32,[],())]) (λb3 h=>?_) λd h=>?_
 ·cases b9
  ·replace h:=ifF h
   exact zN o<|zt<|ai false () h o o
  replace h:=ifT h
  refine zm 1 o<|am dl o ?_
  refine yl 1 f0 ty3 o o o tr o<|q 2 [(17,tb true),(21,tb (decide ((wrap .i64 V.1)<1)))] [0,2,5,6] o ?_
  obtain⟨N,e,h⟩:=al h;rw[e]
  refine aM 4 [(0,ts u),(2,ptr c 0),(5,ptr M 0),(6,ptr f 0),(17,tb true),(25,tb (N||(decide ((wrap .i64 V.1)>3))))] [Res.var M 171 W57 G.2,Res.var f 52 Y52 ((wrap .i64 V.1),0,0,z32,[],()),Res.var c 52 Y52 (0,0,0,z32,[],())] (?_) ?_
  ·clear h
   cases N
   ·refine zm 1 o<|am dl o ?_
    exact yl 1 f0 ty3 o o o tr o<|zA o<|ap () o o
   exact zA o<|ap () o o
  exact zN o<|zt<|ai (N||(decide ((wrap .i64 V.1)>3))) () h o o
 refine za<|rI h o (λhc h=>?_) λhc h=>?_
 ·refine zu<|y (aY o ja o o .nil) o ?_
  refine st 2 .here bB o o o o tr<|zE o<|zT ?_
  cases h
  exact aE (rs:=[.cell 2 52,.tmp 3,.tmp 4]) o (.cons (.cell 2 .here o o o aa bB) (.cons (.tmp o) (.cons (.tmp o) (.nil)))) o (λ_ vs g=>aI vs g) (λ_ _ _=>List.nil_sublist _)
 refine zy<|zm 1 o<|cB h λW a3 h=>rc [0] (fA _ _ _ a3) kr o o o λ_=>q 2 [(0,ts u),(2,ptr c 0),(5,ptr M 0),(6,ptr f 0),(30,ti (wrap .i64 W.1)),(31,ptr f 1)] [] o<|st 1 f1 ty2 o o o o tr<|za<|bv h (λR=>[(0,ts u),(2,ptr c 0),(5,ptr M 0),(6,ptr f 0)]) (λR=>[Res.var M 171 W57 R.1,Res.var f 52 Y52 R.2,Res.var c 52 Y52 (0,0,0,z32,[],())]) (λb4 h=>?_) λR h=>?_
 ·refine zU 1 o<|yl 1 f0 ty3 o o o tr o<|za<|zb<|zW o<|rI h o (λhc h=>zU 1 o<|cB h λa4 a5 h=>rc [0] (bJ _ _ _ a5) kr o o o λ_=>zm 1 o<|st 1 f2 ty2 o o o o tr<|za<|zr<|zm 1 o<|cB h λm a6 h=>rc [0] (cS _ _ _ a6) kr o o o λ_=>zm 1 o<|st 1 f3 bH o o o o tr<|nL o<|zn<|zi<|zt<|ai (m.2,((wrap .i64 V.1),(wrap .i64 W.1),a4.1,m.1,[],())) () h o o) λhc h=>zW o<|rI h o (λhc h=>zr<|zm 1 o<|cB h λO a7 h=>rc [0] (cS _ _ _ a7) kr o o o λ_=>zm 1 o<|st 1 f3 bH o o o o tr<|zn<|zi<|zt<|ai (O.2,((wrap .i64 V.1),(wrap .i64 W.1),0,O.1,[],())) () h o o) λhc h=>zW o<|rI h o (λhc h=>zr<|zm 1 o<|cB h λw a8 h=>rc [0] (rG _ _ _ _ a8) kr o o o λ_=>zm 1 o<|st 1 f4 ty9 o o o o tr<|zn<|zi<|zt<|ai (w.2,((wrap .i64 V.1),(wrap .i64 W.1),0,z32,w.1,())) () h o o) λhc h=>?_
  exact zk<|zi<|zt<|ai (W.2,((wrap .i64 V.1),(wrap .i64 W.1),0,z32,[],())) () h o o
 refine zs<|zU 1 o<|cB h λb6 a9 h=>rc [0] (gB _ _ _ a9) kr o o o λ_=>zm 1 o<|zz<|zA o<|rI h o (λhc h=>?_) λhc h=>?_
 ·refine zu<|y (aY o ja o o .nil) o ?_
  refine zm 1 o<|cB h λb8 b0 h=>ar (vY _ _ b0) kr o o<|st 2 .here bB o o o o tr<|zE o<|zT ?_
  cases h
  exact aE (rs:=[.cell 2 52,.tmp 3,.tmp 4]) o (.cons (.cell 2 .here o o o aa bB) (.cons (.tmp o) (.cons (.tmp o) (.nil)))) o (λ_ vs g=>aI vs g) (λ_ _ _=>List.nil_sublist _)
 refine zk<|zt<|zs<|zu<|yl 1 .here bB o o o tr o<|cB h λc0 b1 h=>ar (iy _ _ b1) kr o o<|zA o<|rI h o (λhc h=>?_) λhc h=>?_
 ·refine zu<|y (aY o ja o o .nil) o ?_
  refine st 2 .here bB o o o o tr<|zE o<|zT ?_
  cases h
  exact aE (rs:=[.cell 2 52,.tmp 3,.tmp 4]) o (.cons (.cell 2 .here o o o aa bB) (.cons (.tmp o) (.cons (.tmp o) (.nil)))) o (λ_ vs g=>aI vs g) (λ_ _ _=>List.nil_sublist _)
 refine zk<|zt<|bv h (λC=>[(2,ptr c 0),(3,ti C.1),(4,ti C.2.1)]) (λC=>[Res.var M 171 W57 C.2.2.1,Res.var f 52 Y52 R.2,Res.var c 52 Y52 C.2.2.2]) (λc1 h=>?_) λC h=>?_
 ·refine dS kr<|zF 3 [1,2,3] kr o o ?_
  refine br (i:=0) (j:=4) kr o o ?_ ?_
  ·exact yl 1 .here bB o o o tr o<|zL [2,63,65,66] o<|af 4 kr o<|cB h λH J h=>rc [0] (em _ _ _ J) kr o o o λ_=>zL [2,63,65,67] o<|zF 2 [5,6] kr o o<|af 7 kr o<|st 2 .here bB o o o o tr<|zL [2,69] o<|zF 2 [8,9] kr o o<|aN kr<|zt<|ai ((wrap .i64 ((List.length u:Int) - (List.length H.1:Int))),0,H.2,R.2) () h o o
  exact cB h λH J h=>rc [0] (em _ _ _ J) kr o o o λ_=>zL [2,6,65,67] o<|zF 2 [5,6] kr o o<|af 0 kr o<|yl 1 .here bB o o o tr o<|zL [2,63,69] o<|af 7 kr o<|st 2 .here bB o o o o tr<|zL [2,69] o<|zF 2 [8,9] kr o o<|aN kr<|zt<|ai ((wrap .i64 ((List.length u:Int) - (List.length H.1:Int))),0,H.2,R.2) () h o o
 refine zR ?_
 cases h
 exact aE (rs:=[.cell 2 52,.tmp 3,.tmp 4]) o (.cons (.cell 2 .here o o o aa bB) (.cons (.tmp o) (.cons (.tmp o) (.nil)))) o (λ_ vs g=>aI vs g) (λ_ _ _=>List.nil_sublist _)
theorem nW(C:Value)(H r)(h:jQ H=some r):Fn PP 47 [tp C] [Res.cls fI C H] (λv=> .one W62 v) (λv=>[Res.cls fI C r.2,Res.own v 52 Y52 r.1]):=by
 unfold jQ at h
 refine enter Tryz.func47 o 49 o o λF=>?_
 refine qR λu a9 hp=>?_
 subst hp
 refine gi (x:=H) ?_
 refine zU 1 o<|zz<|q 1 [(0,ptr u 0),(3,.one W62 (.slice none 0 0))] [] o<|bT (.slice none 0 0) o 52 Y52 ?_
 refine za<|jK h (γ:=Value) (λR g6=>[(3,.one W62 g6)]) (λR g6=>[Res.cls fI (.pointer (some ⟨u,0,none⟩)) R.1,Res.own g6 52 Y52 R.2]) (λw h=>?_) λR g6 h=>?_
 ·refine zU 1 o<|cB h λV Z h=>rc [1] (ei _ _ _ Z) kr o o o λ_=>zA o<|zb<|ah [0,3,9,10] o<|bg (γ:=Value) (λ(c:Int×((Int×Z13)×Bool×Unit)×(List Z51)) g12=>[(0,ptr u 0),(3,.one W62 g12),(9,ti V.1),(10,ti c.1)]) (λ(c:Int×((Int×Z13)×Bool×Unit)×(List Z51)) g12=>[Res.cls fI (.pointer (some ⟨u,0,none⟩)) c.2.1,Res.own g12 52 Y52 c.2.2]) (iU w V) (0,V.2,[]) (.slice none 0 0) h o o ?_
  clear h
  intro m c g12 h
  cases m with
  |zero=>cases h
  |succ m=>
  simp only[iU]at h
  refine zW o<|zs<|rI h o (λhc h=>?_) λhc h=>?_
  ·refine zk<|zt<|zs<|zb<|zs<|ir λa1=>?_
   refine zr<|zm 3 o<|yl 0 f0 gI o o o tr o ?_
   obtain⟨G,h⟩:=cj h
   refine aw (R':=Res.cls dK a1 c.2.1.1.2) 1 o (dM G)<|pk [1,0,0] o<|eP λN hp=>?_
   rw[hp]
   clear hp
   refine cB h λW a2 h=>rc [0] (em _ _ _ a2) kr o o o λ_=>zm 1 o<|zZ 1 o<|cB h λM a3 h=>ar (rH _ _ a3) kr o o<|zm 4 o<|aC (t:=Y52) o ja o λJ=>st 0 .here bB o o o o tr<|nL o<|zA o<|zs<|zu<|q 3 [(3,.one W62 g12),(4,ts W.1),(5,ptr J 0),(6,ti M.2.1),(9,ti V.1),(10,ti c.1),(25,tb (M.2.2 !=0))] [0] o ?_
   obtain⟨a4,e,h⟩:=al h;rw[e]
   refine bQ h 7 (λf=>[(0,ptr u 0),(3,.one W62 g12),(4,ts W.1),(5,ptr J 0),(6,ti M.2.1),(9,ti V.1),(10,ti c.1),(32,tb f.1)]) (λf=>[Res.var J 52 Y52 M.1,Res.var N 171 W57 f.2,Res.var u 103 W53 ((.pointer (some ⟨N,0,none⟩)),c.2.1.2.1,c.2.1.2.2),Res.own g12 52 Y52 c.2.2]) (λb0 h=>?_) λf h=>?_
   ·cases a4
    ·replace h:=ifF h
     refine zm 3 o<|am dl o ?_
     refine yl 2 f0 gI o o o tr o<|am dl o ?_
     exact cB h λO a5 h=>rc [1] (gB _ _ _ a5) kr o o o λ_=>zN o<|pk [1,0,0,0] o<|zt<|ai ((O.1 !=0),O.2) () h o o
    replace h:=ifT h
    exact zN o<|zt<|ai (true,W.2) () h o o
   refine za<|rI h o (λhc h=>?_) λhc h=>?_
   ·refine zU 3 o<|st 2 f1 ty4 o o o o tr<|zz<|zE o<|zT<|zB<|zT<|zT<|zB<|zT<|pk [1,0,0,0] o<|eT (x:=f.2) ?_
    refine aw (R':=Res.clsif dK (.pointer (some ⟨N,0,none⟩)) f.2 c.2.1.1.1) 0 o (cT G)<|nL o<|pk [2,0,0,0] o<|gi (x:=((c.2.1.1.1,f.2),true,c.2.1.2.2)) ?_
    refine bT (.slice none 0 0) o 52 Y52 ?_
    cases h
    exact pk [0,0] o<|pk [1,0] o<|aS o (.tmp o) (λ_ _ g=>holds_raw.2 ⟨rfl,by rw[(holds_raw.1 g).1];exact(holds_raw.1 g).2⟩) (λ_ _ g=>by obtain⟨rfl,_⟩:=holds_raw.1 g;exact List.Sublist.refl _)
   refine zy<|zm 1 o<|yl 0 .here bB o o o tr o<|bu (B:=72) ag o iq o o o (.cons o .nil) o λb1=>?_
   refine iE h λhc h=>bd (B:=72) ag 4 o o (bL 0 o o) o iq o o hc o λa6=>?_
   refine pk [1,1,1,1] o<|zA o<|zr<|zm 3 o<|iE h λhc h=>y (jB (i:=M.2.1) (j:=(List.length W.1:Int)) ag o o o hc.1 hc.2.1 hc.2.2 o) o ?_
   refine cB h λd a7 h=>rc [] (hY _ _ a7) kr o o o λa8=>zm 2 o<|st 3 f0 gI o o o o tr<|nL o<|pk [0,0,1,1] o<|zn<|zi<|zt<|zr<|zA o<|aw (R':=Res.clsif dK a8 d c.2.1.1.1) 0 o (cT G)<|pk [2,0,0,0] o<|gi (x:=((c.2.1.1.1,d),c.2.1.2.1,c.2.1.2.2)) ?_
   exact pk [0,1] o<|aX ((wrap .i64 (c.1+1)),((c.2.1.1.1,d),c.2.1.2.1,c.2.1.2.2),(c.2.2++[M.1])) a6 (Nat.lt_succ_self _) h o o
  exact zx<|ze<|ze<|zq<|zt<|ai (c.2.1,c.2.2) g12 h o o
 refine zU 2 o<|zf ?_
 cases h
 exact pk [0,0] o<|aS o (.tmp o) (λ_ _ g=>holds_raw.2 ⟨rfl,by rw[(holds_raw.1 g).1];exact(holds_raw.1 g).2⟩) (λ_ _ g=>by obtain⟨rfl,_⟩:=holds_raw.1 g;exact List.Sublist.refl _)
theorem nX(f:Value)(c r)(h:jR c=some r):Fn PP 49 [tp f] [Res.cls fI f c] (λ_=>tb r.1) (λ_=>[Res.cls fI f r.2]):=by
 unfold jR at h
 refine enter Tryz.func49 o 9 o o λF=>?_
 refine qR λC H hp=>?_
 subst hp
 refine gi (x:=c) ?_
 refine zW o<|zs<|ir λV=>?_
 refine zr<|zm 3 o<|yl 0 f0 gI o o o tr o ?_
 obtain⟨M,h⟩:=cj h
 refine aw (R':=Res.cls dK V c.1.2) 1 o (dM M)<|pk [1,0] o<|eP λR hp=>?_
 rw[hp]
 clear hp
 refine cB h λu W h=>rc [0] (gP _ _ _ W) kr o o o λ_=>zE o<|eT (x:=u.2) ?_
 refine aw (R':=Res.clsif dK (.pointer (some ⟨R,0,none⟩)) u.2 c.1.1) 0 o (cT M)<|nL o<|pk [1,0] o<|gi (x:=((c.1.1,u.2),c.2.1,c.2.2)) ?_
 cases h
 exact bc o (.tmp o) (.cons_cons _ .slnil)
theorem qT(f r)(h:lg f=some r):bm PP 106 [ts f] (.one (.int .u32) r):=by
 unfold lg at h
 refine enter Tryz.func106 o 20 o o λF=>?_
 refine zU 1 o<|zz<|q 1 [(0,ts f),(3,.one (.int .u64) 0)] [] o<|za<|bv h (λu=>[(3,.one (.int .u64) u)]) (λu=>[]) (λV h=>?_) λu h=>?_
 ·refine zW o<|zb<|ah [0,3,6,7] o<|bg (γ:=Unit) (λ(c:Int×Int) _=>[(0,ts f),(3,.one (.int .u64) c.1),(6,ti (List.length f:Int)),(7,ti c.2)]) (λ(c:Int×Int) _=>[]) (ig f V) (0,0) () h o o ?_
  clear h
  intro M c gg h
  cases M with
  |zero=>cases h
  |succ M=>
  simp only[ig]at h
  refine zW o<|zs<|rI h o (λhc h=>?_) λhc h=>?_
  ·refine zk<|zt<|zs<|zb<|zW o<|zr<|zm 4 o<|iE h λhc h=>y (gq ag o o hc.1 hc.2 o) o ?_
   refine q 3 [(3,.one (.int .u64) (ior .u64 (kA .u64 c.1 8) (wrap .u64 (List.getD f (Int.toNat c.2) 0)))),(6,ti (List.length f:Int)),(7,ti c.2)] [0] o ?_
   obtain⟨R,e,h⟩:=al h;rw[e]
   exact zn<|zi<|zt<|zr<|zA o<|aX (R,(wrap .i64 (c.2+1))) () (Nat.lt_succ_self _) h o o
  exact zx<|ze<|ze<|zq<|zt<|ai c.1 () h o o
 refine zU 3 o<|zf ?_
 cases h
 exact ax o (.tmp o)
theorem sO(c:Nat)(f r)(h:mh f=some r):Fn PP 51 [ptr c 0] [Res.var c 171 W57 f] (λ_=> .one (.int .u32) r.1) (λ_=>[Res.var c 171 W57 r.2]):=by
 unfold mh at h
 refine enter Tryz.func51 o 6 o o λF=>?_
 refine zU 1 o<|zZ 1 o<|cB h λV u h=>rc [0] (eh _ _ _ _ u) kr o o o λ_=>cB h λR M h=>ar (qT _ _ M) kr o o<|zE o ?_
 cases h
 exact bc o (.tmp o) (.cons_cons _ .slnil)
theorem fW(c u f r)(h:fR c u f=some r):bm PP 84 [ti c,ti u,ti f] (tb r):=by
 unfold fR at h
 refine enter Tryz.func84 o 15 o o λF=>?_
 refine zU 1 o<|zz<|q 4 [(0,ti c),(2,ti f),(10,tb (decide (c≥u)))] [] o ?_
 obtain⟨M,e,h⟩:=al h;rw[e]
 refine aM 4 [(14,tb (M&&(decide (c≤f))))] [] (?_) ?_
 ·clear h
  cases M
  ·exact zA o<|ap () o o
  exact zA o<|ap () o o
 refine zE o ?_
 cases h
 exact ax o (.tmp o)
theorem lu(c r)(h:jp c=some r):bm PP 83 [ti c] (tb r):=by
 unfold jp at h
 refine enter Tryz.func83 o 5 o o λF=>?_
 refine zU 1 o<|zZ 1 o<|cB h λu f h=>ar (fW _ _ _ _ f) kr o o<|zE o ?_
 cases h
 exact ax o (.tmp o)
theorem tW(c r)(h:nO c=some r):bm PP 138 [.one Y52 c] (tb r):=by
 unfold nO at h
 refine enter Tryz.func138 o 6 o o λF=>?_
 refine zu<|bA o o λu=>zm 1 o<|zz<|yl 0 .here bB o o o tr o<|cB h λM f h=>ar (iy _ _ f) kr o o<|zE o ?_
 cases h
 exact ax o (.tmp o)
theorem iO(c r)(h:dw c=some r):bm PP 179 [.one W76 c,.one (.raw (fnv 138)) (fnv 138)] (ti r):=by
 unfold dw at h
 refine enter Tryz.func179 o 19 o o λF=>?_
 refine zu<|q 1 [(0,.one W76 c),(1,.one (.raw (fnv 138)) (fnv 138))] [] o<|za<|bv h (λu=>[]) (λu=>[]) (λV h=>?_) λu h=>?_
 ·refine zW o<|zb<|ah [0,1,7,8] o<|bg (γ:=Unit) (λ(f:Int) _=>[(0,.one W76 c),(1,.one (.raw (fnv 138)) (fnv 138)),(7,ti (List.length c:Int)),(8,ti f)]) (λ(f:Int) _=>[]) (cr c V) 0 () h o o ?_
  clear h
  intro M f gg h
  cases M with
  |zero=>cases h
  |succ M=>
  simp only[cr]at h
  refine zW o<|zs<|rI h o (λhc h=>?_) λhc h=>?_
  ·refine zk<|zt<|zs<|zb<|zU 2 o<|zZ 3 o<|iE h λhc h=>y (eZ ag o o hc.1 hc.2 o bB) o ?_
   refine y (fP o bB) o ?_
   refine mz o ?_
   exact cB h λW R h=>ar (tW _ _ R) kr o o<|za<|rI h o (λhc h=>zU 2 o<|zf<|zB<|zT<|zT<|zB<|zT<|by cases h;exact ax o (.tmp o)) λhc h=>zk<|zi<|zt<|zr<|zA o<|aX (wrap .i64 (f+1)) () (Nat.lt_succ_self _) h o o
  exact zx<|ze<|ze<|zq<|zt<|ai () () h o o
 refine zU 1 o<|zf ?_
 cases h
 exact ax o (.tmp o)
theorem iu(c r)(h:cW c=some r):bm PP 137 [.one W76 c,.one (.raw (fnv 138)) (fnv 138)] (tb r):=by
 unfold cW at h
 refine enter Tryz.func137 o 9 o o λF=>?_
 refine zU 1 o<|zZ 2 o<|cB h λu f h=>ar (iO _ _ f) kr o o<|zE o ?_
 cases h
 exact ax o (.tmp o)
theorem qe(c r)(h:mQ c=some r):bm PP 86 [.one W76 c] (tb r):=by
 unfold mQ at h
 refine enter Tryz.func86 o 11 o o λF=>?_
 refine zU 1 o<|zz<|q 4 [(0,.one W76 c),(6,tb (decide ((List.length c:Int)≤2048)))] [] o ?_
 obtain⟨u,e,h⟩:=al h;rw[e]
 refine bQ h 4 (λf=>[(10,tb f)]) (λ_=>[]) (λR h=>?_) λf h=>?_
 ·cases u
  ·replace h:=ifF h
   exact zN o<|zt<|ai false () h o o
  replace h:=ifT h
  refine zm 1 o<|am dl o ?_
  exact cB h λM V h=>ar (iu _ _ V) kr o o<|zN o<|zt<|ai (!M) () h o o
 refine zE o ?_
 cases h
 exact ax o (.tmp o)
theorem jy(c r)(h:gV c=some r):bm PP 85 [ti c] (tb r):=by
 unfold gV at h
 refine enter Tryz.func85 o 5 o o λF=>?_
 refine zU 1 o<|zZ 1 o<|cB h λu f h=>ar (fW _ _ _ _ f) kr o o<|zE o ?_
 cases h
 exact ax o (.tmp o)
theorem qC(c r)(h:nP c=some r):Fn PP 32 [.one Y30 c] [] (λv=> .one W62 v) (λv=>[Res.own v 3 (.int .i64) r]):=by
 unfold nP at h
 refine enter Tryz.func32 o 22 o o λF=>?_
 refine zu<|bA o o λf=>zm 1 o<|zZ 2 o<|yl 0 ((g9 (.fst f0))) ty3 o o o tr o<|zm 2 o<|yl 0 ((g9 (.fst f1))) ty3 o o o tr o<|zm 2 o<|yl 0 ((g10 (.fst f0))) ty3 o o o tr o<|zm 2 o<|yl 0 ((g10 (.fst f1))) ty3 o o o tr o<|zm 2 o<|yl 0 ((g11 (.fst f0))) ty3 o o o tr o<|zm 2 o ?_
 refine yl 0 ((g11 (.fst f1))) ty3 o o o tr o<|bu (B:=8) ag o el3 o o o (.cons o (.cons o (.cons o (.cons o (.cons o (.cons o .nil)))))) o λu=>?_
 refine zE o ?_
 cases h
 exact aS o (.tmp o) (λ_ _ g=>holds_raw.2 ⟨rfl,by rw[(holds_raw.1 g).1];exact(holds_raw.1 g).2⟩) (λ_ _ g=>by obtain⟨rfl,_⟩:=holds_raw.1 g;exact(.cons_cons _ (.cons _ .slnil)))
theorem tj(c r)(h:m8 c=some r):bm PP 88 [ti c] (tb r):=by
 unfold m8 at h
 refine enter Tryz.func88 o 6 o o λF=>?_
 refine zU 1 o<|zZ 1 o<|cB h λu f h=>ar (fW _ _ _ _ f) kr o o<|zE o ?_
 cases h
 exact ax o (.tmp o)
theorem lw(c r)(h:fx c=some r):bm PP 140 [.one W69 c,.one (.raw (fnv 88)) (fnv 88)] (ti r):=by
 unfold fx at h
 refine enter Tryz.func140 o 19 o o λF=>?_
 refine zu<|q 1 [(0,.one W69 c),(1,.one (.raw (fnv 88)) (fnv 88))] [] o<|za<|bv h (λu=>[]) (λu=>[]) (λV h=>?_) λu h=>?_
 ·refine zW o<|zb<|ah [0,1,7,8] o<|bg (γ:=Unit) (λ(f:Int) _=>[(0,.one W69 c),(1,.one (.raw (fnv 88)) (fnv 88)),(7,ti (List.length c:Int)),(8,ti f)]) (λ(f:Int) _=>[]) (dB c V) 0 () h o o ?_
  clear h
  intro M f gg h
  cases M with
  |zero=>cases h
  |succ M=>
  simp only[dB]at h
  refine zW o<|zs<|rI h o (λhc h=>?_) λhc h=>?_
  ·refine zk<|zt<|zs<|zb<|zU 2 o<|zZ 3 o<|iE h λhc h=>y (eZ ag o o hc.1 hc.2 o ty3) o ?_
   refine y (fP o ty3) o ?_
   refine mz o ?_
   exact cB h λW R h=>ar (tj _ _ R) kr o o<|za<|rI h o (λhc h=>zU 2 o<|zf<|zB<|zT<|zT<|zB<|zT<|by cases h;exact ax o (.tmp o)) λhc h=>zk<|zi<|zt<|zr<|zA o<|aX (wrap .i64 (f+1)) () (Nat.lt_succ_self _) h o o
  exact zx<|ze<|ze<|zq<|zt<|ai () () h o o
 refine zU 1 o<|zf ?_
 cases h
 exact ax o (.tmp o)
theorem kw(c r)(h:eU c=some r):bm PP 87 [.one W69 c,.one (.raw (fnv 88)) (fnv 88)] (tb r):=by
 unfold eU at h
 refine enter Tryz.func87 o 9 o o λF=>?_
 refine zU 1 o<|zZ 2 o<|cB h λu f h=>ar (lw _ _ f) kr o o<|zE o ?_
 cases h
 exact ax o (.tmp o)
theorem qf(c:Nat)(f r)(h:ki f=some r):Fn PP 90 [.one Y56 f,ptr c 0] [Res.var c 68 (.raw (fnv 85)) (fnv 85)] (λ_=>tb r) (λ_=>[Res.var c 68 (.raw (fnv 85)) (fnv 85)]):=by
 unfold ki at h
 refine enter Tryz.func90 o 9 o o λF=>?_
 refine zu<|bA o o λM=>zm 1 o<|zz<|yl 1 .here tx3 o o o tr o<|zm 1 o<|yl 0 f0 ty2 o o o tr o<|mz o ?_
 refine cB h λV u h=>ar (jy _ _ u) kr o o<|zE o ?_
 cases h
 exact bc o (.tmp o) (.cons _ (.cons_cons _ .slnil))
theorem ju(c:Nat)(f r)(h:dP f=some r):Fn PP 141 [.one W77 f,.one W74 (.func (.func 90) #[] #[adr c])] [Res.var c 68 (.raw (fnv 85)) (fnv 85)] (λ_=>ti r) (λ_=>[Res.var c 68 (.raw (fnv 85)) (fnv 85)]):=by
 unfold dP at h
 refine enter Tryz.func141 o 19 o o λF=>?_
 refine zu<|q 1 [(0,.one W77 f),(1,.one W74 (.func (.func 90) #[] #[adr c]))] [] o<|za<|bv h (λM=>[]) (λM=>[Res.var c 68 (.raw (fnv 85)) (fnv 85)]) (λR h=>?_) λM h=>?_
 ·refine zW o<|zb<|ah [0,1,7,8] o<|bg (γ:=Unit) (λ(u:Int) _=>[(0,.one W77 f),(1,.one W74 (.func (.func 90) #[] #[adr c])),(7,ti (List.length f:Int)),(8,ti u)]) (λ(u:Int) _=>[Res.var c 68 (.raw (fnv 85)) (fnv 85)]) (cA f R) 0 () h o o ?_
  clear h
  intro V u gg h
  cases V with
  |zero=>cases h
  |succ V=>
  simp only[cA]at h
  refine zW o<|zs<|rI h o (λhc h=>?_) λhc h=>?_
  ·refine zk<|zt<|zs<|zb<|zU 2 o<|zZ 3 o<|iE h λhc h=>y (eZ ag o o hc.1 hc.2 o iZ) o ?_
   refine y (fP o iZ) o ?_
   refine FK o ?_
   exact cB h λC W h=>rc [0] (qf _ _ _ W) kr o o o λ_=>za<|rI h o (λhc h=>zU 2 o<|zf<|zB<|zT<|zT<|zB<|zT<|by cases h;exact aS o (.tmp o) (λ_ _ g=>g) (λ_ _ _=>(.cons_cons _ .slnil))) λhc h=>zk<|zi<|zt<|zr<|zA o<|aX (wrap .i64 (u+1)) () (Nat.lt_succ_self _) h o o
  exact zx<|ze<|ze<|zq<|zt<|ai () () h o o
 refine zU 1 o<|zf ?_
 cases h
 exact bc o (.tmp o) (.cons_cons _ .slnil)
theorem iP(c:Nat)(f r)(h:dx f=some r):Fn PP 89 [.one W77 f,.one W74 (.func (.func 90) #[] #[adr c])] [Res.var c 68 (.raw (fnv 85)) (fnv 85)] (λ_=>tb r) (λ_=>[Res.var c 68 (.raw (fnv 85)) (fnv 85)]):=by
 unfold dx at h
 refine enter Tryz.func89 o 9 o o λF=>?_
 refine zU 1 o<|zZ 2 o<|cB h λM u h=>rc [0] (ju _ _ _ u) kr o o o λ_=>zE o ?_
 cases h
 exact bc o (.tmp o) (.cons_cons _ .slnil)
theorem ux(R u r)(h:ox R u=some r):bm PP 27 [ti R,.one Y30 u] (tb r):=by
 unfold ox at h
 refine enter Tryz.func27 o 91 o o λF=>?_
 refine zu<|bA o o λc=>zm 1 o<|zZ 1 o<|zz<|aC (t:=W74) o HC o λf=>iS (v:=(.raw (fnv 85))) 0 .here o o o o o o tx3 ?_
 refine za<|zs<|zb<|zU 1 o<|cB h λm O h=>ar (fW _ _ _ _ O) kr o o<|q 2 [(3,ptr c 0),(5,.one (.raw (fnv 83)) (fnv 83)),(6,ptr f 0),(11,tb (!m))] [] o ?_
 obtain⟨w,e,h⟩:=al h;rw[e]
 refine bQ h 5 (λW=>[(3,ptr c 0),(5,.one (.raw (fnv 83)) (fnv 83)),(6,ptr f 0),(16,tb W)]) (λ_=>[Res.var f 68 (.raw (fnv 85)) (fnv 85),Res.var c 30 Y30 u]) (λk7 h=>?_) λW h=>?_
 ·cases w
  ·replace h:=ifF h
   refine zm 1 o<|am dl o ?_
   refine yl 1 f0 ty3 o o o tr o<|am dl o ?_
   exact cB h λZ a2 h=>ar (fW _ _ _ _ a2) kr o o<|zN o<|zt<|ai (!Z) () h o o
  replace h:=ifT h
  exact zN o<|zt<|ai true () h o o
 refine zA o<|rI h o (λhc h=>zU 1 o<|zf<|zB<|zT<|by cases h;exact ax o (.tmp o)) λhc h=>zU 2 o<|yl 1 f1 ty2 o o o tr o<|mz o ?_
 refine cB h λa3 a4 h=>ar (lu _ _ a4) kr o o<|q 2 [(3,ptr c 0),(5,.one (.raw (fnv 83)) (fnv 83)),(6,ptr f 0),(23,tb (!a3))] [] o ?_
 obtain⟨a5,e,h⟩:=al h;rw[e]
 refine bQ h 6 (λM=>[(3,ptr c 0),(5,.one (.raw (fnv 83)) (fnv 83)),(6,ptr f 0),(29,tb M)]) (λ_=>[Res.var f 68 (.raw (fnv 85)) (fnv 85),Res.var c 30 Y30 u]) (λd3 h=>?_) λM h=>?_
 ·cases a5
  ·replace h:=ifF h
   refine zm 2 o<|am dl o ?_
   refine yl 1 f2 ty2 o o o tr o<|am dl o ?_
   refine mz o ?_
   exact cB h λa6 a7 h=>ar (lu _ _ a7) kr o o<|zN o<|zt<|ai (!a6) () h o o
  replace h:=ifT h
  exact zN o<|zt<|ai true () h o o
 refine q 1 [(3,ptr c 0),(5,.one (.raw (fnv 83)) (fnv 83)),(6,ptr f 0),(30,tb M)] [] o<|bQ h 6 (λC=>[(3,ptr c 0),(6,ptr f 0),(36,tb C)]) (λ_=>[Res.var f 68 (.raw (fnv 85)) (fnv 85),Res.var c 30 Y30 u]) (λd4 h=>?_) λC h=>?_
 ·cases M
  ·replace h:=ifF h
   refine zm 2 o<|am dl o ?_
   refine yl 1 f3 ty2 o o o tr o<|am dl o ?_
   refine mz o ?_
   exact cB h λa8 a9 h=>ar (lu _ _ a9) kr o o<|zN o<|zt<|ai (!a8) () h o o
  replace h:=ifT h
  exact zN o<|zt<|ai true () h o o
 refine zA o<|rI h o (λhc h=>zU 1 o<|zf<|zB<|zT<|by cases h;exact ax o (.tmp o)) λhc h=>zU 1 o<|yl 1 f4 iY o o o tr o<|cB h λb0 b1 h=>ar (qe _ _ b1) kr o o<|q 2 [(3,ptr c 0),(6,ptr f 0),(42,tb (!b0))] [] o ?_
 obtain⟨b2,e,h⟩:=al h;rw[e]
 refine bQ h 5 (λH=>[(3,ptr c 0),(6,ptr f 0),(47,tb H)]) (λ_=>[Res.var f 68 (.raw (fnv 85)) (fnv 85),Res.var c 30 Y30 u]) (λd5 h=>?_) λH h=>?_
 ·cases b2
  ·replace h:=ifF h
   refine zm 1 o<|am dl o ?_
   refine yl 1 f5 iY o o o tr o<|am dl o ?_
   exact cB h λb5 b7 h=>ar (qe _ _ b7) kr o o<|zN o<|zt<|ai (!b5) () h o o
  replace h:=ifT h
  exact zN o<|zt<|ai true () h o o
 refine zA o<|rI h o (λhc h=>zU 1 o<|zf<|zB<|zT<|by cases h;exact ax o (.tmp o)) λhc h=>zu<|yl 0 .here tx3 o o o tr o<|zm 1 o<|yl 1 f6 ty2 o o o tr o<|mz o ?_
 refine cB h λb8 b9 h=>ar (jy _ _ b9) kr o o<|q 2 [(3,ptr c 0),(6,ptr f 0),(54,tb (!b8))] [] o ?_
 obtain⟨c0,e,h⟩:=al h;rw[e]
 refine bQ h 6 (λV=>[(3,ptr c 0),(6,ptr f 0),(60,tb V)]) (λ_=>[Res.var f 68 (.raw (fnv 85)) (fnv 85),Res.var c 30 Y30 u]) (λd6 h=>?_) λV h=>?_
 ·cases c0
  ·replace h:=ifF h
   refine am dl o ?_
   refine yl 0 .here tx3 o o o tr o<|zm 1 o<|am dl o ?_
   refine yl 1 f7 ty2 o o o tr o<|am dl o ?_
   refine mz o ?_
   exact cB h λc1 c2 h=>ar (jy _ _ c2) kr o o<|zN o<|zt<|ai (!c1) () h o o
  replace h:=ifT h
  exact zN o<|zt<|ai true () h o o
 refine q 1 [(3,ptr c 0),(6,ptr f 0),(61,tb V)] [] o<|bQ h 6 (λG=>[(3,ptr c 0),(6,ptr f 0),(67,tb G)]) (λ_=>[Res.var f 68 (.raw (fnv 85)) (fnv 85),Res.var c 30 Y30 u]) (λd7 h=>?_) λG h=>?_
 ·cases V
  ·replace h:=ifF h
   refine am dl o ?_
   refine yl 0 .here tx3 o o o tr o<|zm 1 o<|am dl o ?_
   refine yl 1 f8 ty2 o o o tr o<|am dl o ?_
   refine mz o ?_
   exact cB h λc3 c4 h=>ar (jy _ _ c4) kr o o<|zN o<|zt<|ai (!c3) () h o o
  replace h:=ifT h
  exact zN o<|zt<|ai true () h o o
 refine zA o<|rI h o (λhc h=>zU 1 o<|zf<|zB<|zT<|by cases h;exact ax o (.tmp o)) λhc h=>zu<|yl 1 .here bE o o o tr o<|cB h λd8 c5 h=>rc [] (qC _ _ c5) kr o o o λd9=>kB (i:=0) (k:=70) o o ?_
 refine cB h λe0 c6 h=>ar (kw _ _ c6) kr o o<|zA o<|rI h o (λhc h=>zU 1 o<|zf<|zB<|zT<|by cases h;exact ax o (.tmp o)) λhc h=>zU 1 o<|yl 1 f15 qd o o o tr o<|q 3 [(3,ptr c 0),(6,ptr f 0),(77,tb (decide ((List.length u.2.2.2.2.2.2.2.2.2.2.2.2.2.2.2.1:Int)>49)))] [] o ?_
 obtain⟨c7,e,h⟩:=al h;rw[e]
 refine bQ h 5 (λN=>[(3,ptr c 0),(82,tb N)]) (λ_=>[Res.var f 68 (.raw (fnv 85)) (fnv 85),Res.var c 30 Y30 u]) (λe1 h=>?_) λN h=>?_
 ·cases c7
  ·replace h:=ifF h
   refine zm 1 o<|am dl o ?_
   refine yl 1 f15 qd o o o tr o<|am dl o ?_
   refine y (AH o) o ?_
   refine am dl o ?_
   exact cB h λc8 c9 h=>rc [0] (iP _ _ _ c9) kr o o o λ_=>zN o<|zt<|ai c8 () h o o
  replace h:=ifT h
  exact zN o<|zt<|ai true () h o o
 refine zA o<|rI h o (λhc h=>zU 1 o<|zf<|zB<|zT<|by cases h;exact ax o (.tmp o)) λhc h=>zk<|zi<|zt<|zU 1 o<|yl 1 f16 ty3 o o o tr o<|cB h λJ d0 h=>ar (fW _ _ _ _ d0) kr o o<|q 1 [(3,ptr c 0),(86,tb J)] [] o<|bQ h 4 (λd=>[(90,tb d)]) (λ_=>[Res.var f 68 (.raw (fnv 85)) (fnv 85),Res.var c 30 Y30 u]) (λe2 h=>?_) λd h=>?_
 ·cases J
  ·replace h:=ifF h
   exact zN o<|zt<|ai false () h o o
  replace h:=ifT h
  refine zm 1 o<|am dl o ?_
  refine yl 1 f17 ty2 o o o tr o<|am dl o ?_
  exact cB h λd1 d2 h=>ar (fW _ _ _ _ d2) kr o o<|zN o<|zt<|ai d1 () h o o
 refine zE o ?_
 cases h
 exact ax o (.tmp o)
theorem m1(r)(h:jF=some r):Fn PP 28 [] [] (λv=>tp v) (λv=>[Res.cls aU v r]):=by
 unfold jF at h
 refine enter Tryz.func28 o 3 o o λF=>?_
 refine zU 1 o<|zz<|y (aY o G6 o o .nil) o ?_
 refine bA o o λc=>bT (.slice none 0 0) o 5 (.int .u8) ?_
 refine zE o<|pk [1,0] o<|bF (x:=([],0,())) ?_
 cases h
 exact aS o (.tmp o) (λ_ _ g=>holds_raw.2 ⟨rfl,by rw[(holds_raw.1 g).1];exact(holds_raw.1 g).2⟩) (λ_ _ g=>by obtain⟨rfl,_⟩:=holds_raw.1 g;exact(.cons_cons _ .slnil))
theorem sP(C:Value)(f u H r)(h:iG f u H=some r):Fn PP 91 [tp C,.one (.int .u64) u,ti H] [Res.cls aU C f] (λ_=> .tup []) (λ_=>[Res.cls aU C r]):=by
 unfold iG at h
 refine enter Tryz.func91 o 32 o o λF=>?_
 refine cw λR w hp=>?_
 subst hp
 refine bF (x:=f) ?_
 refine zs<|zs<|js λd=>?_
 refine zr<|zm 3 o<|yl 0 f1 fk o o o tr o<|zA o<|rI h o (λhc h=>?_) λhc h=>?_
 ·refine zR<|zT<|bF (x:=f) ?_
  cases h
  exact rp o (λ_=>aI [] .nil) ((.cons_cons _ .slnil))
 refine zy<|q 3 [(0,ptr R 0),(1,.one (.int .u64) u),(6,ti (wrap .i64 (H - 1)))] [] o ?_
 obtain⟨m,e,h⟩:=al h;rw[e]
 refine za<|bX h λG O h=>?_
 refine rq (γ:=Value) (λ(W:List (Int)) g7=>[]) (λ(W:List (Int)) g7=>[Res.var R 161 W50 (g7,f.2.1,f.2.2),Res.own g7 5 (.int .u8) W]) G r ?_ ?_
 ·refine zb<|ah [0,1,6] o<|bg (γ:=Value) (λ(c:Int×List (Int)) g12=>[(0,ptr R 0),(1,.one (.int .u64) u),(6,ti c.1)]) (λ(c:Int×List (Int)) g12=>[Res.var R 161 W50 (g12,f.2.1,f.2.2),Res.own g12 5 (.int .u8) c.2]) (eB u G) (m,f.1) d h o o ?_
  clear h
  intro N c g12 h
  cases N with
  |zero=>cases h
  |succ N=>
  simp only[eB]at h
  refine zs<|zW o<|rI h o (λhc h=>?_) λhc h=>?_
  ·refine zk<|zt<|zs<|zb<|dS kr<|zF 5 [0,1,5,6,7] kr o o<|iE h λhc h=>ga 8 (.one (.int .u64) (bS .u64 u (wrap .i64 (8*c.1)))) o kr (oF o o hc)<|zF 1 [9] kr o o ?_
   refine br (i:=2) (j:=10) kr o o ?_ ?_
   ·refine zA o<|ah [0,1,6,18,20,27] o<|zF 1 [3] kr o o ?_
    refine br (i:=4) (j:=10) kr o o ?_ ?_
    ·refine yl 0 f0 tx0 o o o tr o<|zL [0,1,6,18,22,27] o<|af 10 kr o<|bu (B:=1) ag o el5 o o o (.cons o .nil) o λJ=>?_
     refine zL [0,1,6,18,22,28] o<|af 11 kr o<|iE h λhc h=>bd (B:=1) ag 2 o o (bL 0 o o) o el5 o o hc o λM=>?_
     refine pk [1,1] o<|zL [0,1,6,18,29] o<|af 12 kr o<|zA o<|ah [0,1,6,29,30] o<|zF 1 [13] kr o o<|af 14 kr o<|st 0 f0 tx0 o o o o tr<|nL o<|zL [0,1,6] o<|aN kr<|zi<|zt<|zr ?_
     refine q 3 [(6,ti (wrap .i64 (c.1 - 1)))] [0,1] o ?_
     obtain⟨V,e,h⟩:=al h;rw[e]
     exact za<|aX (V,(c.2++[(wrap .u8 (bS .u64 u (wrap .i64 (8*c.1))))])) M (Nat.lt_succ_self _) h o o
    refine bu (B:=1) ag o el5 o o o (.cons o .nil) o λJ=>?_
    refine zL [0,1,6,18,21,28] o<|af 4 kr o<|yl 1 f0 tx0 o o o tr o<|zL [0,1,6,18,22,28] o<|af 11 kr o<|iE h λhc h=>bd (B:=1) ag 2 o o (bL 0 o o) o el5 o o hc o λM=>?_
    refine pk [1,1] o<|zL [0,1,6,18,29] o<|af 12 kr o<|zA o<|ah [0,1,6,29,30] o<|zF 1 [13] kr o o<|af 14 kr o<|st 0 f0 tx0 o o o o tr<|nL o<|zL [0,1,6] o<|aN kr<|zi<|zt<|zr ?_
    refine q 3 [(6,ti (wrap .i64 (c.1 - 1)))] [0,1] o ?_
    obtain⟨V,e,h⟩:=al h;rw[e]
    exact za<|aX (V,(c.2++[(wrap .u8 (bS .u64 u (wrap .i64 (8*c.1))))])) M (Nat.lt_succ_self _) h o o
   refine bu (B:=1) ag o el5 o o o (.cons o .nil) o λJ=>?_
   refine zL [0,1,6,18,19,28] o<|af 2 kr o<|zA o<|ah [0,1,6,18,20,28] o<|zF 1 [3] kr o o<|af 4 kr o<|yl 1 f0 tx0 o o o tr o<|zL [0,1,6,18,22,28] o<|af 11 kr o<|iE h λhc h=>bd (B:=1) ag 2 o o (bL 0 o o) o el5 o o hc o λM=>?_
   refine pk [1,1] o<|zL [0,1,6,18,29] o<|af 12 kr o<|zA o<|ah [0,1,6,29,30] o<|zF 1 [13] kr o o<|af 14 kr o<|st 0 f0 tx0 o o o o tr<|nL o<|zL [0,1,6] o<|aN kr<|zi<|zt<|zr ?_
   refine q 3 [(6,ti (wrap .i64 (c.1 - 1)))] [0,1] o ?_
   obtain⟨V,e,h⟩:=al h;rw[e]
   exact za<|aX (V,(c.2++[(wrap .u8 (bS .u64 u (wrap .i64 (8*c.1))))])) M (Nat.lt_succ_self _) h o o
  exact zx<|ze<|ze<|zq<|zt<|ai c.2 g12 h o o
 intro W g7 h
 rw[←O]at h
 try dsimp only at h
 refine bF (x:=(W,f.2.1,f.2.2)) ?_
 cases h
 exact et o (λ_=>aI [] .nil) ((.cons_cons _ .slnil))
theorem cC(c:Value)(f u r)(h:ca f u=some r):Fn PP 29 [tp c,ti u] [Res.cls aU c f] (λ_=> .tup []) (λ_=>[Res.cls aU c r]):=by
 unfold ca at h
 refine enter Tryz.func29 o 8 o o λF=>?_
 refine cw λV R hp=>?_
 subst hp
 refine bF (x:=f) ?_
 refine zr<|zm 3 o<|cB h λW M h=>rc [0] (sP _ _ _ _ _ M) kr o o o λ_=>zn ?_
 cases h
 exact et o (λ_=>aI [] .nil) ((.cons_cons _ .slnil))
theorem tk(C:Value)(f u H r)(h:jq f u H=some r):Fn PP 92 [tp C,.one (.int .u8) u,ti H] [Res.cls aU C f] (λ_=> .tup []) (λ_=>[Res.cls aU C r]):=by
 unfold jq at h
 refine enter Tryz.func92 o 33 o o λF=>?_
 refine cw λR w hp=>?_
 subst hp
 refine bF (x:=f) ?_
 refine zs<|zs<|js λd=>?_
 refine zr<|zm 3 o<|yl 0 f1 fk o o o tr o<|zA o<|rI h o (λhc h=>?_) λhc h=>?_
 ·refine zR<|zT<|bF (x:=f) ?_
  cases h
  exact rp o (λ_=>aI [] .nil) ((.cons_cons _ .slnil))
 refine zy<|q 3 [(0,ptr R 0),(1,.one (.int .u8) u),(6,ti (wrap .i64 (H - 1)))] [] o ?_
 obtain⟨m,e,h⟩:=al h;rw[e]
 refine za<|bX h λG O h=>?_
 refine rq (γ:=Value) (λ(W:List (Int)) g7=>[]) (λ(W:List (Int)) g7=>[Res.var R 161 W50 (g7,f.2.1,f.2.2),Res.own g7 5 (.int .u8) W]) G r ?_ ?_
 ·refine zb<|ah [0,1,6] o<|bg (γ:=Value) (λ(c:Int×List (Int)) g12=>[(0,ptr R 0),(1,.one (.int .u8) u),(6,ti c.1)]) (λ(c:Int×List (Int)) g12=>[Res.var R 161 W50 (g12,f.2.1,f.2.2),Res.own g12 5 (.int .u8) c.2]) (eV u G) (m,f.1) d h o o ?_
  clear h
  intro N c g12 h
  cases N with
  |zero=>cases h
  |succ N=>
  simp only[eV]at h
  refine zs<|zW o<|rI h o (λhc h=>?_) λhc h=>?_
  ·refine zk<|zt<|zs<|zb<|dS kr<|zF 6 [0,1,5,6,7,8] kr o o<|iE h λhc h=>ga 9 (.one (.int .u64) (bS .u64 (wrap .u64 u) (wrap .i64 (8*c.1)))) o kr (oF o o hc)<|zF 1 [10] kr o o ?_
   refine br (i:=2) (j:=11) kr o o ?_ ?_
   ·refine zA o<|ah [0,1,6,18,20,28] o<|zF 1 [3] kr o o ?_
    refine br (i:=4) (j:=11) kr o o ?_ ?_
    ·refine yl 0 f0 tx0 o o o tr o<|zL [0,1,6,18,22,28] o<|af 11 kr o<|bu (B:=1) ag o el5 o o o (.cons o .nil) o λJ=>?_
     refine zL [0,1,6,18,22,29] o<|af 12 kr o<|iE h λhc h=>bd (B:=1) ag 2 o o (bL 0 o o) o el5 o o hc o λM=>?_
     refine pk [1,1] o<|zL [0,1,6,18,30] o<|af 13 kr o<|zA o<|ah [0,1,6,30,31] o<|zF 1 [14] kr o o<|af 15 kr o<|st 0 f0 tx0 o o o o tr<|nL o<|zL [0,1,6] o<|aN kr<|zi<|zt<|zr ?_
     refine q 3 [(6,ti (wrap .i64 (c.1 - 1)))] [0,1] o ?_
     obtain⟨V,e,h⟩:=al h;rw[e]
     exact za<|aX (V,(c.2++[(wrap .u8 (bS .u64 (wrap .u64 u) (wrap .i64 (8*c.1))))])) M (Nat.lt_succ_self _) h o o
    refine bu (B:=1) ag o el5 o o o (.cons o .nil) o λJ=>?_
    refine zL [0,1,6,18,21,29] o<|af 4 kr o<|yl 1 f0 tx0 o o o tr o<|zL [0,1,6,18,22,29] o<|af 12 kr o<|iE h λhc h=>bd (B:=1) ag 2 o o (bL 0 o o) o el5 o o hc o λM=>?_
    refine pk [1,1] o<|zL [0,1,6,18,30] o<|af 13 kr o<|zA o<|ah [0,1,6,30,31] o<|zF 1 [14] kr o o<|af 15 kr o<|st 0 f0 tx0 o o o o tr<|nL o<|zL [0,1,6] o<|aN kr<|zi<|zt<|zr ?_
    refine q 3 [(6,ti (wrap .i64 (c.1 - 1)))] [0,1] o ?_
    obtain⟨V,e,h⟩:=al h;rw[e]
    exact za<|aX (V,(c.2++[(wrap .u8 (bS .u64 (wrap .u64 u) (wrap .i64 (8*c.1))))])) M (Nat.lt_succ_self _) h o o
   refine bu (B:=1) ag o el5 o o o (.cons o .nil) o λJ=>?_
   refine zL [0,1,6,18,19,29] o<|af 2 kr o<|zA o<|ah [0,1,6,18,20,29] o<|zF 1 [3] kr o o<|af 4 kr o<|yl 1 f0 tx0 o o o tr o<|zL [0,1,6,18,22,29] o<|af 12 kr o<|iE h λhc h=>bd (B:=1) ag 2 o o (bL 0 o o) o el5 o o hc o λM=>?_
   refine pk [1,1] o<|zL [0,1,6,18,30] o<|af 13 kr o<|zA o<|ah [0,1,6,30,31] o<|zF 1 [14] kr o o<|af 15 kr o<|st 0 f0 tx0 o o o o tr<|nL o<|zL [0,1,6] o<|aN kr<|zi<|zt<|zr ?_
   refine q 3 [(6,ti (wrap .i64 (c.1 - 1)))] [0,1] o ?_
   obtain⟨V,e,h⟩:=al h;rw[e]
   exact za<|aX (V,(c.2++[(wrap .u8 (bS .u64 (wrap .u64 u) (wrap .i64 (8*c.1))))])) M (Nat.lt_succ_self _) h o o
  exact zx<|ze<|ze<|zq<|zt<|ai c.2 g12 h o o
 intro W g7 h
 rw[←O]at h
 try dsimp only at h
 refine bF (x:=(W,f.2.1,f.2.2)) ?_
 cases h
 exact et o (λ_=>aI [] .nil) ((.cons_cons _ .slnil))
theorem fJ(c:Value)(f u r)(h:dy f u=some r):Fn PP 30 [tp c,.one (.int .u8) u] [Res.cls aU c f] (λ_=> .tup []) (λ_=>[Res.cls aU c r]):=by
 unfold dy at h
 refine enter Tryz.func30 o 7 o o λF=>?_
 refine cw λV R hp=>?_
 subst hp
 refine bF (x:=f) ?_
 refine zr<|zm 2 o<|cB h λW M h=>rc [0] (tk _ _ _ _ _ M) kr o o o λ_=>zn ?_
 cases h
 exact et o (λ_=>aI [] .nil) ((.cons_cons _ .slnil))
theorem nY(C:Value)(f u H r)(h:gF f u H=some r):Fn PP 95 [tp C,.one (.int .u16) u,ti H] [Res.cls aU C f] (λ_=> .tup []) (λ_=>[Res.cls aU C r]):=by
 unfold gF at h
 refine enter Tryz.func95 o 33 o o λF=>?_
 refine cw λR w hp=>?_
 subst hp
 refine bF (x:=f) ?_
 refine zs<|zs<|js λd=>?_
 refine zr<|zm 3 o<|yl 0 f1 fk o o o tr o<|zA o<|rI h o (λhc h=>?_) λhc h=>?_
 ·refine zR<|zT<|bF (x:=f) ?_
  cases h
  exact rp o (λ_=>aI [] .nil) ((.cons_cons _ .slnil))
 refine zy<|q 3 [(0,ptr R 0),(1,.one (.int .u16) u),(6,ti (wrap .i64 (H - 1)))] [] o ?_
 obtain⟨m,e,h⟩:=al h;rw[e]
 refine za<|bX h λG O h=>?_
 refine rq (γ:=Value) (λ(W:List (Int)) g7=>[]) (λ(W:List (Int)) g7=>[Res.var R 161 W50 (g7,f.2.1,f.2.2),Res.own g7 5 (.int .u8) W]) G r ?_ ?_
 ·refine zb<|ah [0,1,6] o<|bg (γ:=Value) (λ(c:Int×List (Int)) g12=>[(0,ptr R 0),(1,.one (.int .u16) u),(6,ti c.1)]) (λ(c:Int×List (Int)) g12=>[Res.var R 161 W50 (g12,f.2.1,f.2.2),Res.own g12 5 (.int .u8) c.2]) (eC u G) (m,f.1) d h o o ?_
  clear h
  intro N c g12 h
  cases N with
  |zero=>cases h
  |succ N=>
  simp only[eC]at h
  refine zs<|zW o<|rI h o (λhc h=>?_) λhc h=>?_
  ·refine zk<|zt<|zs<|zb<|dS kr<|zF 6 [0,1,5,6,7,8] kr o o<|iE h λhc h=>ga 9 (.one (.int .u64) (bS .u64 (wrap .u64 u) (wrap .i64 (8*c.1)))) o kr (oF o o hc)<|zF 1 [10] kr o o ?_
   refine br (i:=2) (j:=11) kr o o ?_ ?_
   ·refine zA o<|ah [0,1,6,18,20,28] o<|zF 1 [3] kr o o ?_
    refine br (i:=4) (j:=11) kr o o ?_ ?_
    ·refine yl 0 f0 tx0 o o o tr o<|zL [0,1,6,18,22,28] o<|af 11 kr o<|bu (B:=1) ag o el5 o o o (.cons o .nil) o λJ=>?_
     refine zL [0,1,6,18,22,29] o<|af 12 kr o<|iE h λhc h=>bd (B:=1) ag 2 o o (bL 0 o o) o el5 o o hc o λM=>?_
     refine pk [1,1] o<|zL [0,1,6,18,30] o<|af 13 kr o<|zA o<|ah [0,1,6,30,31] o<|zF 1 [14] kr o o<|af 15 kr o<|st 0 f0 tx0 o o o o tr<|nL o<|zL [0,1,6] o<|aN kr<|zi<|zt<|zr ?_
     refine q 3 [(6,ti (wrap .i64 (c.1 - 1)))] [0,1] o ?_
     obtain⟨V,e,h⟩:=al h;rw[e]
     exact za<|aX (V,(c.2++[(wrap .u8 (bS .u64 (wrap .u64 u) (wrap .i64 (8*c.1))))])) M (Nat.lt_succ_self _) h o o
    refine bu (B:=1) ag o el5 o o o (.cons o .nil) o λJ=>?_
    refine zL [0,1,6,18,21,29] o<|af 4 kr o<|yl 1 f0 tx0 o o o tr o<|zL [0,1,6,18,22,29] o<|af 12 kr o<|iE h λhc h=>bd (B:=1) ag 2 o o (bL 0 o o) o el5 o o hc o λM=>?_
    refine pk [1,1] o<|zL [0,1,6,18,30] o<|af 13 kr o<|zA o<|ah [0,1,6,30,31] o<|zF 1 [14] kr o o<|af 15 kr o<|st 0 f0 tx0 o o o o tr<|nL o<|zL [0,1,6] o<|aN kr<|zi<|zt<|zr ?_
    refine q 3 [(6,ti (wrap .i64 (c.1 - 1)))] [0,1] o ?_
    obtain⟨V,e,h⟩:=al h;rw[e]
    exact za<|aX (V,(c.2++[(wrap .u8 (bS .u64 (wrap .u64 u) (wrap .i64 (8*c.1))))])) M (Nat.lt_succ_self _) h o o
   refine bu (B:=1) ag o el5 o o o (.cons o .nil) o λJ=>?_
   refine zL [0,1,6,18,19,29] o<|af 2 kr o<|zA o<|ah [0,1,6,18,20,29] o<|zF 1 [3] kr o o<|af 4 kr o<|yl 1 f0 tx0 o o o tr o<|zL [0,1,6,18,22,29] o<|af 12 kr o<|iE h λhc h=>bd (B:=1) ag 2 o o (bL 0 o o) o el5 o o hc o λM=>?_
   refine pk [1,1] o<|zL [0,1,6,18,30] o<|af 13 kr o<|zA o<|ah [0,1,6,30,31] o<|zF 1 [14] kr o o<|af 15 kr o<|st 0 f0 tx0 o o o o tr<|nL o<|zL [0,1,6] o<|aN kr<|zi<|zt<|zr ?_
   refine q 3 [(6,ti (wrap .i64 (c.1 - 1)))] [0,1] o ?_
   obtain⟨V,e,h⟩:=al h;rw[e]
   exact za<|aX (V,(c.2++[(wrap .u8 (bS .u64 (wrap .u64 u) (wrap .i64 (8*c.1))))])) M (Nat.lt_succ_self _) h o o
  exact zx<|ze<|ze<|zq<|zt<|ai c.2 g12 h o o
 intro W g7 h
 rw[←O]at h
 try dsimp only at h
 refine bF (x:=(W,f.2.1,f.2.2)) ?_
 cases h
 exact et o (λ_=>aI [] .nil) ((.cons_cons _ .slnil))
theorem eG(c:Value)(f u r)(h:cJ f u=some r):Fn PP 33 [tp c,.one (.int .u16) u] [Res.cls aU c f] (λ_=> .tup []) (λ_=>[Res.cls aU c r]):=by
 unfold cJ at h
 refine enter Tryz.func33 o 7 o o λF=>?_
 refine cw λV R hp=>?_
 subst hp
 refine bF (x:=f) ?_
 refine zr<|zm 2 o<|cB h λW M h=>rc [0] (nY _ _ _ _ _ M) kr o o o λ_=>zn ?_
 cases h
 exact et o (λ_=>aI [] .nil) ((.cons_cons _ .slnil))
theorem jb(f:Value)(c u r)(h:eR c u=some r):Fn PP 94 [tp f,ts u] [Res.cls aU f c] (λ_=> .tup []) (λ_=>[Res.cls aU f r]):=by
 unfold eR at h
 refine enter Tryz.func94 o 18 o o λF=>?_
 refine cw λM V hp=>?_
 subst hp
 refine bF (x:=c) ?_
 refine zs<|js λR=>?_
 refine zr<|zm 3 o<|yl 0 f1 fk o o o tr o<|zA o<|rI h o (λhc h=>?_) λhc h=>?_
 ·refine zr<|zm 4 o<|yl 0 f0 tx0 o o o tr o<|zm 1 o<|iE h λhc h=>bd (B:=1) ag 1 o o (Ae o) o el5 o o hc o λW=>?_
  refine zm 2 o<|st 0 f0 tx0 o o o o tr<|nL o<|zn<|bF (x:=((c.1++u),c.2.1,c.2.2)) ?_
  cases h
  exact et o (λ_=>aI [] .nil) ((.cons_cons _ .slnil))
 refine zk<|bF (x:=c) ?_
 cases h
 exact et o (λ_=>aI [] .nil) ((.cons_cons _ .slnil))
theorem eo(c:Value)(f u r)(h:cE f u=some r):Fn PP 35 [tp c,.one W66 u] [Res.cls aU c f] (λ_=> .tup []) (λ_=>[Res.cls aU c r]):=by
 unfold cE at h
 refine enter Tryz.func35 o 8 o o λF=>?_
 refine cw λV R hp=>?_
 subst hp
 refine bF (x:=f) ?_
 refine zu<|bA o o λW=>za<|zr<|zm 1 o<|y (uh o vk o ty5) o ?_
 refine y (w7 ag 0 .here o o o aa o o o o) o ?_
 refine cB h λC M h=>rc [1] (jb _ _ _ _ M) kr o o o λ_=>zn ?_
 cases h
 exact et o (λ_=>aI [] .nil) ((.cons_cons _ (.cons _ .slnil)))
theorem rJ(M:Value)(c f r)(h:il c f=some r):Fn PP 142 [tp M,ts f] [Res.cls aU M c] (λ_=> .tup []) (λ_=>[Res.cls aU M r]):=by
 unfold il at h
 refine enter Tryz.func142 o 25 o o λF=>?_
 refine cw λu G hp=>?_
 subst hp
 refine bF (x:=c) ?_
 refine bv h (λV=>[(0,ptr u 0),(1,ts f)]) (λV=>[Res.cls aU (.pointer (some ⟨u,0,none⟩)) V]) (λN h=>?_) λV h=>?_
 ·refine zs<|js λR=>?_
  refine zr<|zm 3 o<|yl 0 f1 fk o o o tr o<|q 2 [(0,ptr u 0),(1,ts f),(9,tb (c.2.1==0))] [] o ?_
  obtain⟨W,e,h⟩:=al h;rw[e]
  refine aM 4 [(0,ptr u 0),(1,ts f),(13,tb (W&&(decide ((List.length f:Int)>65535))))] [Res.var u 161 W50 (R,c.2.1,c.2.2),Res.own R 5 (.int .u8) c.1] (?_) ?_
  ·clear h
   cases W
   ·exact zA o<|ap () o o
   exact zA o<|ap () o o
  refine za<|rI h o (λhc h=>?_) λhc h=>?_
  ·refine zr<|zm 3 o<|st 0 f1 fk o o o o tr<|za<|bF (x:=(c.1,3,c.2.2)) ?_
   exact ai (c.1,3,c.2.2) () h o o
  refine zk<|zt<|bF (x:=c) ?_
  exact ai c () h o o
 refine zU 4 o<|cB h λJ C h=>rc [0] (nY _ _ _ _ _ C) kr o o o λ_=>za<|zr<|zm 2 o<|cB h λd H h=>rc [0] (jb _ _ _ _ H) kr o o o λ_=>zn ?_
 cases h
 exact et o (λ_=>aI [] .nil) ((.cons_cons _ .slnil))
theorem gC(f:Value)(c r)(h:cX c=some r):Fn PP 37 [tp f] [Res.cls aU f c] (λ_=> .tup [⟨.str,r.1⟩,⟨(.int .i64),r.2⟩]) (λ_=>[Res.cls aU f c]):=by
 unfold cX at h
 refine enter Tryz.func37 o 18 o o λF=>?_
 refine cw λu M hp=>?_
 subst hp
 refine bF (x:=c) ?_
 refine zW o<|zs<|zs<|js λV=>?_
 refine zr<|zm 3 o<|yl 0 f1 fk o o o tr o<|zA o<|rI h o (λhc h=>?_) λhc h=>?_
 ·refine zs<|eL kr kr ?_
  refine ay ag 3 [11] (E':=[(11,ptr u 1)]) o ?_
  refine q_y (aL 0 f1 o o o (ab (aq aa)) fk) o ?_
  refine ay ag 2 [2,3] (E':=[(2,ts []),(3,ti c.2.1)]) o ?_
  refine fa ?_
  refine zt<|zR<|zT<|bF (x:=c) ?_
  cases h
  exact aE (rs:=[.tmp 2,.tmp 3]) o (.cons (.tmp o) (.cons (.tmp o) (.nil))) o (λ_ vs g=>aI vs g) (λ_ _ _=>(.cons_cons _ .slnil))
 refine zy<|zm 3 o<|yl 0 f0 tx0 o o o tr o<|y (vx ag 1 o o o o o) o ?_
 refine zE o<|bF (x:=c) ?_
 cases h
 exact aE (rs:=[.tmp 2,.tmp 3]) o (.cons (.tmp o) (.cons (.tmp o) (.nil))) o (λ_ vs g=>aI vs g) (λ_ _ _=>(.cons_cons _ .slnil))
theorem qD(c r)(h:kj c=some r):bm PP 93 [.one Y52 c] (.tup [⟨.str,r.1⟩,⟨(.int .i64),r.2⟩]):=by
 unfold kj at h
 refine enter Tryz.func93 o 47 o o λF=>?_
 refine zu<|bA o o λM=>zA o<|zs<|zu<|yl 0 .here bB o o o tr o<|cB h λr3 V h=>ar (iy _ _ V) kr o o<|zA o<|rI h o (λhc h=>zU 2 o<|zf<|zT<|by cases h;exact aE (rs:=[.tmp 2,.tmp 3]) o (.cons (.tmp o) (.cons (.tmp o) (.nil))) o (λ_ vs g=>aI vs g) (λ_ _ _=>List.nil_sublist _)) λhc h=>?_
 refine zy<|cB h λr4 R h=>rc [] (m1 _ R) kr o o o λf=>zm 1 o<|zZ 2 o<|yl 1 f0 ty3 o o o tr o<|zm 1 o<|cB h λr6 W h=>rc [0] (fJ _ _ _ _ W) kr o o o λ_=>zZ 2 o<|yl 1 f1 ty2 o o o tr o<|q 1 [(1,ptr M 0),(4,tp f),(14,tp f),(17,.one (.int .u16) (wrap .u16 c.2.1))] [] o<|cB h λC H h=>rc [0] (eG _ _ _ _ H) kr o o o λ_=>?_
 refine za<|bv h (λu=>[(4,tp f)]) (λu=>[Res.cls aU f u,Res.var M 52 Y52 c]) (λk8 h=>?_) λu h=>?_
 ·refine zU 1 o<|yl 1 f0 ty3 o o o tr o<|za<|zb<|zW o<|rI h o (λhc h=>zU 2 o<|yl 1 f2 ty2 o o o tr o<|cB h λa1 G h=>rc [0] (cC _ _ _ _ G) kr o o o λ_=>za<|zr<|zm 2 o<|yl 1 f3 bH o o o tr o<|cB h λN J h=>rc [0] (eo _ _ _ _ J) kr o o o λ_=>zn<|zi<|zt<|ai N () h o o) λhc h=>zW o<|rI h o (λhc h=>zr<|zm 2 o<|yl 1 f3 bH o o o tr o<|cB h λd m h=>rc [0] (eo _ _ _ _ m) kr o o o λ_=>zn<|zi<|zt<|ai d () h o o) λhc h=>zW o<|rI h o (λhc h=>zr<|zm 2 o<|yl 1 f4 ty9 o o o tr o<|cB h λO w h=>rc [0] (rJ _ _ _ _ w) kr o o o λ_=>zn<|zi<|zt<|ai O () h o o) λhc h=>?_
  exact zk<|zi<|zt<|ai C () h o o
 refine zU 1 o<|cB h λa2 Z h=>rc [0] (gC _ _ _ Z) kr o o o λ_=>zE o ?_
 cases h
 exact aE (rs:=[.tmp 2,.tmp 3]) o (.cons (.tmp o) (.cons (.tmp o) (.nil))) o (λ_ vs g=>aI vs g) (λ_ _ _=>List.nil_sublist _)
theorem ta(M:Value)(V c r)(h:pE V c=some r):Fn PP 31 [tp M,.one W76 c] [Res.cls aU M V] (λ_=> .tup []) (λ_=>[Res.cls aU M r]):=by
 unfold pE at h
 refine enter Tryz.func31 o 28 o o λF=>?_
 refine cw λu O hp=>?_
 subst hp
 refine bF (x:=V) ?_
 refine zU 4 o<|cB h λH G h=>rc [0] (eG _ _ _ _ G) kr o o o λ_=>zz<|q 3 [(0,ptr u 0),(13,.one W76 c),(14,ti (List.length c:Int)),(15,ti 0)] [] o<|za<|bX h λW N h=>?_
 refine rq (γ:=Unit) (λ(R:bi) _=>[]) (λ(R:bi) _=>[Res.cls aU (.pointer (some ⟨u,0,none⟩)) R]) W r ?_ ?_
 ·refine zb<|ah [0,13,14,15] o<|bg (γ:=Unit) (λ(f:Int×bi) _=>[(0,ptr u 0),(13,.one W76 c),(14,ti (List.length c:Int)),(15,ti f.1)]) (λ(f:Int×bi) _=>[Res.cls aU (.pointer (some ⟨u,0,none⟩)) f.2]) (mR c W) (0,H) () h o o ?_
  clear h
  intro C f gg h
  cases C with
  |zero=>cases h
  |succ C=>
  simp only[mR]at h
  refine zW o<|zs<|rI h o (λhc h=>?_) λhc h=>?_
  ·refine zk<|zt<|zs<|zb<|zu<|iE h λhc h=>y (eZ ag o o hc.1 hc.2 o bB) o ?_
   refine y (fP o bB) o ?_
   refine aC (t:=Y52) o ja o λw=>st 0 .here bB o o o o tr<|zz<|yl 0 .here bB o o o tr o<|cB h λZ J h=>ar (qD _ _ J) kr o o<|zA o<|zr<|zm 2 o<|cB h λd m h=>rc [1] (jb _ _ _ _ m) kr o o o λ_=>zn<|zi<|zt ?_
   exact zr<|zA o<|pk [0] o<|aX ((wrap .i64 (f.1+1)),d) () (Nat.lt_succ_self _) h o o
  exact zx<|ze<|ze<|zq<|zt<|ai f.2 () h o o
 intro R gg h
 rw[←N]at h
 try dsimp only at h
 cases h
 exact et o (λ_=>aI [] .nil) ((.cons_cons _ .slnil))
theorem tc(c:Value)(f u r)(h:pF f u=some r):Fn PP 34 [tp c,tb u] [Res.cls aU c f] (λ_=> .tup []) (λ_=>[Res.cls aU c r]):=by
 unfold pF at h
 refine enter Tryz.func34 o 9 o o λF=>?_
 refine cw λR W hp=>?_
 subst hp
 refine bF (x:=f) ?_
 refine zs<|zW o<|rI h o (λhc h=>zU 1 o<|cB h λC M h=>rc [0] (fJ _ _ _ _ M) kr o o o λ_=>zf<|zT<|by cases h;exact rp o (λ_=>aI [] .nil) ((.cons_cons _ .slnil))) λhc h=>zk<|zt<|zr<|zm 1 o<|cB h λH V h=>rc [0] (fJ _ _ _ _ V) kr o o o λ_=>zn ?_
 cases h
 exact et o (λ_=>aI [] .nil) ((.cons_cons _ .slnil))
theorem sQ(C:Value)(f u H r)(h:mi f u H=some r):Fn PP 96 [tp C,.one (.int .u32) u,ti H] [Res.cls aU C f] (λ_=> .tup []) (λ_=>[Res.cls aU C r]):=by
 unfold mi at h
 refine enter Tryz.func96 o 33 o o λF=>?_
 refine cw λR w hp=>?_
 subst hp
 refine bF (x:=f) ?_
 refine zs<|zs<|js λd=>?_
 refine zr<|zm 3 o<|yl 0 f1 fk o o o tr o<|zA o<|rI h o (λhc h=>?_) λhc h=>?_
 ·refine zR<|zT<|bF (x:=f) ?_
  cases h
  exact rp o (λ_=>aI [] .nil) ((.cons_cons _ .slnil))
 refine zy<|q 3 [(0,ptr R 0),(1,.one (.int .u32) u),(6,ti (wrap .i64 (H - 1)))] [] o ?_
 obtain⟨m,e,h⟩:=al h;rw[e]
 refine za<|bX h λG O h=>?_
 refine rq (γ:=Value) (λ(W:List (Int)) g7=>[]) (λ(W:List (Int)) g7=>[Res.var R 161 W50 (g7,f.2.1,f.2.2),Res.own g7 5 (.int .u8) W]) G r ?_ ?_
 ·refine zb<|ah [0,1,6] o<|bg (γ:=Value) (λ(c:Int×List (Int)) g12=>[(0,ptr R 0),(1,.one (.int .u32) u),(6,ti c.1)]) (λ(c:Int×List (Int)) g12=>[Res.var R 161 W50 (g12,f.2.1,f.2.2),Res.own g12 5 (.int .u8) c.2]) (iV u G) (m,f.1) d h o o ?_
  clear h
  intro N c g12 h
  cases N with
  |zero=>cases h
  |succ N=>
  simp only[iV]at h
  refine zs<|zW o<|rI h o (λhc h=>?_) λhc h=>?_
  ·refine zk<|zt<|zs<|zb<|dS kr<|zF 6 [0,1,5,6,7,8] kr o o<|iE h λhc h=>ga 9 (.one (.int .u64) (bS .u64 (wrap .u64 u) (wrap .i64 (8*c.1)))) o kr (oF o o hc)<|zF 1 [10] kr o o ?_
   refine br (i:=2) (j:=11) kr o o ?_ ?_
   ·refine zA o<|ah [0,1,6,18,20,28] o<|zF 1 [3] kr o o ?_
    refine br (i:=4) (j:=11) kr o o ?_ ?_
    ·refine yl 0 f0 tx0 o o o tr o<|zL [0,1,6,18,22,28] o<|af 11 kr o<|bu (B:=1) ag o el5 o o o (.cons o .nil) o λJ=>?_
     refine zL [0,1,6,18,22,29] o<|af 12 kr o<|iE h λhc h=>bd (B:=1) ag 2 o o (bL 0 o o) o el5 o o hc o λM=>?_
     refine pk [1,1] o<|zL [0,1,6,18,30] o<|af 13 kr o<|zA o<|ah [0,1,6,30,31] o<|zF 1 [14] kr o o<|af 15 kr o<|st 0 f0 tx0 o o o o tr<|nL o<|zL [0,1,6] o<|aN kr<|zi<|zt<|zr ?_
     refine q 3 [(6,ti (wrap .i64 (c.1 - 1)))] [0,1] o ?_
     obtain⟨V,e,h⟩:=al h;rw[e]
     exact za<|aX (V,(c.2++[(wrap .u8 (bS .u64 (wrap .u64 u) (wrap .i64 (8*c.1))))])) M (Nat.lt_succ_self _) h o o
    refine bu (B:=1) ag o el5 o o o (.cons o .nil) o λJ=>?_
    refine zL [0,1,6,18,21,29] o<|af 4 kr o<|yl 1 f0 tx0 o o o tr o<|zL [0,1,6,18,22,29] o<|af 12 kr o<|iE h λhc h=>bd (B:=1) ag 2 o o (bL 0 o o) o el5 o o hc o λM=>?_
    refine pk [1,1] o<|zL [0,1,6,18,30] o<|af 13 kr o<|zA o<|ah [0,1,6,30,31] o<|zF 1 [14] kr o o<|af 15 kr o<|st 0 f0 tx0 o o o o tr<|nL o<|zL [0,1,6] o<|aN kr<|zi<|zt<|zr ?_
    refine q 3 [(6,ti (wrap .i64 (c.1 - 1)))] [0,1] o ?_
    obtain⟨V,e,h⟩:=al h;rw[e]
    exact za<|aX (V,(c.2++[(wrap .u8 (bS .u64 (wrap .u64 u) (wrap .i64 (8*c.1))))])) M (Nat.lt_succ_self _) h o o
   refine bu (B:=1) ag o el5 o o o (.cons o .nil) o λJ=>?_
   refine zL [0,1,6,18,19,29] o<|af 2 kr o<|zA o<|ah [0,1,6,18,20,29] o<|zF 1 [3] kr o o<|af 4 kr o<|yl 1 f0 tx0 o o o tr o<|zL [0,1,6,18,22,29] o<|af 12 kr o<|iE h λhc h=>bd (B:=1) ag 2 o o (bL 0 o o) o el5 o o hc o λM=>?_
   refine pk [1,1] o<|zL [0,1,6,18,30] o<|af 13 kr o<|zA o<|ah [0,1,6,30,31] o<|zF 1 [14] kr o o<|af 15 kr o<|st 0 f0 tx0 o o o o tr<|nL o<|zL [0,1,6] o<|aN kr<|zi<|zt<|zr ?_
   refine q 3 [(6,ti (wrap .i64 (c.1 - 1)))] [0,1] o ?_
   obtain⟨V,e,h⟩:=al h;rw[e]
   exact za<|aX (V,(c.2++[(wrap .u8 (bS .u64 (wrap .u64 u) (wrap .i64 (8*c.1))))])) M (Nat.lt_succ_self _) h o o
  exact zx<|ze<|ze<|zq<|zt<|ai c.2 g12 h o o
 intro W g7 h
 rw[←O]at h
 try dsimp only at h
 refine bF (x:=(W,f.2.1,f.2.2)) ?_
 cases h
 exact et o (λ_=>aI [] .nil) ((.cons_cons _ .slnil))
theorem nZ(c:Value)(f u r)(h:jS f u=some r):Fn PP 36 [tp c,.one (.int .u32) u] [Res.cls aU c f] (λ_=> .tup []) (λ_=>[Res.cls aU c r]):=by
 unfold jS at h
 refine enter Tryz.func36 o 7 o o λF=>?_
 refine cw λV R hp=>?_
 subst hp
 refine bF (x:=f) ?_
 refine zr<|zm 2 o<|cB h λW M h=>rc [0] (sQ _ _ _ _ _ M) kr o o o λ_=>zn ?_
 cases h
 exact et o (λ_=>aI [] .nil) ((.cons_cons _ .slnil))
theorem rK(a0 c r)(h:oR a0 c=some r):bm PP 7 [ti a0,.one Y30 c] (.tup [⟨.str,r.1⟩,⟨(.int .i64),r.2⟩]):=by
 unfold oR at h
 refine enter Tryz.func7 o 143 o o λF=>?_
 refine zu<|bA o o λu=>zA o<|zs<|zU 1 o<|yl 0 .here bE o o o tr o<|cB h λr4 b8 h=>ar (ux _ _ _ b8) kr o o<|zA o<|rI h o (λhc h=>zU 2 o<|zf<|zT<|by cases h;exact aE (rs:=[.tmp 4,.tmp 5]) o (.cons (.tmp o) (.cons (.tmp o) (.nil))) o (λ_ vs g=>aI vs g) (λ_ _ _=>List.nil_sublist _)) λhc h=>?_
 refine zy<|cB h λr5 b9 h=>rc [] (m1 _ b9) kr o o o λf=>zm 1 o<|zZ 2 o<|cB h λr7 c0 h=>rc [0] (cC _ _ _ _ c0) kr o o o λ_=>zZ 2 o<|yl 1 f0 ty3 o o o tr o<|q 1 [(3,ptr u 0),(6,tp f),(25,tp f),(28,.one (.int .u8) (wrap .u8 c.1))] [] o<|cB h λr8 c1 h=>rc [0] (fJ _ _ _ _ c1) kr o o o λ_=>za<|bv h (λO=>[(3,ptr u 0),(6,tp f)]) (λO=>[Res.cls aU f O,Res.var u 30 Y30 c]) (λk9 h=>?_) λO h=>?_
 ·refine zU 1 o<|yl 1 f1 ty2 o o o tr o<|zm 1 o<|yl 1 f2 ty2 o o o tr o<|zm 1 o<|yl 1 f3 ty2 o o o tr o<|bu (B:=8) ag o el2 o o o (.cons o (.cons o (.cons o .nil))) o λc2=>?_
  refine y (bW ag 0 o o o) o ?_
  refine zA o<|zb<|ah [3,6,36,37,38] o<|bg (γ:=Value) (λ(V:Int×bi) J=>[(3,ptr u 0),(6,tp f),(36,.one W62 J),(37,ti (List.length [c.2.1,c.2.2.1,c.2.2.2.1]:Int)),(38,ti V.1)]) (λ(V:Int×bi) J=>[Res.own J 2 (.int .i64) [c.2.1,c.2.2.1,c.2.2.2.1],Res.cls aU f V.2,Res.var u 30 Y30 c]) (lY c k9) (0,r8) c2 h o o ?_
  clear h
  intro a3 V J h
  cases a3 with
  |zero=>cases h
  |succ a3=>
  simp only[lY]at h
  refine zW o<|zs<|rI h o (λhc h=>?_) λhc h=>?_
  ·refine zk<|zt<|zs<|zb<|zu<|iE h λhc h=>ce 0 o (by omega) λa4 a5 a6 hv=>?_
   rw[hv]
   try clear hv
   refine y (cx ag o o hc.1 (by first|exact hc.2|simpa using hc.2) o ty2) o ?_
   refine y (dE 0 (Int.toNat V.1) .here o o (by omega) pof aa ty2) o ?_
   refine q 1 [(8,ti (List.getD [c.2.1,c.2.2.1,c.2.2.2.1] (Int.toNat V.1) 0)),(36,.one W62 (.slice (some ⟨a4,a5,none⟩) (List.length [c.2.1,c.2.2.1,c.2.2.2.1]) a6)),(37,ti (List.length [c.2.1,c.2.2.1,c.2.2.2.1]:Int)),(38,ti V.1)] [3,6] o ?_
   obtain⟨g5,e,h⟩:=al h;rw[e]
   exact za<|zr<|zm 2 o<|cB h λc3 c4 h=>rc [1] (cC _ _ _ _ c4) kr o o o λ_=>zn<|zi<|zt<|zr<|zA o<|pk [1,0,0] o<|aX ((wrap .i64 (V.1+1)),c3) (.slice (some ⟨a4,a5,none⟩) (List.length [c.2.1,c.2.2.1,c.2.2.2.1]) a6) (Nat.lt_succ_self _) h o o
  exact zx<|ze<|ze<|zq<|zt<|pk [1,1] o<|ai V.2 () h o o
 refine zU 2 o<|yl 1 f4 iY o o o tr o<|cB h λg6 c5 h=>rc [0] (ta _ _ _ _ c5) kr o o o λ_=>zz<|q 2 [(3,ptr u 0),(6,tp f),(50,tp f),(51,ptr u 5)] [] o<|yl 1 f5 iY o o o tr o<|cB h λc6 c7 h=>rc [0] (ta _ _ _ _ c7) kr o o o λ_=>za<|bv h (λd=>[(3,ptr u 0),(6,tp f)]) (λd=>[Res.cls aU f d,Res.var u 30 Y30 c]) (λc8 h=>?_) λd h=>?_
 ·refine zU 1 o<|yl 1 f6 ty2 o o o tr o<|zm 1 o<|yl 1 f7 ty2 o o o tr o<|zm 1 o<|yl 1 f8 ty2 o o o tr o<|bu (B:=8) ag o el2 o o o (.cons o (.cons o (.cons o .nil))) o λc9=>?_
  refine y (bW ag 0 o o o) o ?_
  refine zA o<|zb<|ah [3,6,60,61,62] o<|bg (γ:=Value) (λ(M:Int×bi) G=>[(3,ptr u 0),(6,tp f),(60,.one W62 G),(61,ti (List.length [c.2.2.2.2.2.2.1,c.2.2.2.2.2.2.2.1,c.2.2.2.2.2.2.2.2.1]:Int)),(62,ti M.1)]) (λ(M:Int×bi) G=>[Res.own G 2 (.int .i64) [c.2.2.2.2.2.2.1,c.2.2.2.2.2.2.2.1,c.2.2.2.2.2.2.2.2.1],Res.cls aU f M.2,Res.var u 30 Y30 c]) (lX c c8) (0,c6) c9 h o o ?_
  clear h
  intro a7 M G h
  cases a7 with
  |zero=>cases h
  |succ a7=>
  simp only[lX]at h
  refine zu<|q 1 [(60,.one W62 G),(61,ti (List.length [c.2.2.2.2.2.2.1,c.2.2.2.2.2.2.2.1,c.2.2.2.2.2.2.2.2.1]:Int)),(62,ti M.1),(63,tb (decide (M.1<(List.length [c.2.2.2.2.2.2.1,c.2.2.2.2.2.2.2.1,c.2.2.2.2.2.2.2.2.1]:Int))))] [3,6] o ?_
  obtain⟨g7,e,h⟩:=al h;rw[e]
  refine za<|zs<|rI h o (λhc h=>?_) λhc h=>?_
  ·refine zk<|zt<|zs<|zb<|zu<|iE h λhc h=>ce 0 o (by omega) λa8 a9 b0 hv=>?_
   rw[hv]
   try clear hv
   refine y (cx ag o o hc.1 (by first|exact hc.2|simpa using hc.2) o ty2) o ?_
   refine y (dE 0 (Int.toNat M.1) .here o o (by omega) pof aa ty2) o ?_
   refine q 1 [(10,ti (List.getD [c.2.2.2.2.2.2.1,c.2.2.2.2.2.2.2.1,c.2.2.2.2.2.2.2.2.1] (Int.toNat M.1) 0)),(60,.one W62 (.slice (some ⟨a8,a9,none⟩) (List.length [c.2.2.2.2.2.2.1,c.2.2.2.2.2.2.2.1,c.2.2.2.2.2.2.2.2.1]) b0))] [3,6,61,62] o ?_
   obtain⟨g8,e,h⟩:=al h;rw[e]
   exact za<|zr<|zm 2 o<|cB h λd0 d1 h=>rc [1] (cC _ _ _ _ d1) kr o o o λ_=>zn<|zi<|zt<|zr<|zA o<|pk [1,0,0] o<|aX ((wrap .i64 (M.1+1)),d0) (.slice (some ⟨a8,a9,none⟩) (List.length [c.2.2.2.2.2.2.1,c.2.2.2.2.2.2.2.1,c.2.2.2.2.2.2.2.2.1]) b0) (Nat.lt_succ_self _) h o o
  exact zx<|ze<|ze<|zq<|zt<|pk [1,1] o<|ai M.2 () h o o
 refine bv h (λw=>[(3,ptr u 0),(6,tp f)]) (λw=>[Res.cls aU f w,Res.var u 30 Y30 c]) (λd2 h=>?_) λw h=>?_
 ·refine zu<|yl 1 .here bE o o o tr o<|cB h λC d3 h=>rc [] (qC _ _ d3) kr o o o λd4=>y (bW ag 0 o o o) o ?_
  refine zA o<|zb<|ah [3,6,71,72,73] o<|bg (γ:=Value) (λ(R:Int×bi) m=>[(3,ptr u 0),(6,tp f),(71,.one W62 m),(72,ti (List.length C:Int)),(73,ti R.1)]) (λ(R:Int×bi) m=>[Res.own m 3 (.int .i64) C,Res.cls aU f R.2,Res.var u 30 Y30 c]) (lW d2 C) (0,d) d4 h o o ?_
  clear h
  intro b1 R m h
  cases b1 with
  |zero=>cases h
  |succ b1=>
  simp only[lW]at h
  refine zW o<|zs<|rI h o (λhc h=>?_) λhc h=>?_
  ·refine zk<|zt<|zs<|zb<|zu<|iE h λhc h=>ce 0 o (by omega) λb2 b4 b5 hv=>?_
   rw[hv]
   try clear hv
   refine y (cx ag o o hc.1 (by first|exact hc.2|simpa using hc.2) o ty3) o ?_
   refine y (dE 0 (Int.toNat R.1) .here o o (by omega) pof aa ty3) o ?_
   refine q 1 [(3,ptr u 0),(6,tp f),(12,ti (List.getD C (Int.toNat R.1) 0)),(71,.one W62 (.slice (some ⟨b2,b4,none⟩) (List.length C) b5)),(72,ti (List.length C:Int)),(73,ti R.1)] [] o ?_
   obtain⟨g9,e,h⟩:=al h;rw[e]
   exact za<|zr<|zm 3 o<|cB h λd5 d6 h=>rc [1] (eG _ _ _ _ d6) kr o o o λ_=>zn<|zi<|zt<|zr<|zA o<|pk [1,0,0] o<|aX ((wrap .i64 (R.1+1)),d5) (.slice (some ⟨b2,b4,none⟩) (List.length C) b5) (Nat.lt_succ_self _) h o o
  exact zx<|ze<|ze<|zq<|zt<|pk [1,1] o<|ai R.2 () h o o
 refine zu<|q 2 [(3,ptr u 0),(6,tp f),(82,tp f),(83,ptr u 15)] [] o<|yl 1 f12 ty4 o o o tr o<|cB h λd7 d8 h=>rc [0] (tc _ _ _ _ d8) kr o o o λ_=>za<|bv h (λZ=>[(3,ptr u 0),(6,tp f)]) (λZ=>[Res.cls aU f Z,Res.var u 30 Y30 c]) (λd9 h=>?_) λZ h=>?_
 ·refine zU 1 o<|iE h λhc h=>y (bY o o hc.1 hc.2 y6 bH) o ?_
  refine y (aL 1 ((g13 (.fst (.elem 0 .here)))) o o pof (ab (ab (ab (ab (ab (ab (ab (ab (ab (ab (ab (ab (ab (aq (av (by omega) aa))))))))))))))) bH) o ?_
  refine zm 1 o<|iE h λhc h=>y (bY o o hc.1 hc.2 y6 bH) o ?_
  refine y (aL 1 ((g13 (.fst (.elem 1 .here)))) o o pof (ab (ab (ab (ab (ab (ab (ab (ab (ab (ab (ab (ab (ab (aq (av (by omega) aa))))))))))))))) bH) o ?_
  refine zm 1 o<|yl 1 f14 bH o o o tr o<|bu (B:=32) ag o HD o o o (.cons o (.cons o (.cons o .nil))) o λe0=>?_
  refine y (bW ag 0 o o o) o ?_
  refine zA o<|zb<|ah [3,6,94,95,96] o<|bg (γ:=Value) (λ(W:Int×bi) N=>[(3,ptr u 0),(6,tp f),(94,.one W62 N),(95,ti (List.length [(List.getD c.2.2.2.2.2.2.2.2.2.2.2.2.2.1 0 (List.replicate 32 (0:Int))),(List.getD c.2.2.2.2.2.2.2.2.2.2.2.2.2.1 1 (List.replicate 32 (0:Int))),c.2.2.2.2.2.2.2.2.2.2.2.2.2.2.1]:Int)),(96,ti W.1)]) (λ(W:Int×bi) N=>[Res.own N 26 W66 [(List.getD c.2.2.2.2.2.2.2.2.2.2.2.2.2.1 0 (List.replicate 32 (0:Int))),(List.getD c.2.2.2.2.2.2.2.2.2.2.2.2.2.1 1 (List.replicate 32 (0:Int))),c.2.2.2.2.2.2.2.2.2.2.2.2.2.2.1],Res.cls aU f W.2,Res.var u 30 Y30 c]) (lV c d9) (0,d7) e0 h o o ?_
  clear h
  intro b6 W N h
  cases b6 with
  |zero=>cases h
  |succ b6=>
  simp only[lV]at h
  refine zu<|q 1 [(94,.one W62 N),(95,ti (List.length [(List.getD c.2.2.2.2.2.2.2.2.2.2.2.2.2.1 0 (List.replicate 32 (0:Int))),(List.getD c.2.2.2.2.2.2.2.2.2.2.2.2.2.1 1 (List.replicate 32 (0:Int))),c.2.2.2.2.2.2.2.2.2.2.2.2.2.2.1]:Int)),(96,ti W.1),(97,tb (decide (W.1<(List.length [(List.getD c.2.2.2.2.2.2.2.2.2.2.2.2.2.1 0 (List.replicate 32 (0:Int))),(List.getD c.2.2.2.2.2.2.2.2.2.2.2.2.2.1 1 (List.replicate 32 (0:Int))),c.2.2.2.2.2.2.2.2.2.2.2.2.2.2.1]:Int))))] [3,6] o ?_
  obtain⟨h0,e,h⟩:=al h;rw[e]
  refine za<|zs<|rI h o (λhc h=>?_) λhc h=>?_
  ·refine zk<|zt<|zs<|zb<|zu<|iE h λhc h=>ce 0 o (by omega) λe1 e2 e3 hv=>?_
   rw[hv]
   try clear hv
   refine y (cx ag o o hc.1 (by first|exact hc.2|simpa using hc.2) o bH) o ?_
   refine y (dE 0 (Int.toNat W.1) .here o o (by omega) pof aa bH) o ?_
   refine aC (t:=W66) o oB o λh1=>st 0 .here bH o o o o tr<|za<|zr<|zm 1 o<|yl 0 .here bH o o o tr o<|cB h λe4 e5 h=>rc [2] (eo _ _ _ _ e5) kr o o o λ_=>zn<|zi<|zt<|zr<|zA o<|pk [0,1,1] o ?_
   exact pk [1,0,0] o<|aX ((wrap .i64 (W.1+1)),e4) (.slice (some ⟨e1,e2,none⟩) (List.length [(List.getD c.2.2.2.2.2.2.2.2.2.2.2.2.2.1 0 (List.replicate 32 (0:Int))),(List.getD c.2.2.2.2.2.2.2.2.2.2.2.2.2.1 1 (List.replicate 32 (0:Int))),c.2.2.2.2.2.2.2.2.2.2.2.2.2.2.1]) e3) (Nat.lt_succ_self _) h o o
  exact zx<|ze<|ze<|zq<|zt<|pk [1,1] o<|ai W.2 () h o o
 refine zU 2 o<|yl 1 f15 qd o o o tr o<|q 2 [(3,ptr u 0),(6,tp f),(104,tp f),(108,.one (.int .u8) (wrap .u8 (List.length c.2.2.2.2.2.2.2.2.2.2.2.2.2.2.2.1:Int)))] [] o<|cB h λe6 e7 h=>rc [0] (fJ _ _ _ _ e7) kr o o o λ_=>za<|bv h (λa2=>[(3,ptr u 0),(6,tp f)]) (λa2=>[Res.cls aU f a2,Res.var u 30 Y30 c]) (λe8 h=>?_) λa2 h=>?_
 ·refine zU 1 o<|yl 1 f15 qd o o o tr o<|zA o<|zb<|ah [3,6,111,112,113] o<|bg (γ:=Unit) (λ(H:Int×bi) _=>[(3,ptr u 0),(6,tp f),(111,.one W77 c.2.2.2.2.2.2.2.2.2.2.2.2.2.2.2.1),(112,ti (List.length c.2.2.2.2.2.2.2.2.2.2.2.2.2.2.2.1:Int)),(113,ti H.1)]) (λ(H:Int×bi) _=>[Res.cls aU f H.2,Res.var u 30 Y30 c]) (lU c e8) (0,e6) () h o o ?_
  clear h
  intro b7 H gg h
  cases b7 with
  |zero=>cases h
  |succ b7=>
  simp only[lU]at h
  refine zW o<|zs<|rI h o (λhc h=>?_) λhc h=>?_
  ·refine zk<|zt<|zs<|zb<|zu<|iE h λhc h=>y (eZ ag o o hc.1 hc.2 o iZ) o ?_
   refine y (fP o iZ) o ?_
   refine aC (t:=Y56) o vj o λh2=>st 0 .here iZ o o o o tr<|zZ 2 o<|yl 0 f2 ty4 o o o tr o<|cB h λh3 e9 h=>rc [1] (tc _ _ _ _ e9) kr o o o λ_=>zZ 2 o<|yl 1 f0 ty2 o o o tr o<|cB h λh4 f9 h=>rc [0] (cC _ _ _ _ f9) kr o o o λ_=>za<|zr<|zm 2 o<|yl 1 f1 bH o o o tr o ?_
   exact cB h λg0 g1 h=>rc [0] (eo _ _ _ _ g1) kr o o o λ_=>zn<|zi<|zt<|zr<|zA o<|pk [0,1] o<|aX ((wrap .i64 (H.1+1)),g0) () (Nat.lt_succ_self _) h o o
  exact zx<|ze<|ze<|zq<|zt<|ai H.2 () h o o
 refine zU 2 o<|yl 1 f16 ty3 o o o tr o<|zm 1 o<|cB h λh5 g2 h=>rc [0] (nZ _ _ _ _ g2) kr o o o λ_=>zZ 2 o<|yl 1 f17 ty2 o o o tr o<|cB h λh6 g3 h=>rc [0] (cC _ _ _ _ g3) kr o o o λ_=>zZ 1 o<|cB h λh7 g4 h=>rc [0] (gC _ _ _ g4) kr o o o λ_=>zE o ?_
 cases h
 exact aE (rs:=[.tmp 4,.tmp 5]) o (.cons (.tmp o) (.cons (.tmp o) (.nil))) o (λ_ vs g=>aI vs g) (λ_ _ _=>List.nil_sublist _)
theorem rL(c:Nat)(f r)(h:lL f=some r):Fn PP 52 [ptr c 0] [Res.var c 171 W57 f] (λ_=>ti r.1) (λ_=>[Res.var c 171 W57 r.2]):=by
 unfold lL at h
 refine enter Tryz.func52 o 19 o o λF=>?_
 refine zW o<|zs<|zU 3 o<|yl 0 f1 fk o o o tr o<|q 2 [(0,ptr c 0),(8,tb (f.2.1==0))] [] o ?_
 obtain⟨u,e,h⟩:=al h;rw[e]
 refine aM 6 [(0,ptr c 0),(14,tb (u&&(f.1 !=[])))] [Res.var c 171 W57 f] (?_) ?_
 ·clear h
  cases u
  ·exact zA o<|ap () o o
  refine zm 3 o<|am dl o ?_
  exact yl 0 f0 ty9 o o o tr o<|zA o<|ap () o o
 refine za<|rI h o (λhc h=>zU 1 o<|zf<|zT<|by cases h;exact aS o (.tmp o) (λ_ _ g=>g) (λ_ _ _=>(.cons_cons _ .slnil))) λhc h=>zy<|zm 3 o<|yl 0 f1 fk o o o tr o<|zE o ?_
 cases h
 exact bc o (.tmp o) (.cons_cons _ .slnil)
theorem td(C r)(h:pG C=some r):bm PP 9 [ts C] (.tup [⟨(.int .i64),r.1⟩,⟨Y30,r.2.1⟩,⟨(.int .i64),r.2.2⟩]):=by
 unfold pG at h
 refine enter Tryz.func9 o 192 o o λF=>?_
 refine zU 1 o<|aC (t:=Y30) o fO o λV=>zm 1 o<|zZ 1 o<|cB h λr3 d0 h=>rc [] (hY _ _ d0) kr o o o λv4=>y (aY o G1 o o (.cons f0 o o (aq aa) .nil)) o ?_
 refine bA o o λf=>zm 1 o<|zz<|aC (t:=W4) o fO o λM=>bT (.slice none 0 0) o 56 Y56 ?_
 refine zZ 3 o<|yl 2 f0 gI o o o tr o<|pk [3,0,0,0,0] o<|eP λZ hp=>?_
 subst hp
 refine cB h λG d1 h=>rc [0] (bJ _ _ _ d1) kr o o o λ_=>zm 1 o<|zZ 3 o<|yl 3 f0 gI o o o tr o<|cB h λr9 d2 h=>rc [0] (gP _ _ _ d2) kr o o o λ_=>zm 2 o<|st 2 f0 ty3 o o o o tr<|za<|zs<|gE (S:=bC [aV f 103 W53 ((.pointer (some ⟨Z,0,none⟩)),false,())]) kr ?_
 refine zH 3 [0,1,2] (ae (ak 3 o) aj) kr o o λs=>bl 3 (ptr Z 0) s o kr (cq (S:=λw=>bC [aV f 103 W53 ((.pointer (some ⟨Z,0,none⟩)),false,())] w) (bn 0 o) 3 f0 o o o o (aq aa) gI) λs=>zH 3 [5,6,7] s kr o o λs=>bl 8 (ptr Z 0) s o kr (cq (S:=λw=>bC [aV f 103 W53 ((.pointer (some ⟨Z,0,none⟩)),false,())] w) (bn 0 o) 3 f0 o o o o (aq aa) gI) λs=>zH 3 [10,11,12] s kr o o λs=>bl 13 (ptr Z 0) s o kr (cq (S:=λw=>bC [aV f 103 W53 ((.pointer (some ⟨Z,0,none⟩)),false,())] w) (bn 0 o) 3 f0 o o o o (aq aa) gI) λs=>az 4 kr o<|cB h λb9 d3 h=>rc [0] (bJ _ _ _ d3) kr o o o λ_=>za<|aR (ae (ak 3 o) aj) ?_
 refine ah [0,3,5,6,7,33,37,42] o<|az 9 kr o<|cB h λc0 d4 h=>rc [0] (bJ _ _ _ d4) kr o o o λ_=>za<|aR (ae (ak 3 o) aj) ?_
 refine ah [0,3,5,6,7,33,38,42] o<|az 14 kr o<|cB h λa6 d5 h=>rc [0] (bJ _ _ _ d5) kr o o o λ_=>za<|aR (ae (ak 3 o) aj) ?_
 refine ah [0,3,5,6,7,33,38,43] o<|zH 1 [15] (ae (ak 3 o) aj) kr o o λs=>az 16 kr o<|st 2 f1 ty2 o o o o tr<|nL o<|za<|aR (ae (ak 3 o) aj) ?_
 refine ah [0,3,5,6,7,38,43] o<|zH 1 [17] (ae (ak 3 o) aj) kr o o λs=>az 18 kr o<|st 2 f2 ty2 o o o o tr<|za<|aR (ae (ak 3 o) aj) ?_
 refine ah [0,3,5,6,7,43] o<|zH 1 [19] (ae (ak 3 o) aj) kr o o λs=>az 20 kr o<|st 2 f3 ty2 o o o o tr<|nL o<|za<|aR (ae (ak 3 o) aj) ?_
 refine ah [0,3,5,6,7] o<|dF kr<|zt<|zU 1 o<|eT (x:=a6.2) ?_
 refine aw (R':=Res.clsif dK (.pointer (some ⟨Z,0,none⟩)) a6.2 0) 0 o (cT o)<|pk [3,0,0,0,0] o<|gi (x:=((0,a6.2),false,())) ?_
 refine cB h λJ d6 h=>rc [0] (nW _ _ _ d6) kr o o o λH=>q 1 [(0,ts C),(3,ptr V 0),(5,ptr f 0),(6,ptr M 0),(7,ti G.1),(48,.one W62 H),(49,ptr M 4)] [] o<|iS (t:=W4) (v:=W62) 3 f4 o o o o o o tx1 ?_
 refine nL o<|za<|bv h (λc=>[(0,ts C),(3,ptr V 0),(5,ptr f 0),(6,ptr M 0),(7,ti G.1)]) (λc=>[Res.var M 30 W1 (C2 c.1 H (.slice none 0 0)),Res.cls fI (.pointer (some ⟨f,0,none⟩)) c.2,Res.own H 52 Y52 J.1,Res.own (.slice none 0 0) 56 Y56 [],Res.var V 30 Y30 (0,0,0,0,[],[],0,0,0,(0,0,()),(0,0,()),(0,0,()),false,(List.replicate 2 ((List.replicate 32 (0:Int)):List (Int))),(List.replicate 32 (0:Int)),[],0,0,())]) (λi5 h=>?_) λc h=>?_
 ·refine zs<|ir λi6=>?_
  refine zr<|zm 3 o<|yl 0 f1 ty4 o o o tr o<|zA o<|rI h o (λhc h=>?_) λhc h=>?_
  ·refine zr<|zm 1 o<|gi (x:=J.2) ?_
   refine cB h λc1 d7 h=>rc [0] (nW _ _ _ d7) kr o o o λc2=>zm 1 o<|iS (t:=W1) (v:=W62) 4 f5 o o o o o o tx1 ?_
   refine za<|pk [1,3,0,0,0,0] o<|ep (v:=c2) (T0:=W0) (x0:=((wrap .i64 r9.1),b9.1,c0.1,a6.1,H,c2,0,0,0,(0,0,()),(0,0,()),(0,0,()),false,(List.replicate 2 ((List.replicate 32 (0:Int)):List (Int))),(List.replicate 32 (0:Int)),(.slice none 0 0),0,0,())) (t:=Y52) f5 o o ?_
   exact ai (((wrap .i64 r9.1),b9.1,c0.1,a6.1,(),c1.1,0,0,0,(0,0,()),(0,0,()),(0,0,()),false,(List.replicate 2 ((List.replicate 32 (0:Int)):List (Int))),(List.replicate 32 (0:Int)),(),0,0,()),c1.2) () h o o
  refine zk<|zt<|gi (x:=J.2) ?_
  exact pk [3,0,0,0,0] o<|ai (((wrap .i64 r9.1),b9.1,c0.1,a6.1,(),[],0,0,0,(0,0,()),(0,0,()),(0,0,()),false,(List.replicate 2 ((List.replicate 32 (0:Int)):List (Int))),(List.replicate 32 (0:Int)),(),0,0,()),J.2) () h o o
 refine zs<|pk [1,0,0,0,0] o<|ir λa1=>?_
 refine gE (S:=bC [aV f 103 W53 (a1,c.2.2.1,c.2.2.2)]) kr ?_
 refine zH 3 [0,1,2] (ae (ak 0 o) aj) kr o o λs=>bl 3 (tp a1) s o kr (cq (S:=λw=>bC [aV f 103 W53 (a1,c.2.2.1,c.2.2.2)] w) (bn 0 o) 0 f0 o o o o (aq aa) gI) λs=>zH 3 [5,6,7] s kr o o λs=>bl 8 (tp a1) s o kr (cq (S:=λw=>bC [aV f 103 W53 (a1,c.2.2.1,c.2.2.2)] w) (bn 0 o) 0 f0 o o o o (aq aa) gI) λs=>zH 3 [10,11,12] s kr o o λs=>bl 13 (tp a1) s o kr (cq (S:=λw=>bC [aV f 103 W53 (a1,c.2.2.1,c.2.2.2)] w) (bn 0 o) 0 f0 o o o o (aq aa) gI) λs=>az 4 kr o ?_
 obtain⟨c3,h⟩:=cj h
 refine aw (R':=Res.cls dK a1 c.2.1.2) 1 o (dM c3)<|pk [1,0,0,0,0,0] o<|eP λd8 hp=>?_
 rw[hp]
 clear hp
 refine cB h λd9 e0 h=>rc [0] (bJ _ _ _ e0) kr o o o λ_=>za<|aR (ae (ak 1 o) aj) ?_
 refine ah [0,3,5,6,7,62,66,71] o<|az 9 kr o<|cB h λe1 e2 h=>rc [0] (bJ _ _ _ e2) kr o o o λ_=>za<|aR (ae (ak 1 o) aj) ?_
 refine ah [0,3,5,6,7,62,67,71] o<|az 14 kr o<|cB h λb8 e3 h=>rc [0] (bJ _ _ _ e3) kr o o o λ_=>za<|aR (ae (ak 1 o) aj) ?_
 refine ah [0,3,5,6,7,62,67,72] o<|zH 1 [15] (ae (ak 1 o) aj) kr o o λs=>az 16 kr o<|st 2 f6 ty2 o o o o tr<|nL o<|za<|aR (ae (ak 1 o) aj) ?_
 refine ah [0,3,5,6,7,67,72] o<|zH 1 [17] (ae (ak 1 o) aj) kr o o λs=>az 18 kr o<|st 2 f7 ty2 o o o o tr<|za<|aR (ae (ak 1 o) aj) ?_
 refine ah [0,3,5,6,7,72] o<|zH 1 [19] (ae (ak 1 o) aj) kr o o λs=>az 20 kr o<|st 2 f8 ty2 o o o o tr<|nL o<|za<|aR (ae (ak 1 o) aj) ?_
 refine ah [0,3,5,6,7] o<|dF kr<|zt<|bv h (λR=>[(0,ts C),(3,ptr V 0),(5,ptr f 0),(6,ptr M 0),(7,ti G.1)]) (λR=>[Res.cls fI (.pointer (some ⟨f,0,none⟩)) R.1,Res.var M 30 W1 (C2 R.2 H (.slice none 0 0)),Res.own H 52 Y52 J.1,Res.own (.slice none 0 0) 56 Y56 [],Res.var V 30 Y30 (0,0,0,0,[],[],0,0,0,(0,0,()),(0,0,()),(0,0,()),false,(List.replicate 2 ((List.replicate 32 (0:Int)):List (Int))),(List.replicate 32 (0:Int)),[],0,0,())]) (λi7 h=>?_) λR h=>?_
 ·refine zU 3 o<|bu (B:=8) ag o Hh o o o (.cons o (.cons o (.cons o .nil))) o λi8=>?_
  refine y (bW ag 0 o o o) o ?_
  refine zA o<|zb<|ah [0,3,5,6,7,79,80,81] o<|DB 4 ?_
  refine ui ?_
  refine zW o<|zs ?_
  refine ii (b:=true) o (λhc=>?_) (λhc=>?_)
  ·refine zk<|zt<|zs<|zb<|zu<|ce 0 o (of_decide_eq_true o) λi9 j0 j1 hv=>?_
   rw[hv]
   try clear hv
   refine y (cx ag o o (of_decide_eq_true o) (of_decide_eq_true o) o ut) o ?_
   refine y (dE 0 0 .here o o (of_decide_eq_true o) o aa ut) o ?_
   refine zA o<|zr<|zm 3 o<|pk [1,0,0,0,0,0,0] o<|eT (x:=b8.2) ?_
   refine aw (R':=Res.clsif dK (.pointer (some ⟨d8,0,none⟩)) b8.2 c.2.1.1) 0 o (cT c3)<|pk [2,0,0,0,0,0,0] o<|gi (x:=((c.2.1.1,b8.2),c.2.2.1,c.2.2.2)) ?_
   refine cB h λe4 e5 h=>rc [0] (ei _ _ _ e5) kr o o o λ_=>zm 1 o<|cB h λe6 e7 h=>rc [0] (ei _ _ _ e7) kr o o o λ_=>zm 2 o<|st 2 ((g9 (.fst f0))) ty3 o o o o tr<|nL o<|zm 2 o<|st 2 ((g9 (.fst f1))) ty3 o o o o tr<|zn<|zi<|zt<|zr ?_
   refine zA o<|ui ?_
   refine zW o<|zs ?_
   refine ii (b:=true) o (λhc=>?_) (λhc=>?_)
   ·refine zk<|zt<|zs<|zb<|zu<|y (cx ag o o (of_decide_eq_true o) (of_decide_eq_true o) o ut) o ?_
    refine y (dE 1 1 .here o o (of_decide_eq_true o) o aa ut) o ?_
    refine zA o<|zr<|zm 3 o<|cB h λe8 e9 h=>rc [0] (ei _ _ _ e9) kr o o o λ_=>zm 1 o<|cB h λf9 g0 h=>rc [0] (ei _ _ _ g0) kr o o o λ_=>zm 2 o<|st 2 ((g10 (.fst f0))) ty3 o o o o tr<|zm 2 o<|st 2 ((g10 (.fst f1))) ty3 o o o o tr<|nL o<|zn ?_
    refine zi<|zt<|zr<|zA o<|ui ?_
    refine zW o<|zs ?_
    refine ii (b:=true) o (λhc=>?_) (λhc=>?_)
    ·refine zk<|zt<|zs<|zb<|zu<|y (cx ag o o (of_decide_eq_true o) (of_decide_eq_true o) o ut) o ?_
     refine y (dE 1 2 .here o o (of_decide_eq_true o) o aa ut) o ?_
     refine zA o<|zr<|zm 3 o<|cB h λg1 g2 h=>rc [0] (ei _ _ _ g2) kr o o o λ_=>zm 1 o<|cB h λc4 g3 h=>rc [0] (ei _ _ _ g3) kr o o o λ_=>zm 2 o<|st 2 ((g11 (.fst f0))) ty3 o o o o tr<|zm 2 o<|st 2 ((g11 (.fst f1))) ty3 o o o o tr<|nL o<|zn ?_
     refine zi<|zt<|zr<|zA o<|ui ?_
     refine zW o<|zs ?_
     refine ii (b:=false) o (λhc=>?_) (λhc=>?_)
     ·cases hc
     exact zx<|ze<|ze<|zq<|zt<|pk [0,1,1,1,1] o<|ai (c4.2,(c.1.1,c.1.2.1,c.1.2.2.1,c.1.2.2.2.1,(),c.1.2.2.2.2.2.1,d9.1,e1.1,b8.1,(e4.1,e6.1,c.1.2.2.2.2.2.2.2.2.2.1.2.2),(e8.1,f9.1,c.1.2.2.2.2.2.2.2.2.2.2.1.2.2),(g1.1,c4.1,c.1.2.2.2.2.2.2.2.2.2.2.2.1.2.2),c.1.2.2.2.2.2.2.2.2.2.2.2.2.1,c.1.2.2.2.2.2.2.2.2.2.2.2.2.2.1,c.1.2.2.2.2.2.2.2.2.2.2.2.2.2.2.1,(),c.1.2.2.2.2.2.2.2.2.2.2.2.2.2.2.2.2.1,c.1.2.2.2.2.2.2.2.2.2.2.2.2.2.2.2.2.2.1,c.1.2.2.2.2.2.2.2.2.2.2.2.2.2.2.2.2.2.2)) () h o o
    cases hc
   cases hc
  cases hc
 refine zU 1 o<|cB h λu g4 h=>rc [0] (nX _ _ _ g4) kr o o o λ_=>q 1 [(0,ts C),(3,ptr V 0),(5,ptr f 0),(6,ptr M 0),(7,ti G.1),(97,tb u.1),(98,ptr M 15)] [] o<|st 1 f12 ty4 o o o o tr<|za<|zs<|ir λa2=>?_
 refine gE (S:=bC [aV f 103 W53 (a2,u.2.2.1,u.2.2.2)]) kr ?_
 refine zH 3 [0,1,2] (ae (ak 0 o) aj) kr o o λs=>bl 3 (tp a2) s o kr (cq (S:=λw=>bC [aV f 103 W53 (a2,u.2.2.1,u.2.2.2)] w) (bn 0 o) 0 f0 o o o o (aq aa) gI) λs=>zH 3 [5,6,7] s kr o o λs=>bl 8 (tp a2) s o kr (cq (S:=λw=>bC [aV f 103 W53 (a2,u.2.2.1,u.2.2.2)] w) (bn 0 o) 0 f0 o o o o (aq aa) gI) λs=>zH 3 [10,11,12] s kr o o λs=>bl 13 (tp a2) s o kr (cq (S:=λw=>bC [aV f 103 W53 (a2,u.2.2.1,u.2.2.2)] w) (bn 0 o) 0 f0 o o o o (aq aa) gI) λs=>zH 2 [15,18] s kr o o λs=>az 4 kr o ?_
 obtain⟨c5,h⟩:=cj h
 refine aw (R':=Res.cls dK a2 u.2.1.2) 1 o (dM c5)<|nL o<|pk [1,0,0,0,0,0] o<|eP λg5 hp=>?_
 rw[hp]
 clear hp
 refine cB h λa3 g6 h=>rc [0] (cS _ _ _ g6) kr o o o λ_=>za<|aR (ae (ak 1 o) aj) ?_
 refine ah [0,3,5,6,7,103,107,112,114,116] o<|az 9 kr o<|cB h λa4 g7 h=>rc [0] (cS _ _ _ g7) kr o o o λ_=>za<|aR (ae (ak 1 o) aj) ?_
 refine ah [0,3,5,6,7,103,108,112,114,116] o<|az 14 kr o<|cB h λa5 g8 h=>rc [0] (cS _ _ _ g8) kr o o o λ_=>za<|aR (ae (ak 1 o) aj) ?_
 refine ah [0,3,5,6,7,103,108,113,114,116] o<|iE h λhc h=>bl 16 (ptr M (16+0*32)) (ae (ak 1 o) aj) o kr (bY o o hc.1 hc.2 y6 bH) λs=>az 17 kr o<|kV 2 ((g13 (.fst (.elem 0 .here)))) o o o pof (ab (ab (ab (ab (ab (ab (ab (ab (ab (ab (ab (ab (ab (aq (av pix aa))))))))))))))) bH<|za<|aR (ae (ak 1 o) aj) ?_
 refine ah [0,3,5,6,7,108,113,116] o<|iE h λhc h=>bl 19 (ptr M (16+1*32)) (ae (ak 1 o) aj) o kr (bY o o hc.1 hc.2 y6 bH) λs=>az 20 kr o<|kV 2 ((g13 (.fst (.elem 1 .here)))) o o o pof (ab (ab (ab (ab (ab (ab (ab (ab (ab (ab (ab (ab (ab (aq (av pix aa))))))))))))))) bH<|nL o<|za<|aR (ae (ak 1 o) aj) ?_
 refine ah [0,3,5,6,7,113] o<|zH 1 [21] (ae (ak 1 o) aj) kr o o λs=>az 22 kr o<|st 2 f14 bH o o o o tr<|za<|aR (ae (ak 1 o) aj) ?_
 refine ah [0,3,5,6,7] o<|dF kr<|zt<|jK h (γ:=Value) (λW a7=>[(0,ts C),(3,ptr V 0),(5,ptr f 0),(6,ptr M 0),(7,ti G.1)]) (λW a7=>[Res.cls fI (.pointer (some ⟨f,0,none⟩)) W.1,Res.var M 30 W1 (C3 R.2 H u.1 (List.set (List.set R.2.2.2.2.2.2.2.2.2.2.2.2.2.2.1 0 a3.1) 1 a4.1) a5.1 a7),Res.own H 52 Y52 J.1,Res.own a7 56 Y56 W.2,Res.var V 30 Y30 (0,0,0,0,[],[],0,0,0,(0,0,()),(0,0,()),(0,0,()),false,(List.replicate 2 ((List.replicate 32 (0:Int)):List (Int))),(List.replicate 32 (0:Int)),[],0,0,())]) (λh0 h=>?_) λW a7 h=>?_
 ·refine zU 3 o<|yl 1 f0 gI o o o tr o<|cB h λa8 h1 h=>rc [0] (gP _ _ _ h1) kr o o o λ_=>zA o<|zb<|eT (x:=a8.2) ?_
  refine aw (R':=Res.clsif dK (.pointer (some ⟨g5,0,none⟩)) a8.2 u.2.1.1) 0 o (cT c5)<|pk [1,0,0,0,0,0] o<|gi (x:=((u.2.1.1,a8.2),u.2.2.1,u.2.2.2)) ?_
  refine ah [0,3,5,6,7,124,125] o<|bg (γ:=Value) (λ(m:Int×((Int×Z13)×Bool×Unit)×(List Z55)) b1=>[(0,ts C),(3,ptr V 0),(5,ptr f 0),(6,ptr M 0),(7,ti G.1),(124,ti (wrap .i64 a8.1)),(125,ti m.1)]) (λ(m:Int×((Int×Z13)×Bool×Unit)×(List Z55)) b1=>[Res.cls fI (.pointer (some ⟨f,0,none⟩)) m.2.1,Res.var M 30 W1 (C3 R.2 H u.1 (List.set (List.set R.2.2.2.2.2.2.2.2.2.2.2.2.2.2.1 0 a3.1) 1 a4.1) a5.1 b1),Res.own H 52 Y52 J.1,Res.own b1 56 Y56 m.2.2,Res.var V 30 Y30 (0,0,0,0,[],[],0,0,0,(0,0,()),(0,0,()),(0,0,()),false,(List.replicate 2 ((List.replicate 32 (0:Int)):List (Int))),(List.replicate 32 (0:Int)),[],0,0,())]) (mS h0 a8) (0,((u.2.1.1,a8.2),u.2.2.1,u.2.2.2),[]) (.slice none 0 0) h o o ?_
  clear h
  intro c6 m b1 h
  cases c6 with
  |zero=>cases h
  |succ c6=>
  simp only[mS]at h
  refine zW o<|zs<|rI h o (λhc h=>?_) λhc h=>?_
  ·refine zk<|zt<|zs<|zb<|zU 1 o<|cB h λO h2 h=>rc [0] (nX _ _ _ h2) kr o o o λ_=>y (aY o vj o o (.cons f2 o o aa .nil)) o ?_
   refine aC (t:=Y56) o vj o λj2=>st 0 .here iZ o o o o tr<|za<|zs<|pk [1,0,0,0,0,0] o<|ir λh3=>?_
   refine zr<|zm 3 o<|yl 0 f0 gI o o o tr o ?_
   obtain⟨c7,h⟩:=cj h
   refine aw (R':=Res.cls dK h3 O.2.1.2) 1 o (dM c7)<|nL o<|pk [1,0,0,0,0,0,0] o<|eP λh4 hp=>?_
   rw[hp]
   clear hp
   refine cB h λh5 h6 h=>rc [0] (bJ _ _ _ h6) kr o o o λ_=>zm 1 o<|st 2 f0 ty2 o o o o tr<|zZ 3 o<|yl 1 f0 gI o o o tr o<|cB h λb3 h7 h=>rc [0] (cS _ _ _ h7) kr o o o λ_=>zm 1 o<|st 2 f1 bH o o o o tr<|nL o<|za<|zr<|zm 1 o ?_
   refine yl 3 f15 tx2 o o o tr o<|yl 2 .here iZ o o o tr o<|bu (B:=48) ag o tT o o o (.cons o .nil) o λj3=>?_
   refine iE h λhc h=>bd (B:=48) ag 6 o o (bL 0 o o) o tT o o hc o λh8=>?_
   refine pk [1,1,1,1,1,1,1] o<|zm 1 o<|st 3 f15 tx2 o o o o tr<|nL o<|zn<|zi<|zt<|zr<|zA o<|eT (x:=b3.2) ?_
   refine aw (R':=Res.clsif dK (.pointer (some ⟨h4,0,none⟩)) b3.2 O.2.1.1) 0 o (cT c7)<|pk [1,0,0,0,0,0,0] o<|gi (x:=((O.2.1.1,b3.2),O.2.2.1,O.2.2.2)) ?_
   exact pk [0,1,1,1,1] o<|aX ((wrap .i64 (m.1+1)),((O.2.1.1,b3.2),O.2.2.1,O.2.2.2),(m.2.2++[(h5.1,b3.1,O.1,())])) h8 (Nat.lt_succ_self _) h o o
  exact zx<|ze<|ze<|zq<|zt<|ai (m.2.1,m.2.2) b1 h o o
 refine zs<|ir λh9=>?_
 refine zr<|zm 3 o<|yl 0 f0 gI o o o tr o ?_
 obtain⟨i0,h⟩:=cj h
 refine aw (R':=Res.cls dK h9 W.1.1.2) 1 o (dM i0)<|pk [1,0,0,0,0,0] o<|eP λa9 hp=>?_
 rw[hp]
 clear hp
 refine cB h λb4 i1 h=>rc [0] (sO _ _ _ i1) kr o o o λ_=>zm 2 o<|st 2 f16 ty3 o o o o tr<|nL o<|zZ 3 o<|yl 1 f0 gI o o o tr o<|cB h λb0 i2 h=>rc [0] (bJ _ _ _ i2) kr o o o λ_=>zm 1 o<|st 2 f17 ty2 o o o o tr<|za<|zs<|zs ?_
 refine pk [4,2,0,0,0,0] o<|ep (v:=a7) (T0:=W1) (x0:=(tP R.2 H u.1 (List.set (List.set R.2.2.2.2.2.2.2.2.2.2.2.2.2.2.1 0 a3.1) 1 a4.1) a5.1 a7 (wrap .i64 b4.1) b0.1)) (t:=Y56) f15 o o ?_
 refine pk [3,0,0,0,0] o<|ep (v:=H) (T0:=(.pair (.int .i64) (.pair (.int .i64) (.pair (.int .i64) (.pair (.int .i64) (.pair W62 (.pair W76 W23))))))) (x0:=(tP R.2 H u.1 (List.set (List.set R.2.2.2.2.2.2.2.2.2.2.2.2.2.2.1 0 a3.1) 1 a4.1) a5.1 W.2 (wrap .i64 b4.1) b0.1)) (t:=Y52) f4 o o ?_
 refine zr<|zm 1 o<|yl 0 .here bE o o o tr o<|cB h λN i3 h=>ar (rK _ _ _ i3) kr o o<|zm 5 o<|zZ 3 o<|yl 2 f1 ty4 o o o tr o<|q 1 [(0,ts C),(3,ptr V 0),(5,ptr f 0),(6,ptr M 0),(7,ti G.1),(11,ts N.1),(12,ti N.2),(172,tb W.1.2.1)] [] o<|bQ h 7 (λd=>[(0,ts C),(3,ptr V 0),(6,ptr M 0),(7,ti G.1),(11,ts N.1),(12,ti N.2),(179,tb d.1)]) (λd=>[Res.var M 30 Y30 (tP R.2 J.1 u.1 (List.set (List.set R.2.2.2.2.2.2.2.2.2.2.2.2.2.2.1 0 a3.1) 1 a4.1) a5.1 W.2 (wrap .i64 b4.1) b0.1),Res.var a9 171 W57 d.2,Res.var f 103 W53 ((.pointer (some ⟨a9,0,none⟩)),W.1.2.1,W.1.2.2),Res.var V 30 Y30 (0,0,0,0,[],[],0,0,0,(0,0,()),(0,0,()),(0,0,()),false,(List.replicate 2 ((List.replicate 32 (0:Int)):List (Int))),(List.replicate 32 (0:Int)),[],0,0,())]) (λj4 h=>?_) λd h=>?_
 ·rcases Bool.eq_false_or_eq_true W.1.2.1 with hh|hh
  ·rw[if_pos hh]at h
   refine o5 172 hh o ?_
   exact zN o<|zt<|ai (true,b0.2) () h o o
  rw[if_neg (ne_true_of_eq_false hh)]at h
  refine o5 172 hh o ?_
  refine zm 3 o<|am dl o ?_
  refine yl 2 f0 gI o o o tr o<|am dl o ?_
  exact cB h λc8 i4 h=>rc [1] (rL _ _ _ i4) kr o o o λ_=>zN o<|pk [1,0,0,0] o<|zt<|ai ((c8.1 !=0),c8.2) () h o o
 refine q 1 [(0,ts C),(3,ptr V 0),(6,ptr M 0),(7,ti G.1),(11,ts N.1),(12,ti N.2),(180,tb d.1)] [] o<|aM 3 [(0,ts C),(3,ptr V 0),(6,ptr M 0),(7,ti G.1),(11,ts N.1),(183,tb (d.1||(N.2 !=0)))] [Res.var M 30 Y30 (tP R.2 J.1 u.1 (List.set (List.set R.2.2.2.2.2.2.2.2.2.2.2.2.2.2.1 0 a3.1) 1 a4.1) a5.1 W.2 (wrap .i64 b4.1) b0.1),Res.var a9 171 W57 d.2,Res.var f 103 W53 ((.pointer (some ⟨a9,0,none⟩)),W.1.2.1,W.1.2.2),Res.var V 30 Y30 (0,0,0,0,[],[],0,0,0,(0,0,()),(0,0,()),(0,0,()),false,(List.replicate 2 ((List.replicate 32 (0:Int)):List (Int))),(List.replicate 32 (0:Int)),[],0,0,())] (?_) ?_
 ·clear h
  rcases Bool.eq_false_or_eq_true d.1 with hh|hh
  ·rw[hh]
   exact zA o<|ap () o o
  rw[hh]
  exact zA o<|ap () o o
 refine q 1 [(0,ts C),(3,ptr V 0),(6,ptr M 0),(7,ti G.1),(11,ts N.1),(184,tb (d.1||(N.2 !=0)))] [] o ?_
 obtain⟨c9,e,h⟩:=al h;rw[e]
 refine aM 4 [(3,ptr V 0),(6,ptr M 0),(7,ti G.1),(188,tb (c9||(N.1 !=C)))] [Res.var M 30 Y30 (tP R.2 J.1 u.1 (List.set (List.set R.2.2.2.2.2.2.2.2.2.2.2.2.2.2.1 0 a3.1) 1 a4.1) a5.1 W.2 (wrap .i64 b4.1) b0.1),Res.var a9 171 W57 d.2,Res.var f 103 W53 ((.pointer (some ⟨a9,0,none⟩)),W.1.2.1,W.1.2.2),Res.var V 30 Y30 (0,0,0,0,[],[],0,0,0,(0,0,()),(0,0,()),(0,0,()),false,(List.replicate 2 ((List.replicate 32 (0:Int)):List (Int))),(List.replicate 32 (0:Int)),[],0,0,())] (?_) ?_
 ·clear h
  cases c9
  ·exact zA o<|ap () o o
  exact zA o<|ap () o o
 refine za<|rI h o (λhc h=>?_) λhc h=>?_
 ·refine zu<|y (aY o fO o o .nil) o ?_
  refine zm 1 o<|st 3 .here bE o o o o tr<|zE o<|zT ?_
  cases h
  exact aE (rs:=[.tmp 2,.cell 3 30,.tmp 4]) o (.cons (.tmp o) (.cons (.cell 3 .here o o o aa bE) (.cons (.tmp o) (.nil)))) o (λ_ vs g=>aI vs g) (λ_ _ _=>List.nil_sublist _)
 refine zk<|zt<|zs<|dS kr<|zF 2 [0,2] kr o o<|af 1 kr o<|yl 0 .here bE o o o tr o<|zL [2,3,191] o<|af 3 kr o<|st 3 .here bE o o o o tr<|zL [2,3] o<|zF 1 [4] kr o o<|aN kr<|zt ?_
 refine zR ?_
 cases h
 exact aE (rs:=[.tmp 2,.cell 3 30,.tmp 4]) o (.cons (.tmp o) (.cons (.cell 3 .here o o o aa bE) (.cons (.tmp o) (.nil)))) o (λ_ vs g=>aI vs g) (λ_ _ _=>List.nil_sublist _)
theorem wB(R:Value)(W f r)(h:oS W f=some r):Fn PP 64 [tp R,.one Y30 f] [Res.disk PP dI R W] (λ_=> .tup [⟨(.int .i64),r.1⟩,⟨Y30,r.2.1⟩,⟨(.int .i64),r.2.2⟩]) (λ_=>[Res.disk PP dI R W]):=by
 unfold oS at h
 refine enter Tryz.func64 o 62 o o λF=>?_
 refine zu<|bA o o λV=>zm 1 o<|aC (t:=Y30) o fO o λu=>zm 1 o<|zZ 1 o<|cB h λd N h=>rc [2] (xj _ _ _ _ N) kr o o o λ_=>zA o<|zs<|zW o<|rI h o (λhc h=>zs<|dS kr<|zF 1 [1] kr o o<|af 0 kr o<|yl 2 .here bE o o o tr o<|zL [4,5,18] o<|af 2 kr o<|st 1 .here bE o o o o tr<|zL [4,5] o<|zF 1 [3] kr o o<|aN kr<|zt<|zR<|zT<|by cases h;exact aE (rs:=[.tmp 4,.cell 5 30,.tmp 6]) o (.cons (.tmp o) (.cons (.cell 1 .here o o o aa bE) (.cons (.tmp o) (.nil)))) o (λ_ vs g=>aI vs g) (λ_ _ _=>(.cons_cons _ (.cons _ (.cons _ .slnil))))) λhc h=>?_
 refine zk<|zt<|zs<|zW o<|rI h o (λhc h=>?_) λhc h=>?_
 ·refine zu<|y (aY o fO o o .nil) o ?_
  refine zm 2 o<|st 1 .here bE o o o o tr<|zE o<|zT ?_
  cases h
  exact aE (rs:=[.tmp 4,.cell 5 30,.tmp 6]) o (.cons (.tmp o) (.cons (.cell 1 .here o o o aa bE) (.cons (.tmp o) (.nil)))) o (λ_ vs g=>aI vs g) (λ_ _ _=>(.cons_cons _ (.cons _ (.cons _ .slnil))))
 refine zy<|zm 1 o<|cB h λc J h=>ar (td _ _ J) kr o o<|zm 4 o<|aC (t:=Y30) o fO o λM=>zm 1 o<|st 0 .here bE o o o o tr<|zA o<|zs<|zW o<|rI h o (λhc h=>?_) λhc h=>?_
 ·refine zu<|y (aY o fO o o .nil) o ?_
  refine zm 2 o<|st 2 .here bE o o o o tr<|zE o<|zT ?_
  cases h
  exact aE (rs:=[.tmp 4,.cell 5 30,.tmp 6]) o (.cons (.tmp o) (.cons (.cell 2 .here o o o aa bE) (.cons (.tmp o) (.nil)))) o (λ_ vs g=>aI vs g) (λ_ _ _=>(.cons _ (.cons_cons _ (.cons _ (.cons _ .slnil)))))
 refine zk<|zt<|zs<|zU 1 o<|yl 0 f0 ty3 o o o tr o<|zm 1 o<|yl 3 f0 ty3 o o o tr o<|q 2 [(3,ptr V 0),(5,ptr u 0),(9,ti c.1),(10,ptr M 0),(38,tb (c.2.1.1 !=f.1))] [] o ?_
 obtain⟨C,e,h⟩:=al h;rw[e]
 refine aM 6 [(3,ptr V 0),(5,ptr u 0),(9,ti c.1),(10,ptr M 0),(44,tb (C||(c.2.1.2.1 !=f.2.1)))] [Res.var M 30 Y30 c.2.1,Res.disk PP dI R W,Res.var u 30 Y30 (0,0,0,0,[],[],0,0,0,(0,0,()),(0,0,()),(0,0,()),false,(List.replicate 2 (z32:List (Int))),z32,[],0,0,()),Res.var V 30 Y30 f] (?_) ?_
 ·clear h
  cases C
  ·refine zm 1 o<|am dl o ?_
   refine yl 0 f1 ty2 o o o tr o<|zm 1 o<|am dl o ?_
   exact yl 3 f1 ty2 o o o tr o<|zA o<|ap () o o
  exact zA o<|ap () o o
 refine q 1 [(3,ptr V 0),(5,ptr u 0),(9,ti c.1),(10,ptr M 0),(45,tb (C||(c.2.1.2.1 !=f.2.1)))] [] o ?_
 obtain⟨H,e,h⟩:=al h;rw[e]
 refine aM 6 [(3,ptr V 0),(5,ptr u 0),(9,ti c.1),(10,ptr M 0),(51,tb (H||(c.2.1.2.2.1 !=f.2.2.1)))] [Res.var M 30 Y30 c.2.1,Res.disk PP dI R W,Res.var u 30 Y30 (0,0,0,0,[],[],0,0,0,(0,0,()),(0,0,()),(0,0,()),false,(List.replicate 2 (z32:List (Int))),z32,[],0,0,()),Res.var V 30 Y30 f] (?_) ?_
 ·clear h
  cases H
  ·refine zm 1 o<|am dl o ?_
   refine yl 0 f2 ty2 o o o tr o<|zm 1 o<|am dl o ?_
   exact yl 3 f2 ty2 o o o tr o<|zA o<|ap () o o
  exact zA o<|ap () o o
 refine q 1 [(3,ptr V 0),(5,ptr u 0),(9,ti c.1),(10,ptr M 0),(52,tb (H||(c.2.1.2.2.1 !=f.2.2.1)))] [] o ?_
 obtain⟨G,e,h⟩:=al h;rw[e]
 refine aM 6 [(5,ptr u 0),(9,ti c.1),(10,ptr M 0),(58,tb (G||(c.2.1.2.2.2.1 !=f.2.2.2.1)))] [Res.var M 30 Y30 c.2.1,Res.disk PP dI R W,Res.var u 30 Y30 (0,0,0,0,[],[],0,0,0,(0,0,()),(0,0,()),(0,0,()),false,(List.replicate 2 (z32:List (Int))),z32,[],0,0,()),Res.var V 30 Y30 f] (?_) ?_
 ·clear h
  cases G
  ·refine zm 1 o<|am dl o ?_
   refine yl 0 f3 ty2 o o o tr o<|zm 1 o<|am dl o ?_
   exact yl 3 f3 ty2 o o o tr o<|zA o<|ap () o o
  exact zA o<|ap () o o
 refine za<|rI h o (λhc h=>?_) λhc h=>?_
 ·refine zu<|y (aY o fO o o .nil) o ?_
  refine zm 1 o<|st 2 .here bE o o o o tr<|zE o<|zT ?_
  cases h
  exact aE (rs:=[.tmp 4,.cell 5 30,.tmp 6]) o (.cons (.tmp o) (.cons (.cell 2 .here o o o aa bE) (.cons (.tmp o) (.nil)))) o (λ_ vs g=>aI vs g) (λ_ _ _=>(.cons _ (.cons_cons _ (.cons _ (.cons _ .slnil)))))
 refine zk<|zt<|zs<|dS kr<|zF 2 [0,2] kr o o<|af 1 kr o<|yl 0 .here bE o o o tr o<|zL [4,5,61] o<|af 3 kr o<|st 2 .here bE o o o o tr<|zL [4,5] o<|zF 1 [4] kr o o<|aN kr<|zt ?_
 refine zR ?_
 cases h
 exact aE (rs:=[.tmp 4,.cell 5 30,.tmp 6]) o (.cons (.tmp o) (.cons (.cell 2 .here o o o aa bE) (.cons (.tmp o) (.nil)))) o (λ_ vs g=>aI vs g) (λ_ _ _=>(.cons _ (.cons_cons _ (.cons _ (.cons _ .slnil)))))
theorem y8(c r)(h:qy c=some r):bm PP 112 [ts c] (tb r):=by
 unfold qy at h
 refine enter Tryz.func112 o 27 o o λF=>?_
 refine zu<|q 1 [(0,ts c)] [] o<|za<|bv h (λu=>[(0,ts c)]) (λu=>[]) (λW h=>?_) λu h=>?_
 ·refine zW o<|zb<|ah [0,5,6] o<|bg (γ:=Unit) (λ(f:Int) _=>[(0,ts c),(5,ti (List.length c:Int)),(6,ti f)]) (λ(f:Int) _=>[]) (nQ c W) 0 () h o o ?_
  clear h
  intro M f gg h
  cases M with
  |zero=>cases h
  |succ M=>
  simp only[nQ]at h
  refine zW o<|zs<|rI h o (λhc h=>?_) λhc h=>?_
  ·refine zk<|zt<|zs<|zb<|zU 2 o<|zZ 2 o<|iE h λhc h=>y (gq ag o o hc.1 hc.2 o) o ?_
   refine q 2 [(3,ti f),(5,ti (List.length c:Int)),(6,ti f),(13,tb (decide ((List.getD c (Int.toNat f) 0)<33)))] [0] o ?_
   obtain⟨C,e,h⟩:=al h;rw[e]
   refine bQ h 5 (λV=>[(0,ts c),(5,ti (List.length c:Int)),(6,ti f),(18,tb V)]) (λ_=>[]) (λH h=>?_) λV h=>?_
   ·cases C
    ·replace h:=ifF h
     refine zm 2 o<|am dl o ?_
     refine iE h λhc h=>y (gq ag o o hc.1 hc.2 o) o ?_
     exact zN o<|zt<|ai (decide ((List.getD c (Int.toNat f) 0)>126)) () h o o
    replace h:=ifT h
    exact zN o<|zt<|ai true () h o o
   exact za<|rI h o (λhc h=>zU 1 o<|zf<|zB<|zT<|zT<|zB<|zT<|by cases h;exact ax o (.tmp o)) λhc h=>zk<|zi<|zt<|zr<|zA o<|aX (wrap .i64 (f+1)) () (Nat.lt_succ_self _) h o o
  exact zx<|ze<|ze<|zq<|zt<|ai () () h o o
 refine zu<|q 3 [(0,ts c),(22,tb (c !=[]))] [] o ?_
 obtain⟨R,e,h⟩:=al h;rw[e]
 refine aM 4 [(26,tb (R&&(decide ((List.length c:Int)≤24))))] [] (?_) ?_
 ·clear h
  cases R
  ·exact zA o<|ap () o o
  exact zA o<|ap () o o
 refine zE o ?_
 cases h
 exact ax o (.tmp o)
theorem vn(f:Value)(c r)(h:pn c=some r):Fn PP 19 [tp f] [Res.disk PP dI f c] (λ_=>tb r) (λ_=>[Res.disk PP dI f c]):=by
 unfold pn at h
 refine enter Tryz.func19 o 7 o o λF=>?_
 refine gT λu M hp=>?_
 subst hp
 refine zU 1 o<|zZ 3 o<|yl 0 f5 ty4 o o o tr o<|zE o<|ct (P:=PP) (I:=dI) (D:=c) ?_
 cases h
 exact bc o (.tmp o) (.cons_cons _ .slnil)
theorem ph(p:Value):Fn PP 113 [.one (.raw NV) p] [] (λv=> .one W74 v) (λv=>[Res.seqv 154 127 v p]):=by
 refine enter Tryz.func113 o 4 o o λF=>?_
 refine gm ?_
 refine ec ?_
 refine bA o o λb=>?_
 refine fX ag 1 [1] (E':=[(1,ptr b 0)]) o ?_
 refine hZ ?_
 refine eY ?_
 refine gm ?_
 refine ec ?_
 refine y (AH o) o ?_
 refine fX ag 1 [2] (E':=[(2,.one W74 (.func (.func 154) #[] #[adr b]))]) o ?_
 refine hZ ?_
 refine eY ?_
 refine rV ?_
 refine Res.seqv_of (g:=154) ?_
 exact aS o (.tmp o) (λ_ _ g=>holds_raw.2 ⟨rfl,by rw[(holds_raw.1 g).1];exact(holds_raw.1 g).2⟩) (λ_ _ g=>by obtain⟨rfl,_⟩:=holds_raw.1 g;exact List.Sublist.refl _)
theorem Hj:pZ PP 180 Go.Proofs.encStr (λx y=>decide (x≤y)):=Du Tryz.laysSortS
theorem uy(R:Value)(c:aB)(r:List (List Int))(h:ol c=some r):Fn PP 155 [.one (.raw NV) R] [Res.disk PP dI R c] (λv=> .one W62 v) (λv=>[Res.disk PP dI R c,Res.own v 9 .str r]):=by
 unfold ol at h
 refine enter Tryz.func155 o 25 o o λF=>?_
 refine gT λf u hp=>?_
 subst hp
 refine gm ?_
 refine ec ?_
 refine fX ag 1 [0] (E':=[(0,ptr f 0)]) o ?_
 refine hZ ?_
 refine eY ?_
 refine gm ?_
 refine gm ?_
 refine ec ?_
 refine fX ag 3 [0,7] (E':=[(0,ptr f 0),(7,ptr f 5)]) o ?_
 refine y (aL 0 f5 o o o (ab (ab (ab (ab (ab (aq aa)))))) ty4) o ?_
 refine hZ ?_
 refine eY ?_
 refine ii (b:=c.2.2.2.2.2.1) o (λhc=>?_) (λhc=>?_)
 ·rw[if_pos hc]at h
  refine gm ?_
  refine ec ?_
  refine fX ag 1 [2] (E':=[(2,.one W62 (.slice none 0 0))]) o ?_
  refine hZ ?_
  refine eY ?_
  refine rV ?_
  refine xL ?_
  refine ct (P:=PP) (I:=dI) (D:=c) ?_
  refine bT (.slice none 0 0) o 9 .str ?_
  refine lF ?_
  obtain rfl:=Option.some.inj h
  exact aS o (.tmp o) (λ_ _ g=>bf g) (λ_ _ g=>by obtain⟨rfl,_⟩:=holds_raw.1 g;exact List.Sublist.refl _)
 ·rw[if_neg (ne_true_of_eq_false hc)]at h
  obtain⟨bU,h⟩:=cj h
  obtain rfl:=Option.some.inj h
  refine rn ?_
  refine eY ?_
  refine gm ?_
  refine ec ?_
  refine fX ag 1 [0,3] (E':=[(0,ptr f 0),(3,.one W62 (.slice none 0 0))]) o ?_
  refine hZ ?_
  refine eY ?_
  repeat refine gm ?_
  refine ec ?_
  refine fX ag 3 [0,3,11] (E':=[(0,ptr f 0),(3,.one W62 (.slice none 0 0)),(11,ptr f 1)]) o ?_
  refine y (aL 0 f1 o o o (ab (aq aa)) mX) o ?_
  refine lF ?_
  refine yn dW o Tryz.underlying121 o λV G=>?_
  refine hZ ?_
  refine eY ?_
  refine tZ ?_
  refine bT (.slice none 0 0) o 9 .str ?_
  refine ah [0,3,13] o ?_
  refine oZ (p:=(([]:List (List Int))++c.2.1.map (·.1)).Perm (c.2.1.map (·.1))) (List.Perm.refl _) ?_
  refine EO (σ:=List (List Int)×Value×List (List Int)) (λs=>[(0,ptr f 0),(3,.one W62 s.2.1),(13,.one W63 V)]) (λs=>[Res.fact ((s.2.2++s.1).Perm (c.2.1.map (·.1))),Res.own s.2.1 9 .str s.2.2,Res.diter PP dI u V c.2.1 s.1 none none,Res.var f 123 DT (cy c u c.2.2.2.2.2.2 ())]) (λs=>s.1.length) (c.2.1.map (·.1),.slice none 0 0,[]) o o ?_
  rintro⟨todo,M,xs⟩
  refine da λhperm=>?_
  refine lF ?_
  refine gm ?_
  refine ec ?_
  refine wq dW o o (λht=>?_) (λA k B q htk hk=>?_)
  ·have W:xs.Perm (c.2.1.map (·.1)):=by have hp:=hperm;simp only at ht hp;rw[ht,List.append_nil]at hp;exact hp
   refine vJ ?_
   refine fX ag 1 [0,3,15] (E':=[(0,ptr f 0),(3,.one W62 M),(15,.one .bool false)]) o ?_
   refine hZ ?_
   refine eY ?_
   refine gm ?_
   refine ii (b:=false) o (λhc=>?_) (λhc=>?_)
   ·cases hc
   ·refine xJ ?_
    refine vv ?_
    refine vv ?_
    refine C9 ?_
    refine eY ?_
    refine Co dW λhko hso=>?_
    refine lF ?_
    refine gm ?_
    refine ec ?_
    refine fX ag 1 [3,22] (E':=[(3,.one W62 M),(22,.one W62 M)]) o ?_
    refine gp (Lo:=[Res.dfiles PP dI u c.2.1,Res.var f 123 DT (cy c u c.2.2.2.2.2.2 ())]) (Dw Hj W hso (λx hx=>by obtain⟨p,hp,rfl⟩:=List.mem_map.1 (W.mem_iff.1 hx);exact(hko p hp).1) (by rw[W.length_eq,List.length_map];omega) M) kr (List.Perm.refl _) o o λ_=>?_
    refine hZ ?_
    refine eY ?_
    refine gm ?_
    refine ec ?_
    refine fX ag 2 [2] (E':=[(2,.one W62 M)]) o ?_
    refine hZ ?_
    refine eY ?_
    refine rV ?_
    refine ny (L':=[Res.var f 123 DT (cy c u c.2.2.2.2.2.2 ()),Res.dfiles PP dI u c.2.1,Res.own M 9 .str (c.2.1.map (·.1))]) ((List.Perm.swap _ _ _).trans ((List.Perm.cons _ (List.Perm.swap _ _ _)).trans (List.Perm.swap _ _ _))) ?_
    refine ct (P:=PP) (I:=dI) (D:=c) ?_
    exact aS o (.tmp o) (λ_ _ g=>bf g) (λ_ _ g=>by obtain⟨rfl,_⟩:=holds_raw.1 g;exact List.Sublist.refl _)
  ·refine fX ag 1 [0,3,13,15] (E':=[(0,ptr f 0),(3,.one W62 M),(13,.one W63 V),(15,.one .bool true)]) o ?_
   refine hZ ?_
   refine eY ?_
   refine gm ?_
   refine ii (b:=true) o (λhc=>?_) (λhc=>?_)
   ·refine rn ?_
    refine eY ?_
    refine tZ ?_
    refine gm ?_
    refine ec ?_
    refine y (uZ o 0 o) o ?_
    refine fX ag 2 [0,3,4,13] (E':=[(0,ptr f 0),(3,.one W62 M),(4,.one .str k),(13,.one W63 V)]) o ?_
    refine hZ ?_
    refine eY ?_
    refine ec ?_
    refine fX ag 2 [0,13,18,19] (E':=[(0,ptr f 0),(13,.one W63 V),(18,.one W62 M),(19,.one .str k)]) o ?_
    refine bu (B:=16) ag o el9 o o o (.cons o .nil) o λN=>?_
    have hroom:(List.length xs+List.length [k])*16≤140737488355328:=by
     have C:=hperm.length_eq
     simp only at htk C
     rw[htk]at C
     simp only[List.length_append,List.length_cons,List.length_nil,List.length_map]at C⊢
     omega
    refine bd (B:=16) ag 2 o o (bL 0 o o) o el9 o o hroom o λH=>?_
    refine fX ag 1 [0,3,13] (E':=[(0,ptr f 0),(3,.one W62 H),(13,.one W63 V)]) o ?_
    refine hZ ?_
    refine wI ?_
    refine eY ?_
    refine xP (L':=[Res.diter PP dI u V c.2.1 (A++B) (some (k,q)) none,Res.own H 9 .str (xs++[k]),Res.var f 123 DT (cy c u c.2.2.2.2.2.2 ())]) (.cons _ (List.Sublist.refl _)) ?_
    refine aw (R':=Res.diter PP dI u V c.2.1 (A++B) none none) 0 o sr ?_
    refine lF ?_
    refine oZ (p:=((xs++[k])++(A++B)).Perm (c.2.1.map (·.1))) (by
     have hp:=hperm
     simp only at htk hp
     rw[htk]at hp
     refine List.Perm.trans ?_ hp
     rw[List.append_assoc]
     exact List.Perm.append_left _ (List.perm_middle (a:=k) (l₁:=A) (l₂:=B)).symm) ?_
    exact EP (A++B,H,xs++[k]) (by simp only at htk⊢;rw[htk];simp) o o
   ·cases hc
theorem jh(f c r)(h:fc f c=some r):bm PP 192 [ts f,ts c] (tb r):=by
 unfold fc at h
 refine enter Tryz.func192 o 18 o o λF=>?_
 refine zU 1 o<|zz<|q 6 [(0,ts f),(1,ts c),(10,tb (decide ((List.length f:Int)≥(List.length c:Int))))] [] o ?_
 obtain⟨M,e,h⟩:=al h;rw[e]
 refine bQ h 7 (λu=>[(17,tb u)]) (λ_=>[]) (λV h=>?_) λu h=>?_
 ·cases M
  ·replace h:=ifF h
   exact zN o<|zt<|ai false () h o o
  replace h:=ifT h
  refine zm 3 o<|am dl o ?_
  refine iE h λhc h=>y (jB (i:=(0:Int)) (j:=(List.length c:Int)) ag o o o hc.1 hc.2.1 hc.2.2 o) o ?_
  exact zN o<|zt<|ai ((List.drop 0 (List.take (Int.toNat (List.length c:Int)) f))==c) () h o o
 refine zE o ?_
 cases h
 exact ax o (.tmp o)
theorem mM(c f r)(h:gw c f=some r):bm PP 181 [ts c,ts f] (.tup [⟨.str,r.1⟩,⟨.bool,r.2⟩]):=by
 unfold gw at h
 refine enter Tryz.func181 o 15 o o λF=>?_
 refine zW o<|zs<|zU 2 o<|cB h λM u h=>ar (jh _ _ _ u) kr o o<|zA o<|rI h o (λhc h=>zU 3 o<|zf<|zT<|by cases h;exact aE (rs:=[.tmp 4,.tmp 5]) o (.cons (.tmp o) (.cons (.tmp o) (.nil))) o (λ_ vs g=>aI vs g) (λ_ _ _=>List.nil_sublist _)) λhc h=>zy<|zm 3 o<|iE h λhc h=>y (jB (i:=(List.length f:Int)) (j:=(List.length c:Int)) ag o o o hc.1 hc.2.1 hc.2.2 o) o ?_
 refine q 1 [(4,ts (List.drop (Int.toNat (List.length f:Int)) (List.take (Int.toNat (List.length c:Int)) c)))] [] o ?_
 obtain⟨V,e,h⟩:=al h;rw[e]
 refine zE o ?_
 cases h
 exact aE (rs:=[.tmp 4,.tmp 5]) o (.cons (.tmp o) (.cons (.tmp o) (.nil))) o (λ_ vs g=>aI vs g) (λ_ _ _=>List.nil_sublist _)
theorem sR(c f r)(h:mj c f=some r):bm PP 156 [ts c,ts f] (.tup [⟨.str,r.1⟩,⟨.bool,r.2⟩]):=by
 unfold mj at h
 refine enter Tryz.func156 o 11 o o λF=>?_
 refine zU 2 o<|zZ 2 o<|cB h λM u h=>ar (mM _ _ _ u) kr o o<|zE o ?_
 cases h
 exact aE (rs:=[.tmp 4,.tmp 5]) o (.cons (.tmp o) (.cons (.tmp o) (.nil))) o (λ_ vs g=>aI vs g) (λ_ _ _=>List.nil_sublist _)
theorem xk(c r)(h:sI c=some r):bm PP 157 [ts c] (ti r):=by
 unfold sI at h
 refine enter Tryz.func157 o 48 o o λF=>?_
 refine zW o<|zs<|zu<|q 3 [(0,ts c),(7,tb (c==[]))] [] o ?_
 obtain⟨C,e,h⟩:=al h;rw[e]
 refine bQ h 9 (λR=>[(0,ts c),(16,tb R)]) (λ_=>[]) (λd h=>?_) λR h=>?_
 ·rcases Bool.eq_false_or_eq_true C with hh|hh
  ·rw[hh]at h⊢
   rw[if_pos o]at h
   exact zN o<|zt<|ai true () h o o
  rw[hh]at h⊢
  rw[if_neg (by decide)]at h
  refine q 4 [(7,tb false),(11,tb (decide ((List.length c:Int)>1)))] [0] o ?_
  obtain⟨H,e,h⟩:=al h;rw[e]
  refine bQ h 4 (λM=>[(0,ts c),(7,tb false),(15,tb M)]) (λ_=>[]) (λm h=>?_) λM h=>?_
  ·cases H
   ·replace h:=ifF h
    exact zN o<|zt<|ai false () h o o
   replace h:=ifT h
   refine zm 1 o<|am dl o ?_
   refine iE h λhc h=>y (gq ag o o hc.1 hc.2 o) o ?_
   exact zN o<|zt<|ai ((List.getD c 0 0)==48) () h o o
  exact zN o<|zt<|ai M () h o o
 refine za<|rI h o (λhc h=>zU 1 o<|zf<|zT<|by cases h;exact ax o (.tmp o)) λhc h=>zy<|q 1 [(0,ts c),(3,ti 0)] [] o<|za<|bv h (λV=>[(3,ti V)]) (λV=>[]) (λG h=>?_) λV h=>?_
 ·refine zW o<|zb<|ah [0,3,18,19] o<|bg (γ:=Unit) (λ(f:Int×Int) _=>[(0,ts c),(3,ti f.1),(18,ti (List.length c:Int)),(19,ti f.2)]) (λ(f:Int×Int) _=>[]) (mT c G) (0,0) () h o o ?_
  clear h
  intro W f gg h
  cases W with
  |zero=>cases h
  |succ W=>
  simp only[mT]at h
  refine zW o<|zs<|rI h o (λhc h=>?_) λhc h=>?_
  ·refine zk<|zt<|zs<|zb<|zW o<|zs<|zU 2 o<|iE h λhc h=>y (gq ag o o hc.1 hc.2 o) o ?_
   refine q 2 [(3,ti f.1),(4,ti f.2),(18,ti (List.length c:Int)),(19,ti f.2),(26,tb (decide ((List.getD c (Int.toNat f.2) 0)<48)))] [0] o ?_
   obtain⟨N,e,h⟩:=al h;rw[e]
   refine bQ h 5 (λu=>[(0,ts c),(3,ti f.1),(4,ti f.2),(18,ti (List.length c:Int)),(19,ti f.2),(31,tb u)]) (λ_=>[]) (λO h=>?_) λu h=>?_
   ·cases N
    ·replace h:=ifF h
     refine zm 2 o<|am dl o ?_
     refine iE h λhc h=>y (gq ag o o hc.1 hc.2 o) o ?_
     exact zN o<|zt<|ai (decide ((List.getD c (Int.toNat f.2) 0)>57)) () h o o
    replace h:=ifT h
    exact zN o<|zt<|ai true () h o o
   refine q 1 [(0,ts c),(3,ti f.1),(4,ti f.2),(18,ti (List.length c:Int)),(19,ti f.2),(32,tb u)] [] o<|aM 3 [(0,ts c),(3,ti f.1),(4,ti f.2),(18,ti (List.length c:Int)),(19,ti f.2),(35,tb (u||(decide (f.1>9999999))))] [] (?_) ?_
   ·clear h
    cases u
    ·exact zA o<|ap () o o
    exact zA o<|ap () o o
   refine za<|rI h o (λhc h=>zU 1 o<|zf<|zT<|zB<|zT<|zT<|zB<|zT<|by cases h;exact ax o (.tmp o)) λhc h=>zk<|zt<|zr<|zm 4 o<|iE h λhc h=>y (gq ag o o hc.1 hc.2 o) o ?_
   refine q 3 [(0,ts c),(18,ti (List.length c:Int)),(19,ti f.2),(43,ti (wrap .i64 ((wrap .i64 (10*f.1))+(wrap .i64 (wrap .u8 ((List.getD c (Int.toNat f.2) 0) - 48))))))] [] o ?_
   obtain⟨J,e,h⟩:=al h;rw[e]
   exact zN o<|zi<|zt<|zr<|zA o<|aX (J,(wrap .i64 (f.2+1))) () (Nat.lt_succ_self _) h o o
  exact zx<|ze<|ze<|zq<|zt<|ai f.1 () h o o
 refine zs<|zW o<|rI h o (λhc h=>zU 1 o<|zf<|zT<|by cases h;exact ax o (.tmp o)) λhc h=>zy<|zE o ?_
 cases h
 exact ax o (.tmp o)
theorem Hk:pZ PP 158 (Value.int .i64) (λx y=>decide (x≤y)):=Dv Tryz.laysSortI
theorem n1(R:Nat)(d f:Value)(u C r)(h:jT u C=some r):IterOk PP (TabM PP bD) 154 [adr R] [Res.var R 127 W63 d,Res.cls (cd f) d u,Res.disk PP dI f C] r:=by
 unfold jT at h
 refine IterOk.of λF w l K B Lo hT hR hK hperm hst=>?_
 refine Cl (F:=F) (args:=[.one W74 (.func (.yield l) #[] #[]),ptr R 0]) Tryz.func154 o 56 o o ?_ hst (.cons (holds_raw.2 ⟨rfl,o⟩) (.cons (holds_raw.2 ⟨rfl,o⟩) .nil))
 refine DG (Lc:=[Res.var R 127 W63 d,Res.cls (cd f) d u,Res.disk PP dI f C]) λF1 hle back=>?_
 replace hT:=TabM.mono hle hT
 refine pk [1,0,0] o<|na λW a8 hp=>?_
 subst hp
 refine bM (x:=u) (q:=f) ?_
 refine pk [1,0,0] o<|zu<|q 1 [(0,.one W74 (.func (.yield l) #[] #[])),(1,ptr R 0),(3,.one W62 (.slice none 0 0))] [] o<|bT (.slice none 0 0) o 3 (.int .i64) ?_
 refine za<|jK h (γ:=Value) (λc g5=>[(0,.one W74 (.func (.yield l) #[] #[])),(3,.one W62 g5)]) (λc g5=>[Res.cls (cd f) (.pointer (some ⟨W,0,none⟩)) u,Res.disk PP dI f C,Res.own g5 3 (.int .i64) c,Res.var R 127 W63 (.pointer (some ⟨W,0,none⟩))]) (λk3 h=>?_) λc g5 h=>?_
 ·refine zs<|pk [2,0,0,0] o<|fm λH=>?_
  refine zr<|yl 3 .here cV o o o tr o<|zm 2 o<|yl 0 f0 dR o o o tr o<|cB h λM a3 h=>rc [4] (uy _ _ _ a3) kr o o o λv8=>y (bW ag 1 o o o) o ?_
  refine zA o<|zb<|ah [0,1,3,15,16,17] o<|bg (γ:=Value×Value) (λ(V:Int×List (Int)) g17=>[(0,.one W74 (.func (.yield l) #[] #[])),(1,ptr R 0),(3,.one W62 g17.2),(15,.one W62 g17.1),(16,ti (List.length M:Int)),(17,ti V.1)]) (λ(V:Int×List (Int)) g17=>[Res.disk PP dI f C,Res.own g17.1 9 .str M,Res.var W 186 W37 (bI u f H),Res.own H 195 Y195 u.2.2.2.1,Res.own g17.2 3 (.int .i64) V.2,Res.var R 127 W63 (.pointer (some ⟨W,0,none⟩))]) (iW u k3 M) (0,[]) (v8,(.slice none 0 0)) h o o ?_
  clear h
  intro a2 V g17 h
  cases a2 with
  |zero=>cases h
  |succ a2=>
  simp only[iW]at h
  refine zW o<|zs<|rI h o (λhc h=>?_) λhc h=>?_
  ·refine zk<|zt<|jK h (γ:=Value×Value) (λ(O:List (Int)) g23=>[(0,.one W74 (.func (.yield l) #[] #[])),(1,ptr R 0),(3,.one W62 g23.2),(15,.one W62 g23.1),(16,ti (List.length M:Int)),(17,ti V.1)]) (λ(O:List (Int)) g23=>[Res.disk PP dI f C,Res.own g23.1 9 .str M,Res.var W 186 W37 (bI u f H),Res.own H 195 Y195 u.2.2.2.1,Res.own g23.2 3 (.int .i64) O,Res.var R 127 W63 (.pointer (some ⟨W,0,none⟩))]) (λa9 h=>?_) λO g23 h=>?_
   ·refine zb<|zu<|iE h λhc h=>ce 1 o (by omega) λG N J hv=>?_
    rw[hv]
    try clear hv
    refine y (cx ag o o hc.1 (by first|exact hc.2|simpa using hc.2) o ty9) o ?_
    refine y (dE 1 (Int.toNat V.1) .here o o (by omega) pof aa ty9) o ?_
    refine q 1 [(3,.one W62 g17.2),(5,ts (List.getD M (Int.toNat V.1) [])),(15,.one W62 (.slice (some ⟨G,N,none⟩) (List.length M) J)),(16,ti (List.length M:Int)),(17,ti V.1)] [0,1] o ?_
    obtain⟨f27,e,h⟩:=al h;rw[e]
    refine zZ 1 o<|yl 5 .here cV o o o tr o<|zm 2 o<|yl 2 f1 ty9 o o o tr o<|iE h λhc h=>y (jN o o hc) o ?_
    refine cB h λa0 a4 h=>ar (sR _ _ _ a4) kr o o<|zm 5 o<|zZ 1 o<|cB h λZ a5 h=>ar (xk _ _ a5) kr o o<|zm 1 o<|zz<|q 2 [(8,ti Z),(34,tb a0.2)] [0,1,3,15,16,17] o<|aM 3 [(0,.one W74 (.func (.yield l) #[] #[])),(1,ptr R 0),(3,.one W62 g17.2),(8,ti Z),(15,.one W62 (.slice (some ⟨G,N,none⟩) (List.length M) J)),(16,ti (List.length M:Int)),(17,ti V.1),(37,tb (a0.2&&(decide (Z≥0))))] [Res.disk PP dI f C,Res.own (.slice (some ⟨G,N,none⟩) (List.length M) J) 9 .str M,Res.var W 186 W37 (bI u f H),Res.own H 195 Y195 u.2.2.2.1,Res.own g17.2 3 (.int .i64) V.2,Res.var R 127 W63 (.pointer (some ⟨W,0,none⟩))] (?_) ?_
    ·clear h
     rcases Bool.eq_false_or_eq_true a0.2 with hh|hh
     ·rw[hh]
      exact zA o<|ap () o o
     rw[hh]
     exact zA o<|ap () o o
    refine za<|rI h o (λhc h=>?_) λhc h=>?_
    ·refine zr<|zm 2 o<|bu (B:=8) ag o el3 o o o (.cons o .nil) o λb0=>?_
     refine iE h λhc h=>bd (B:=8) ag 5 o o (bL 0 o o) o el3 o o hc o λa6=>?_
     exact pk [1,1,1,1,1,1] o<|zN o<|zi<|zt<|ai (V.2++[Z]) ((.slice (some ⟨G,N,none⟩) (List.length M) J),a6) h o o
    exact zk<|zi<|zt<|ai V.2 ((.slice (some ⟨G,N,none⟩) (List.length M) J),g17.2) h o o
   exact zr<|zA o<|aX ((wrap .i64 (V.1+1)),O) (g23.1,g23.2) (Nat.lt_succ_self _) h o o
  refine zx<|ze<|ze<|zq<|zt<|pk [2,2,0,0,0,0] o<|bM (x:=u) (q:=f) ?_
  exact pk [0,0,1,1] o<|ai V.2 g17.2 h o o
 refine zU 1 o ?_
 obtain⟨hsrt,h⟩:=cj h
 refine rc [2] (Dy Hk hsrt _) kr o o o λ_=>zZ 1 o<|y (bW ag 0 o o o) o ?_
 refine zA o<|kB (i:=0) (k:=45) o o ?_
 refine pk [2,0,0] o<|ah [0,45,46,47] o ?_
 cases h
 refine Bo back ?_
 refine zb ?_
 have bU:List.length (eI c)<4611686018427387904:=by rw[(qK _).length_eq];exact hsrt
 refine E8 (σ:=Nat×List Res) (λm s=>m=List.length (eI c) - s.1∧s.1≤List.length (eI c)∧K (List.drop s.1 (eI c)) s.2) (λs=>[(0,.one W74 (.func (.yield l) #[] #[])),(45,.one W69 (eI c)),(46,ti (List.length (eI c):Int)),(47,ti (s.1:Int))]) (λs=>s.2) (List.length (eI c)) (0,[Res.var R 127 W63 (.pointer (some ⟨W,0,none⟩)),Res.cls (cd f) (.pointer (some ⟨W,0,none⟩)) u,Res.disk PP dI f C]++Lo) ⟨rfl,Nat.zero_le _,hK⟩ o o ?_
 rintro m ⟨i,LK⟩ ⟨hm,hi,hKi⟩
 dsimp only at hm hi hKi
 refine zW o<|zs ?_
 refine ii (b:=decide ((i:Int)<(List.length (eI c):Int))) o (λhc=>?_) (λhc=>?_)
 ·have hlt:i<List.length (eI c):=by have:=of_decide_eq_true hc;omega
  obtain⟨x,rest,hdr,hgx,a7⟩:=xg hlt
  refine rn ?_
  refine eY ?_
  refine gm ?_
  refine tZ ?_
  refine gm ?_
  refine ec ?_
  refine y (eZ ag o o (by omega) (by omega) o ty3) o ?_
  refine y (fP o ty3) o ?_
  refine fX ag 1 [0,45,46,47,10] (E':=[(0,.one W74 (.func (.yield l) #[] #[])),(45,.one W69 (eI c)),(46,ti (List.length (eI c):Int)),(47,ti (i:Int)),(10,ti (List.getD (eI c) (Int.toNat (i:Int)) 0))]) o ?_
  refine hZ ?_
  refine eY ?_
  refine gm ?_
  rw[show List.getD (eI c) (Int.toNat (i:Int)) 0=x from hgx]
  refine CB (A:=K rest) (B:=B) o o o o o o o o (λhr=>hR x rest LK hr (hdr▸hKi)) (λL' hA=>?_) (λL' hB=>?_)
  ·refine eY ?_
   refine ii (b:=false) o (λhc=>?_) (λhc=>?_)
   ·cases hc
   ·refine rn ?_
    refine wI ?_
    refine eY ?_
    refine ec ?_
    refine fX ag 2 [0,45,46,47] (E':=[(0,.one W74 (.func (.yield l) #[] #[])),(45,.one W69 (eI c)),(46,ti (List.length (eI c):Int)),(47,ti (wrap .i64 ((i:Int)+1)))]) o ?_
    refine hZ ?_
    refine eY ?_
    rw[Cs hlt bU]
    exact E9 (List.length (eI c) - (i+1)) (i+1,L') (by omega) ⟨rfl,hlt,by rw[a7];exact hA⟩ o o
  ·refine eY ?_
   refine ii (b:=true) o (λhc=>?_) (λhc=>?_)
   ·refine rV ?_
    refine Ac ?_
    refine xL ?_
    refine xL ?_
    refine Ac ?_
    exact Fa o (.inr hB)
   ·cases hc
 ·have hge:List.length (eI c)≤i:=by have:=of_decide_eq_false hc;omega
  refine xJ ?_
  refine vv ?_
  refine vv ?_
  refine C9 ?_
  exact CC o (.inl (by rw[List.drop_eq_nil_of_le hge]at hKi;exact hKi))
theorem vZ(c r)(h:strconv_Itoa c=some r):FnT PP bD 164 [ti c] [] (λ_=>ts r) (λ_=>[]):=Cr (.head _) Go.Proofs.Tryz.strconv_Itoa c r h
theorem aD(u:Nat)(M V:Value)(c f r)(h:ed c f=some r):FnT PP bD 116 [ptr u 0,ti f] [Res.var u 186 W37 (bI c M V)] (λ_=>ts r) (λ_=>[Res.var u 186 W37 (bI c M V)]):=by
 unfold ed at h
 refine ik Tryz.func116 o 13 o o λF hT=>?_
 refine zW o<|zs<|eL kr kr ?_
 refine ay ag 3 [1,7] (E':=[(1,ti f),(7,ptr u 1)]) o ?_
 refine q_y (aL 0 f1 o o o (ab (aq aa)) ty9) o ?_
 refine iE h λhc h=>q_y (jN o o hc) o ?_
 refine ay ag 1 [9,10] (E':=[(9,ts (c.2.1++[46])),(10,ti f)]) o ?_
 refine cB h λR W h=>Dz hT dl (vZ f _ W) kr o o o ?_
 refine iE h λhc h=>q_y (jN o o hc) o ?_
 refine ay ag 1 [4] (E':=[(4,ts ((c.2.1++[46])++R))]) o ?_
 refine fa ?_
 refine zt<|zR ?_
 cases h
 exact bc o (.tmp o) (.cons_cons _ .slnil)
theorem jW(M:Value)(c f r)(h:lZ c f=some r):Fn PP 120 [tp M,ts f] [Res.disk PP dI M c] (λ_=> .tup [⟨(.int .i64),r.1⟩,⟨(.int .i64),r.2⟩]) (λ_=>[Res.disk PP dI M c]):=by
 unfold lZ at h
 refine enter Tryz.func120 o 22 o o λF=>?_
 refine gT λR u hp=>?_
 subst hp
 refine zU 2 o<|zZ 2 o<|cB h λH W h=>gp (Lo:=[]) (gj R u c f _ W) kr (List.Perm.refl _) o o λC=>?_
 refine zA o<|zs<|zW o<|rI h o (λhc h=>zU 3 o<|zf<|zT<|aw (R':=Res.dfiles PP dI u c.2.1) 1 o fp<|ct (P:=PP) (I:=dI) (D:=c)<|by cases h;exact aE (rs:=[.tmp 4,.tmp 5]) o (.cons (.tmp o) (.cons (.tmp o) (.nil))) o (λ_ vs g=>aI vs g) (λ_ _ _=>(.cons_cons _ .slnil))) λhc h=>zk<|zt<|zs<|iE h λhc h=>aw (R':=Res.dat PP dI u c.2.1 f (au C 0)) 1 o (nC hc)<|cB h λf5 V h=>pk [1,0] o<|iB dW V λG N J d hq=>?_
 rw[hq]
 clear hq
 refine zr<|zm 3 o<|yl 0 f0 tx0 o o o tr o<|y (bW ag 1 o o o) o ?_
 refine zE o<|jC (P:=PP) (I:=dI) dW V ?_
 refine aw (R':=Res.dfiles PP dI u c.2.1) 0 o cp<|nL o<|pk [1,0] o<|ct (P:=PP) (I:=dI) (D:=c) ?_
 cases h
 exact aE (rs:=[.tmp 4,.tmp 5]) o (.cons (.tmp o) (.cons (.tmp o) (.nil))) o (λ_ vs g=>aI vs g) (λ_ _ _=>(.cons_cons _ .slnil))
theorem pp(u f r)(h:iX u f=some r):bm PP 173 [.one (.int .u64) u,ti f] (ts r):=by
 unfold iX at h
 refine enter Tryz.func173 o 28 o o λF=>?_
 refine zU 1 o<|zZ 1 o<|iE h λhc h=>BW (B:=1) ag o el5 o zf5 o o o hc.1 hc.2 o λV=>?_
 refine q 1 [(0,.one (.int .u64) u),(1,ti f),(5,.one W62 V)] [] o<|za<|jK h (γ:=Value) (λM g4=>[(5,.one W62 g4)]) (λM g4=>[Res.own g4 5 (.int .u8) M]) (λW h=>?_) λM g4 h=>?_
 ·refine zU 1 o<|y (bW ag 0 o o o) o ?_
  refine zA o<|zb<|ah [0,1,5,10,11] o<|bg (γ:=Value) (λ(c:Int×List (Int)) g9=>[(0,.one (.int .u64) u),(1,ti f),(5,.one W62 g9),(10,ti (List.length (List.replicate (Int.toNat f) (0:Int)):Int)),(11,ti c.1)]) (λ(c:Int×List (Int)) g9=>[Res.own g9 5 (.int .u8) c.2]) (iC u f W) (0,(List.replicate (Int.toNat f) (0:Int))) V h o o ?_
  clear h
  intro R c g9 h
  cases R with
  |zero=>cases h
  |succ R=>
  simp only[iC]at h
  refine zW o<|zs<|rI h o (λhc h=>?_) λhc h=>?_
  ·refine zk<|zt<|zs<|zb<|zW o<|zr<|zm 8 o<|iE h λhc h=>y (oF o o hc) o ?_
   refine q 1 [(5,.one W62 g9),(10,ti (List.length (List.replicate (Int.toNat f) (0:Int)):Int)),(11,ti c.1),(14,.one W62 g9),(15,ti c.1),(23,.one (.int .u8) (wrap .u8 (bS .u64 u (wrap .i64 (8*(wrap .i64 ((wrap .i64 (f - 1)) - c.1)))))))] [0,1] o ?_
   obtain⟨C,e,h⟩:=al h;rw[e]
   refine iE h λhc h=>ce 0 o pix λH G N hv=>?_
   rw[hv]
   try clear hv
   refine y (cx ag o o hc.1 (by first|exact hc.2|simpa using hc.2) o ty5) o ?_
   refine mw 0 (Int.toNat c.1) .here o o o pix pof aa ty5 ?_
   exact zn<|zi<|zt<|zr<|zA o<|aX ((wrap .i64 (c.1+1)),(List.set c.2 (Int.toNat c.1) C)) (.slice (some ⟨H,G,none⟩) (List.length c.2) N) (Nat.lt_succ_self _) h o o
  exact zx<|ze<|ze<|zq<|zt<|ai c.2 g9 h o o
 refine zU 1 o<|y (vx ag 0 o o o o o) o ?_
 refine zE o ?_
 cases h
 exact ax o (.tmp o)
theorem mp(c f r)(h:strings_Repeat c f=some r):bm PP 167 [.one .str c,.one (.int .i64) f] (.one .str r):=zD Go.Proofs.Tryz.strings_Repeat c f r h
theorem rM(f c r)(h:kY f c=some r):bm PP 128 [ti f,ts c] (.tup [⟨.str,r.1⟩,⟨(.int .i64),r.2⟩]):=by
 unfold kY at h
 refine enter Tryz.func128 o 40 o o λF=>?_
 refine zW o<|zs<|zW o<|rI h o (λhc h=>zU 2 o<|zf<|zT<|by cases h;exact aE (rs:=[.tmp 4,.tmp 5]) o (.cons (.tmp o) (.cons (.tmp o) (.nil))) o (λ_ vs g=>aI vs g) (λ_ _ _=>List.nil_sublist _)) λhc h=>zk<|zt<|zs<|zW o<|rI h o (λhc h=>zU 2 o<|zf<|zT<|by cases h;exact aE (rs:=[.tmp 4,.tmp 5]) o (.cons (.tmp o) (.cons (.tmp o) (.nil))) o (λ_ vs g=>aI vs g) (λ_ _ _=>List.nil_sublist _)) λhc h=>zy<|zm 3 o<|cB h λu M h=>ar (pp _ _ _ M) kr o o<|zm 2 o ?_
 refine cB h λV R h=>ar (pp _ _ _ R) kr o o<|iE h λhc h=>y (jN o o hc) o ?_
 refine q 1 [(1,ts c),(6,ts (u++V))] [] o ?_
 obtain⟨W,e,h⟩:=al h;rw[e]
 refine zZ 1 o<|cB h λd C h=>ar (sN _ _ C) kr o o<|zm 1 o<|cB h λm H h=>ar (tV _ _ _ H) kr o o<|zm 1 o<|zZ 3 o<|cB h λG N h=>ar (pp _ _ _ N) kr o o<|iE h λhc h=>y (jN o o hc) o ?_
 refine zm 1 o<|iE h λhc h=>y (jN o o hc) o ?_
 refine q 1 [(8,ts ((W++G)++c))] [] o ?_
 obtain⟨f7,e,h⟩:=al h;rw[e]
 refine zZ 5 o<|cB h λO J h=>ar (mp _ _ _ J) kr o o<|iE h λhc h=>y (jN o o hc) o ?_
 refine zE o ?_
 cases h
 exact aE (rs:=[.tmp 4,.tmp 5]) o (.cons (.tmp o) (.cons (.tmp o) (.nil))) o (λ_ vs g=>aI vs g) (λ_ _ _=>List.nil_sublist _)
theorem sS(c f r)(h:ml c f=some r):bm PP 187 [ts c,ts f] (tb r):=by
 unfold ml at h
 refine enter Tryz.func187 o 8 o o λF=>?_
 refine zU 1 o<|zZ 2 o<|cB h λM u h=>ar (jh _ _ _ u) kr o o<|zE o ?_
 cases h
 exact ax o (.tmp o)
theorem te(c f u r)(h:pH c f u=some r):bm PP 184 [ts c,ti f,ti u] (.tup [⟨.str,r.1⟩,⟨(.int .i64),r.2.1⟩,⟨(.int .i64),r.2.2⟩]):=by
 unfold pH at h
 refine enter Tryz.func184 o 77 o o λF=>?_
 refine zW o<|zs<|zW o<|rI h o (λhc h=>zU 3 o<|zf<|zT<|by cases h;exact aE (rs:=[.tmp 6,.tmp 7,.tmp 8]) o (.cons (.tmp o) (.cons (.tmp o) (.cons (.tmp o) (.nil)))) o (λ_ vs g=>aI vs g) (λ_ _ _=>List.nil_sublist _)) λhc h=>zk<|zt<|zs<|zu<|q 3 [(0,ts c),(1,ti f),(2,ti u),(20,tb (decide (f<0)))] [] o ?_
 obtain⟨W,e,h⟩:=al h;rw[e]
 refine aM 5 [(0,ts c),(1,ti f),(2,ti u),(25,tb (W||(decide (f>(List.length c:Int)))))] [] (?_) ?_
 ·clear h
  cases W
  ·exact zA o<|ap () o o
  exact zA o<|ap () o o
 refine q 1 [(0,ts c),(1,ti f),(2,ti u),(26,tb (W||(decide (f>(List.length c:Int)))))] [] o ?_
 obtain⟨H,e,h⟩:=al h;rw[e]
 refine aM 6 [(0,ts c),(1,ti f),(2,ti u),(32,tb (H||(decide ((wrap .i64 ((List.length c:Int) - f))<16))))] [] (?_) ?_
 ·clear h
  cases H
  ·exact zA o<|ap () o o
  exact zA o<|ap () o o
 refine za<|rI h o (λhc h=>zU 3 o<|zf<|zT<|by cases h;exact aE (rs:=[.tmp 6,.tmp 7,.tmp 8]) o (.cons (.tmp o) (.cons (.tmp o) (.cons (.tmp o) (.nil)))) o (λ_ vs g=>aI vs g) (λ_ _ _=>List.nil_sublist _)) λhc h=>zy<|zm 2 o<|iE h λhc h=>y (jB (i:=f) (j:=(List.length c:Int)) ag o o o hc.1 hc.2.1 hc.2.2 o) o ?_
 refine q 1 [(0,ts (List.drop (Int.toNat f) (List.take (Int.toNat (List.length c:Int)) c))),(2,ti u)] [] o ?_
 obtain⟨M,e,h⟩:=al h;rw[e]
 refine zz<|p 1 [0,2,9] o<|za<|bv h (λV=>[(0,ts M),(2,ti u),(9,ti V)]) (λV=>[]) (λm h=>?_) λV h=>?_
 ·refine zW o<|zb<|ah [0,2,9,36] o<|bg (γ:=Unit) (λ(R:Int×Int) _=>[(0,ts M),(2,ti u),(9,ti R.1),(36,ti R.2)]) (λ(R:Int×Int) _=>[]) (mU M m) (0,0) () h o o ?_
  clear h
  intro G R gg h
  cases G with
  |zero=>cases h
  |succ G=>
  simp only[mU]at h
  refine zW o<|zs<|rI h o (λhc h=>?_) λhc h=>?_
  ·refine zk<|zt<|zs<|zb<|zW o<|zr<|zm 4 o<|iE h λhc h=>y (gq ag o o hc.1 hc.2 o) o ?_
   refine q 3 [(9,ti (ior .i64 (kA .i64 R.1 8) (wrap .i64 (List.getD M (Int.toNat R.2) 0)))),(36,ti R.2)] [0,2] o ?_
   obtain⟨O,e,h⟩:=al h;rw[e]
   exact zn<|zi<|zt<|zr<|zA o<|aX (O,(wrap .i64 (R.2+1))) () (Nat.lt_succ_self _) h o o
  exact zx<|ze<|ze<|zq<|zt<|ai R.1 () h o o
 refine zs<|zu<|q 3 [(0,ts M),(2,ti u),(9,ti V),(49,tb (decide (V>65536)))] [] o ?_
 obtain⟨N,e,h⟩:=al h;rw[e]
 refine aM 6 [(0,ts M),(2,ti u),(9,ti V),(55,tb (N||(decide ((wrap .i64 ((List.length M:Int) - 16))<V))))] [] (?_) ?_
 ·clear h
  cases N
  ·exact zA o<|ap () o o
  exact zA o<|ap () o o
 refine za<|rI h o (λhc h=>zU 3 o<|zf<|zT<|by cases h;exact aE (rs:=[.tmp 6,.tmp 7,.tmp 8]) o (.cons (.tmp o) (.cons (.tmp o) (.cons (.tmp o) (.nil)))) o (λ_ vs g=>aI vs g) (λ_ _ _=>List.nil_sublist _)) λhc h=>zy<|zm 3 o<|iE h λhc h=>y (jB (i:=16) (j:=(wrap .i64 (16+V))) ag o o o hc.1 hc.2.1 hc.2.2 o) o ?_
 refine q 1 [(0,ts M),(2,ti u),(11,ts (List.drop 16 (List.take (Int.toNat (wrap .i64 (16+V))) M)))] [] o ?_
 obtain⟨J,e,h⟩:=al h;rw[e]
 refine zZ 2 o<|cB h λC w h=>ar (rM _ _ _ w) kr o o<|zm 5 o<|zz<|q 3 [(11,ts J),(12,ts C.1),(68,tb (C.2 !=0))] [0] o ?_
 obtain⟨Z,e,h⟩:=al h;rw[e]
 refine bQ h 5 (λd=>[(11,ts J),(12,ts C.1),(73,tb d)]) (λ_=>[]) (λa5 h=>?_) λd h=>?_
 ·cases Z
  ·replace h:=ifF h
   refine zm 2 o<|am dl o ?_
   exact cB h λa3 a4 h=>ar (sS _ _ _ a4) kr o o<|zN o<|zt<|ai (!a3) () h o o
  replace h:=ifT h
  exact zN o<|zt<|ai true () h o o
 refine za<|rI h o (λhc h=>zU 3 o<|zf<|by cases h;exact aE (rs:=[.tmp 6,.tmp 7,.tmp 8]) o (.cons (.tmp o) (.cons (.tmp o) (.cons (.tmp o) (.nil)))) o (λ_ vs g=>aI vs g) (λ_ _ _=>List.nil_sublist _)) λhc h=>zU 6 o<|zf ?_
 cases h
 exact aE (rs:=[.tmp 6,.tmp 7,.tmp 8]) o (.cons (.tmp o) (.cons (.tmp o) (.cons (.tmp o) (.nil)))) o (λ_ vs g=>aI vs g) (λ_ _ _=>List.nil_sublist _)
theorem xl(f r)(h:sJ f=some r):bm PP 159 [ts f] (.tup [⟨(.int .i64),r.1⟩,⟨.bool,r.2⟩]):=by
 unfold sJ at h
 refine enter Tryz.func159 o 37 o o λF=>?_
 refine zW o<|zs<|zW o<|rI h o (λhc h=>zU 2 o<|zf<|zT<|by cases h;exact aE (rs:=[.tmp 2,.tmp 3]) o (.cons (.tmp o) (.cons (.tmp o) (.nil))) o (λ_ vs g=>aI vs g) (λ_ _ _=>List.nil_sublist _)) λhc h=>zy<|q 1 [(0,ts f),(4,.one (.int .u64) 0)] [] o<|za<|bv h (λu=>[(0,ts f),(4,.one (.int .u64) u)]) (λu=>[]) (λV h=>?_) λu h=>?_
 ·refine zW o<|zb<|ah [0,4,5] o<|bg (γ:=Unit) (λ(c:Int×Int) _=>[(0,ts f),(4,.one (.int .u64) c.1),(5,ti c.2)]) (λ(c:Int×Int) _=>[]) (mV f V) (0,4) () h o o ?_
  clear h
  intro M c gg h
  cases M with
  |zero=>cases h
  |succ M=>
  simp only[mV]at h
  refine zs<|zW o<|rI h o (λhc h=>?_) λhc h=>?_
  ·refine zk<|zt<|zs<|zb<|zr<|zm 4 o<|iE h λhc h=>y (gq ag o o hc.1 hc.2 o) o ?_
   refine q 3 [(4,.one (.int .u64) (ior .u64 (kA .u64 c.1 8) (wrap .u64 (List.getD f (Int.toNat c.2) 0)))),(5,ti c.2)] [0] o ?_
   obtain⟨n7,e,h⟩:=al h;rw[e]
   refine zn<|zi<|zt<|zr<|q 3 [(4,.one (.int .u64) n7),(5,ti (wrap .i64 (c.2+1)))] [0] o ?_
   obtain⟨R,e,h⟩:=al h;rw[e]
   exact za<|aX (n7,R) () (Nat.lt_succ_self _) h o o
  exact zx<|ze<|ze<|zq<|zt<|ai c.1 () h o o
 refine zs<|zW o<|rI h o (λhc h=>zU 2 o<|zf<|zT<|by cases h;exact aE (rs:=[.tmp 2,.tmp 3]) o (.cons (.tmp o) (.cons (.tmp o) (.nil))) o (λ_ vs g=>aI vs g) (λ_ _ _=>List.nil_sublist _)) λhc h=>zy<|zm 3 o<|cB h λC W h=>ar (te _ _ _ _ W) kr o o<|zm 7 o<|zz<|zE o ?_
 cases h
 exact aE (rs:=[.tmp 2,.tmp 3]) o (.cons (.tmp o) (.cons (.tmp o) (.nil))) o (λ_ vs g=>aI vs g) (λ_ _ _=>List.nil_sublist _)
theorem xm(f V r)(h:sK f V=some r):Fn PP 160 [ts f,ti V] [] (λv=> .tup [⟨.raw (.slice none 0 0),au v 0⟩,⟨(.int .i64),r.2.1⟩,⟨.bool,r.2.2⟩]) (λv=>[Res.own (au v 0) 9 .str r.1]):=by
 unfold sK at h
 refine enter Tryz.func160 o 52 o o λF=>?_
 refine zW o<|Ak ?_
 refine zU 1 o<|bT (.slice none 0 0) o 9 .str ?_
 refine zz<|q 2 [(0,ts f),(1,ti V),(7,.one W62 (.slice none 0 0)),(8,ti 0)] [] o<|za<|zs<|Al ?_
 refine zt<|jK h (γ:=Value) (λu g3=>[(7,.one W62 g3),(8,ti u.1),(9,tb u.2.1)]) (λu g3=>[Res.own g3 9 .str u.2.2]) (λm h=>?_) λu g3 h=>?_
 ·refine zb<|ah [0,1,7,8] o<|bg (γ:=Value) (λ(c:Int×Int×List (List Int)) g8=>[(0,ts f),(1,ti c.1),(7,.one W62 g8),(8,ti c.2.1)]) (λ(c:Int×Int×List (List Int)) g8=>[Res.own g8 9 .str c.2.2]) (mW f m) (V,0,[]) (.slice none 0 0) h o o ?_
  clear h
  intro C c g8 h
  cases C with
  |zero=>cases h
  |succ C=>
  simp only[mW]at h
  refine zb<|zU 3 o<|cB h λM O h=>ar (te _ _ _ _ O) kr o o<|zA o<|zs<|zb<|zW o<|rI h o (λhc h=>?_) λhc h=>?_
  ·refine zu<|q 3 [(7,.one W62 g8),(8,ti c.2.1),(9,tb (M.2.2==2))] [] o ?_
   obtain⟨w,e,h⟩:=al h;rw[e]
   refine za<|zx<|xK o ?_
   refine ze<|xK o ?_
   exact ze<|zq<|zt<|ai (c.2.1,w,c.2.2) g8 h o o
  refine zW o<|rI h o (λhc h=>?_) λhc h=>?_
  ·refine zU 2 o<|bu (B:=16) ag o el9 o o o (.cons o .nil) o λa2=>?_
   refine iE h λhc h=>bd (B:=16) ag 1 o o (bL 0 o o) o el9 o o hc o λH=>?_
   refine pk [1] o<|zm 1 o<|zz<|q 4 [(7,.one W62 H),(8,ti (wrap .i64 (c.2.1+M.2.1)))] [0] o ?_
   obtain⟨R,e,h⟩:=al h;rw[e]
   refine zz<|q 5 [(8,ti R),(9,tb (decide (R<(List.length f:Int))))] [7] o ?_
   obtain⟨Z,e,h⟩:=al h;rw[e]
   refine za<|zx<|xK o ?_
   refine ze<|xK o ?_
   exact ze<|zq<|zt<|ai (R,Z,(c.2.2++[M.1])) H h o o
  refine zk<|zi<|zt<|zU 2 o<|bu (B:=16) ag o el9 o o o (.cons o .nil) o λa3=>?_
  refine iE h λhc h=>bd (B:=16) ag 1 o o (bL 0 o o) o el9 o o hc o λG=>?_
  refine pk [1] o<|zm 1 o<|zz<|q 4 [(1,ti c.1),(7,.one W62 G),(8,ti (wrap .i64 (c.2.1+M.2.1)))] [0] o ?_
  obtain⟨N,e,h⟩:=al h;rw[e]
  refine za<|zr<|q 3 [(1,ti (wrap .i64 (c.1+1))),(8,ti N)] [0,7] o ?_
  obtain⟨n19,e,h⟩:=al h;rw[e]
  exact zn<|zi<|zt<|aX (n19,N,(c.2.2++[M.1])) G (Nat.lt_succ_self _) h o o
 refine zU 6 o<|zf<|ka ?_
 cases h
 exact aE (rs:=[.tmp 4,.tmp 5,.tmp 6]) o (.cons (.tmp o) (.cons (.tmp o) (.cons (.tmp o) (.nil)))) o (λ_ vs g=>by cases g with|cons W g=>cases g with|cons J g=>cases g with|cons d g=>cases g;exact⟨_,o,.cons (bf W) (.cons J (.cons d (.nil)))⟩) (λ_ vs g=>by cases g with|cons W g=>cases g with|cons J g=>cases g with|cons d g=>cases g;rw[bP W];exact(.cons_cons _ .slnil))
end Sx
